/- The reference's Check of a query (printed by tools/gen122.py). -/
import Derived.Test.YtbegdcjofnfkiaaGreatDoorK2
namespace Go.Proofs.YtbegdcjofnfkiaaGreatDoor
open Go.RowKit Go.Shelf Go.Sort

theorem cr_iff (q : Qu) : checkR wdJ q = true ↔ sizesJ q = true ∧ (∀ (i : Nat) s, q.names[i]? = some s → nameB s = true ∧ wdJ s = 0 ∧ indexB q.names s = i) ∧ (∀ (i : Nat) n, q.shows[i]? = some n → inB n 0 (q.names.length - 1) = true ∧ indexB q.shows n = i) ∧
    (∀ (i : Nat) a, q.atoms[i]? = some a → amOk a = true) ∧ (∀ (i : Nat) t, q.tests[i]? = some t → teOk t = true) ∧ (∀ (i : Nat) a, (argsJ q)[i]? = some a → arOkR q.names.length a = true) ∧ orderJ (varsJ q) = (List.range q.names.length).map fun (i : Nat) => (i : Int) := by
  simp only [checkR, Bool.and_eq_true, decide_eq_true_eq, firstB_iff, List.all_eq_true]
  constructor
  · rintro ⟨⟨⟨⟨⟨⟨⟨⟨h1, h2⟩, h3⟩, h4⟩, h5⟩, h6⟩, h7⟩, h8⟩, h9⟩
    refine ⟨h1, fun i s hs => ?_, fun i n hn => ⟨h4 n (List.mem_of_getElem? hn), h5 i n hn⟩, fun i a ha => h6 a (List.mem_of_getElem? ha), fun i t ht => h7 t (List.mem_of_getElem? ht), fun i a ha => h8 a (List.mem_of_getElem? ha), h9⟩
    have := h2 s (List.mem_of_getElem? hs)
    exact ⟨this.1, this.2, h3 i s hs⟩
  · rintro ⟨h1, h2, h3, h4, h5, h6, h7⟩
    have key : ∀ {α : Type} {l : List α} {x : α}, x ∈ l → ∃ i : Nat, l[i]? = some x := fun h => by
      obtain ⟨i, hi, he⟩ := List.getElem_of_mem h
      exact ⟨i, by rw [List.getElem?_eq_getElem hi, he]⟩
    exact ⟨⟨⟨⟨⟨⟨⟨⟨h1, fun s hs => (key hs).elim fun i h => ⟨(h2 i s h).1, (h2 i s h).2.1⟩⟩, fun i s hs => (h2 i s hs).2.2⟩, fun n hn => (key hn).elim fun i h => (h3 i n h).1⟩, fun i n hn => (h3 i n hn).2⟩, fun a ha => (key ha).elim fun i h => h4 i a h⟩, fun t ht => (key ht).elim fun i h => h5 i t h⟩, fun a ha => (key ha).elim fun i h => h6 i a h⟩, h7⟩
theorem indexB_first {α : Type} [DecidableEq α] {l : List α} {k : Nat} {a : α} (h : l[k]? = some a) : (a ∈ l.take k → indexB l a ≠ k) ∧ (a ∉ l.take k → indexB l a = k) := by
  rcases indexB_get l a with ⟨h1, _⟩ | ⟨i, h1, h2, h3⟩
  · exact absurd (List.mem_of_getElem? h) h1
  · refine ⟨fun hm => ?_, fun hm => ?_⟩
    · obtain ⟨j, hj, he⟩ := List.getElem_of_mem hm
      rw [List.length_take] at hj
      rw [List.getElem_take] at he
      have h4 : l[j]? = some a := by rw [List.getElem?_eq_getElem (by omega), he]
      intro e
      have : i = k := by omega
      exact h2 j (by omega) h4
    · rw [h3]
      rcases Nat.lt_trichotomy i k with h5 | h5 | h5
      · exfalso
        apply hm
        refine List.mem_of_getElem? (i := i) ?_
        rw [List.getElem?_take, if_pos h5]
        exact h1
      · rw [h5]
      · exact absurd h (h2 k h5)
theorem cr_no {q : Qu} {P : Prop} (h1 : ¬ P) (h2 : checkR wdJ q = true → P) : checkJ wdJ q = false := by rw [check_refJ, Bool.eq_false_iff]; exact fun h => h1 (h2 h)
set_option maxRecDepth 100000 in
set_option maxHeartbeats 20000000 in
theorem r50Check_any (q : Qu) (w : World) (hq : QuIn q w w.heap.size) :
    Calls Tryz.prog 27 #[.agg #[.slice q.nA q.nn q.nc, .slice q.sA q.sn q.sc, .slice q.aA q.an q.ac, .slice q.tA q.tn q.tc]] w fun e w' => e = .returned (.int .i64 (okE (checkJ wdJ q))) ∧ Below w.heap.size w w' := by
  have HQu : Hid (∀ W, Below w.heap.size w W → QuIn q W W.heap.size) := fun W hb => hq.keep hb.size hb.block
  have HLen : Hid (q.nn = q.names.length ∧ q.sn = q.shows.length ∧ q.an = q.atoms.length ∧ q.tn = q.tests.length) := ⟨hq.1.1, hq.2.1.1, hq.2.2.1.1, hq.2.2.2.1⟩
  have hnc := hq.1.2.1
  have hncc := hq.1.2.2.1
  have hsc := hq.2.1.2.1
  have hscc := hq.2.1.2.2.1
  have hac := hq.2.2.1.2.1
  have hacc := hq.2.2.1.2.2.1
  have htc := hq.2.2.2.2.1
  have htcc := hq.2.2.2.2.2.1
  obtain ⟨W0, hW0⟩ : ∃ W0, w.alloc (.cells #[.slice q.nA q.nn q.nc, .slice q.sA q.sn q.sc, .slice q.aA q.an q.ac, .slice q.tA q.tn q.tc] 27) = W0 := ⟨_, rfl⟩
  have hBW : Below w.heap.size w W0 := hW0 ▸ (Below.refl _ w).alloc (Nat.le_refl _) _
  have hb0 : QBox q w.heap.size W0 := ⟨hW0 ▸ World.alloc_heap_new _ _⟩
  have HBW := hidp hBW
  have HB0 := hidp hb0
  have HW0 := hidp hW0
  clear hBW hb0 hq hW0
  obtain ⟨x0, x1, x2, x3, l0⟩ := HB0.out.cells
  go_enter Tryz.func27, Tryz.ntmps27
  by_cases h8 : 8 < q.nn
  · have h8' : (8 : Int) < q.nn := by omega
    have HR : Hid (checkJ wdJ q = false) := cj_sizes (by unfold sizesJ; rw [decide_eq_false (p := q.names.length ≤ 8) (by have := HLen.out.1; omega)]; simp)
    go_wp2_with fail
    go_ret
    exact ⟨by rw [HR.out]; rfl, by rw [HW0.out]; exact HBW.out⟩
  have h8' : ¬ (8 : Int) < q.nn := by omega
  go_wp2_with fail
  rw [HW0.out]
  refine (r50in_any q.sn 1 8 _).mono ?_
  rintro e w1 ⟨rfl, rfl⟩
  obtain ⟨p1, hp1⟩ : ∃ b, inB q.sn 1 8 = b := ⟨_, rfl⟩
  rw [hp1]
  have HP1 := hidp hp1
  clear hp1
  cases p1
  · have HR : Hid (checkJ wdJ q = false) := cj_sizes (by unfold sizesJ; rw [← HLen.out.2.1, HP1.out]; simp)
    go_wp2_with fail
    go_ret
    exact ⟨by rw [HR.out]; rfl, HBW.out⟩
  go_wp2_with fail
  refine (r50in_any _ 1 16 _).mono ?_
  rintro e w1 ⟨rfl, rfl⟩
  obtain ⟨p2, hp2⟩ : ∃ b, inB ((q.an : Int) + q.tn) 1 16 = b := ⟨_, rfl⟩
  have HP2 := hidp hp2
  rw [show inB (wrap64 ((q.an : Int) + q.tn)) 1 16 = p2 by rw [inB_wrap (by omega) (by omega)]; exact hp2]
  clear hp2
  cases p2
  · have HR : Hid (checkJ wdJ q = false) := cj_sizes (by unfold sizesJ; rw [← HLen.out.2.2.1, ← HLen.out.2.2.2, HP2.out]; simp)
    go_wp2_with fail
    go_ret
    exact ⟨by rw [HR.out]; rfl, HBW.out⟩
  have hs8 : q.sn ≤ 8 := by have h := HP1.out; simp [inB] at h; omega
  have hat : q.an + q.tn ≤ 16 := by have h := HP2.out; simp [inB] at h; omega
  have HSz : Hid (sizesJ q = true) := by
    show _ = _
    unfold sizesJ
    rw [← HLen.out.1, ← HLen.out.2.1, ← HLen.out.2.2.1, ← HLen.out.2.2.2, HP1.out, HP2.out, decide_eq_true (p := q.nn ≤ 8) (by omega)]
    rfl
  clear x0 x1 x2 x3 l0
  go_wp2_with fail
  go_loopw [3] (fun i wr => ∃ k : Nat, k ≤ q.nn ∧ i = .int .i64 k ∧ QBox q w.heap.size wr ∧ Below w.heap.size w wr ∧ ∀ (j : Nat) s, j < k → q.names[j]? = some s → nameB s = true ∧ wdJ s = 0 ∧ indexB q.names s = j) (fun i _ => q.nn - (intOf i).toNat)
  case atStart => exact ⟨0, by omega, rfl, HB0.out, HBW.out, fun j s h => by omega⟩
  case round =>
  obtain ⟨k, hk, rfl, hqb, hbe, hok⟩ := hrel
  have HQb := hidp hqb
  have HBe := hidp hbe
  have HOk := hidp hok
  obtain ⟨x0, x1, x2, x3, l0⟩ := hqb.cells
  clear hqb hbe hok
  by_cases hkn : k < q.nn
  · have hkn' : (k : Int) < q.nn := by omega
    obtain ⟨b, off, s, hA, _, hs, c0⟩ := nSl.get (HQu.out _ HBe.out).1 hkn
    have hix := ix_strs (c := q.nc) hA hkn
    have lb := lt_of_cell c0
    have HNm := hidp (HQu.out _ HBe.out).1
    have HX := hidp hs
    clear hs hA
    obtain ⟨b1, hb1⟩ : ∃ b, nameB s = b := ⟨_, rfl⟩
    have HB1 := hidp hb1
    clear hb1
    cases b1
    · have HR := hidp (cr_no (q := q) (P := nameB s = true) (by rw [HB1.out]; decide) fun h => (((cr_iff q).1 h).2.1 k s HX.out).1)
      go_wp2_with fail
      refine wp_region_S wr.heap.size 28 (fun _ => false) (Nat.le_refl _) (by kernel_rfl) (by kernel_rfl) (by kernel_rfl) ?_
      dsimp only [List.take, List.drop]
      apply relS_det (mask := [])
      · rfl
      · kernel_rfl
      · kernel_rfl
      · dsimp only [oblS]
        rintro w9 h9
        go_simp
        exact ⟨Below.refl _ _, rfl⟩
      dsimp only [List.nil_append, List.cons_append]
      apply relS_det (mask := [true])
      · rfl
      · kernel_rfl
      · kernel_rfl
      · dsimp only [oblS]
        rintro w9 h9
        have hc9 := (bcell h9).1
        go_simp
        exact ⟨Below.refl _ _, rfl⟩
      dsimp only [List.nil_append, List.cons_append]
      apply relS_det (mask := [false, false])
      · rfl
      · kernel_rfl
      · kernel_rfl
      · dsimp only [oblS]
        rintro w9 h9
        go_simp
        exact ⟨Below.refl _ _, rfl⟩
      dsimp only [List.nil_append, List.cons_append]
      apply relS_det (mask := [false, true, true])
      · rfl
      · kernel_rfl
      · kernel_rfl
      · dsimp only [oblS]
        rintro w9 h9
        go_simp
        exact ⟨Below.refl _ _, rfl⟩
      dsimp only [List.nil_append, List.cons_append]
      apply relS_det (mask := [false, false, false, true])
      · rfl
      · kernel_rfl
      · kernel_rfl
      · dsimp only [oblS]
        rintro w9 h9
        have hc9 := (bcell h9).1
        go_simp
        exact ⟨Below.refl _ _, rfl⟩
      dsimp only [List.nil_append, List.cons_append]
      apply relS_det (mask := [false, false, false, false, true]) (x := .bool false)
      · rfl
      · kernel_rfl
      · kernel_rfl
      · dsimp only [oblS]
        rintro w9 h9
        have hc9 := (bcell h9).1
        go_simp
        refine (r09Name_any s w9).mono ?_
        rintro e W5 ⟨rfl, rfl⟩
        exact ⟨_, rfl, Below.refl _ _, by rw [HB1.out]; rfl⟩
      dsimp only [List.nil_append, List.cons_append]
      apply relS_det (mask := [false, false, false, false, false, true])
      · rfl
      · kernel_rfl
      · kernel_rfl
      · dsimp only [oblS]
        rintro w9 h9
        go_simp
        exact ⟨Below.refl _ _, rfl⟩
      dsimp only [List.nil_append, List.cons_append]
      apply relS_det (mask := [false, false, false, false, false, false, true])
      · rfl
      · kernel_rfl
      · kernel_rfl
      · dsimp only [oblS]
        rintro w9 h9
        go_simp
        exact ⟨Below.refl _ _, rfl⟩
      dsimp only [List.nil_append, List.cons_append]
      apply relS_not (mask := [false, false, false, false, false, false, false, true]) (t := 47) (want := false) (hf := by rfl) (hg := by kernel_rfl) (hm := by kernel_rfl)
      · rfl
      dsimp only [List.nil_append, List.cons_append]
      apply relS_not (mask := [false, false, false, false, false, false, false, true, true]) (t := 47) (want := false) (hf := by rfl) (hg := by kernel_rfl) (hm := by kernel_rfl)
      · rfl
      dsimp only [List.nil_append, List.cons_append]
      apply relS_not (mask := [false, false, false, false, false, false, false, true, false, false]) (t := 47) (want := false) (hf := by rfl) (hg := by kernel_rfl) (hm := by kernel_rfl)
      · rfl
      dsimp only [List.nil_append, List.cons_append]
      apply relS_not (mask := [false, false, false, false, false, false, false, true, false, true, true]) (t := 47) (want := false) (hf := by rfl) (hg := by kernel_rfl) (hm := by kernel_rfl)
      · rfl
      dsimp only [List.nil_append, List.cons_append]
      apply relS_not (mask := [false, false, false, false, false, false, false, true, false, false, false, true]) (t := 47) (want := false) (hf := by rfl) (hg := by kernel_rfl) (hm := by kernel_rfl)
      · rfl
      dsimp only [List.nil_append, List.cons_append]
      apply relS_not (mask := [false, false, false, false, false, false, false, true, false, false, false, false, true]) (t := 47) (want := false) (hf := by rfl) (hg := by kernel_rfl) (hm := by kernel_rfl)
      · rfl
      dsimp only [List.nil_append, List.cons_append]
      apply relS_not (mask := [false, false, false, false, false, false, false, true, false, false, false, false, false, true]) (t := 47) (want := false) (hf := by rfl) (hg := by kernel_rfl) (hm := by kernel_rfl)
      · rfl
      dsimp only [List.nil_append, List.cons_append]
      apply relS_det (mask := [false, false, false, false, false, false, false, true, false, false, false, false, false, false, true])
      · rfl
      · kernel_rfl
      · kernel_rfl
      · dsimp only [oblS]
        rintro w9 h9
        go_simp
        exact ⟨Below.refl _ _, rfl⟩
      dsimp only [List.nil_append, List.cons_append]
      apply relS_det (mask := [false, false, false, false, false, false, false, false, false, false, false, false, false, false, false, true])
      · rfl
      · kernel_rfl
      · kernel_rfl
      · dsimp only [oblS]
        rintro w9 h9
        go_simp
        exact ⟨Below.refl _ _, rfl⟩
      dsimp only [List.nil_append, List.cons_append]
      apply relS_not (mask := [false, false, false, false, false, false, false, false, false, false, false, false, false, false, false, false, true]) (t := 56) (want := false) (hf := by rfl) (hg := by kernel_rfl) (hm := by kernel_rfl)
      · rfl
      dsimp only [List.nil_append, List.cons_append]
      apply relS_not (mask := [false, false, false, false, false, false, false, false, false, false, false, false, false, false, false, false, true, true]) (t := 56) (want := false) (hf := by rfl) (hg := by kernel_rfl) (hm := by kernel_rfl)
      · rfl
      dsimp only [List.nil_append, List.cons_append]
      apply relS_not (mask := [false, false, false, false, false, false, false, false, false, false, false, false, false, false, false, false, true, false, false]) (t := 56) (want := false) (hf := by rfl) (hg := by kernel_rfl) (hm := by kernel_rfl)
      · rfl
      dsimp only [List.nil_append, List.cons_append]
      apply relS_not (mask := [false, false, false, false, false, false, false, false, false, false, false, false, false, false, false, false, true, false, false, true]) (t := 56) (want := false) (hf := by rfl) (hg := by kernel_rfl) (hm := by kernel_rfl)
      · rfl
      dsimp only [List.nil_append, List.cons_append]
      apply relS_not (mask := [false, false, false, false, false, false, false, false, false, false, false, false, false, false, false, false, true, false, false, false, false]) (t := 56) (want := false) (hf := by rfl) (hg := by kernel_rfl) (hm := by kernel_rfl)
      · rfl
      dsimp only [List.nil_append, List.cons_append]
      apply relS_not (mask := [false, false, false, false, false, false, false, false, false, false, false, false, false, false, false, false, true, false, false, false, true, true]) (t := 56) (want := false) (hf := by rfl) (hg := by kernel_rfl) (hm := by kernel_rfl)
      · rfl
      dsimp only [List.nil_append, List.cons_append]
      apply relS_not (mask := [false, false, false, false, false, false, false, false, false, false, false, false, false, false, false, false, true, false, false, false, false, false, true]) (t := 56) (want := false) (hf := by rfl) (hg := by kernel_rfl) (hm := by kernel_rfl)
      · rfl
      dsimp only [List.nil_append, List.cons_append]
      apply relS_not (mask := [false, false, false, false, false, false, false, false, false, false, false, false, false, false, false, false, true, false, true, false, false, false, false, true]) (t := 56) (want := false) (hf := by rfl) (hg := by kernel_rfl) (hm := by kernel_rfl)
      · rfl
      dsimp only [List.nil_append, List.cons_append]
      apply relS_not (mask := [false, false, false, false, false, false, false, false, false, false, false, false, false, false, false, false, true, false, false, false, false, false, false, false, false]) (t := 56) (want := false) (hf := by rfl) (hg := by kernel_rfl) (hm := by kernel_rfl)
      · rfl
      dsimp only [List.nil_append, List.cons_append]
      apply relS_not (mask := [false, false, false, false, false, false, false, false, false, false, false, false, false, false, false, false, true, false, false, false, false, false, false, false, true, true]) (t := 56) (want := false) (hf := by rfl) (hg := by kernel_rfl) (hm := by kernel_rfl)
      · rfl
      dsimp only [List.nil_append, List.cons_append]
      apply relS_det (mask := [false, false, false, false, false, false, false, false, false, false, false, false, false, false, false, false, true, false, false, false, false, false, false, false, false, false, true])
      · rfl
      · kernel_rfl
      · kernel_rfl
      · dsimp only [oblS]
        rintro w9 h9
        go_simp
        exact ⟨Below.refl _ _, rfl⟩
      dsimp only [List.nil_append, List.cons_append]
      refine relS_end (by rfl) ?_
      dsimp only [finS]
      rintro w8 hb8
      have HB8 := hidp (HBe.out.trans (hb8.mono HBe.out.size))
      have HQ8 := hidp (HQb.out.later hb8)
      clear hb8 x0 x1 x2 x3 l0 c0 lb hix
      go_simp
      go_wp2_with fail
      go_ret
      exact ⟨by rw [HR.out]; rfl, HB8.out⟩
    obtain ⟨z5, hz5⟩ : ∃ z, wdJ s = z := ⟨_, rfl⟩
    have HZ5 := hidp hz5
    clear hz5
    by_cases hz0 : z5 = 0
    rotate_left
    · have HR := hidp (cr_no (q := q) (P := wdJ s = 0) (by rw [HZ5.out]; exact hz0) fun h => (((cr_iff q).1 h).2.1 k s HX.out).2.1)
      have hz1 : (z5 != 0) = true := by simpa using hz0
      clear hz0
      go_wp2_with fail
      refine wp_region_S wr.heap.size 28 (fun _ => false) (Nat.le_refl _) (by kernel_rfl) (by kernel_rfl) (by kernel_rfl) ?_
      dsimp only [List.take, List.drop]
      apply relS_det (mask := [])
      · rfl
      · kernel_rfl
      · kernel_rfl
      · dsimp only [oblS]
        rintro w9 h9
        go_simp
        exact ⟨Below.refl _ _, rfl⟩
      dsimp only [List.nil_append, List.cons_append]
      apply relS_det (mask := [true])
      · rfl
      · kernel_rfl
      · kernel_rfl
      · dsimp only [oblS]
        rintro w9 h9
        have hc9 := (bcell h9).1
        go_simp
        exact ⟨Below.refl _ _, rfl⟩
      dsimp only [List.nil_append, List.cons_append]
      apply relS_det (mask := [false, false])
      · rfl
      · kernel_rfl
      · kernel_rfl
      · dsimp only [oblS]
        rintro w9 h9
        go_simp
        exact ⟨Below.refl _ _, rfl⟩
      dsimp only [List.nil_append, List.cons_append]
      apply relS_det (mask := [false, true, true])
      · rfl
      · kernel_rfl
      · kernel_rfl
      · dsimp only [oblS]
        rintro w9 h9
        go_simp
        exact ⟨Below.refl _ _, rfl⟩
      dsimp only [List.nil_append, List.cons_append]
      apply relS_det (mask := [false, false, false, true])
      · rfl
      · kernel_rfl
      · kernel_rfl
      · dsimp only [oblS]
        rintro w9 h9
        have hc9 := (bcell h9).1
        go_simp
        exact ⟨Below.refl _ _, rfl⟩
      dsimp only [List.nil_append, List.cons_append]
      apply relS_det (mask := [false, false, false, false, true]) (x := .bool true)
      · rfl
      · kernel_rfl
      · kernel_rfl
      · dsimp only [oblS]
        rintro w9 h9
        have hc9 := (bcell h9).1
        go_simp
        refine (r09Name_any s w9).mono ?_
        rintro e W5 ⟨rfl, rfl⟩
        exact ⟨_, rfl, Below.refl _ _, by rw [HB1.out]; rfl⟩
      dsimp only [List.nil_append, List.cons_append]
      apply relS_det (mask := [false, false, false, false, false, true])
      · rfl
      · kernel_rfl
      · kernel_rfl
      · dsimp only [oblS]
        rintro w9 h9
        go_simp
        exact ⟨Below.refl _ _, rfl⟩
      dsimp only [List.nil_append, List.cons_append]
      apply relS_det (mask := [false, false, false, false, false, false, true])
      · rfl
      · kernel_rfl
      · kernel_rfl
      · dsimp only [oblS]
        rintro w9 h9
        go_simp
        exact ⟨Below.refl _ _, rfl⟩
      dsimp only [List.nil_append, List.cons_append]
      apply relS_detg (mask := [false, false, false, false, false, false, false, true]) (t := 47) (want := false)
      · rfl
      · kernel_rfl
      · kernel_rfl
      · dsimp only [oblS]
        refine ⟨by rfl, ?_⟩
        rintro w9 h9
        go_simp
        exact ⟨Below.refl _ _, rfl⟩
      dsimp only [List.nil_append, List.cons_append]
      apply relS_detg (mask := [false, false, false, false, false, false, false, true, true]) (t := 47) (want := false)
      · rfl
      · kernel_rfl
      · kernel_rfl
      · dsimp only [oblS]
        refine ⟨by rfl, ?_⟩
        rintro w9 h9
        have hc9 := (bcell h9).1
        go_simp
        exact ⟨Below.refl _ _, rfl⟩
      dsimp only [List.nil_append, List.cons_append]
      apply relS_detg (mask := [false, false, false, false, false, false, false, true, false, false]) (t := 47) (want := false)
      · rfl
      · kernel_rfl
      · kernel_rfl
      · dsimp only [oblS]
        refine ⟨by rfl, ?_⟩
        rintro w9 h9
        go_simp
        exact ⟨Below.refl _ _, rfl⟩
      dsimp only [List.nil_append, List.cons_append]
      apply relS_detg (mask := [false, false, false, false, false, false, false, true, false, true, true]) (t := 47) (want := false)
      · rfl
      · kernel_rfl
      · kernel_rfl
      · dsimp only [oblS]
        refine ⟨by rfl, ?_⟩
        rintro w9 h9
        go_simp
        exact ⟨Below.refl _ _, rfl⟩
      dsimp only [List.nil_append, List.cons_append]
      apply relS_detg (mask := [false, false, false, false, false, false, false, true, false, false, false, true]) (t := 47) (want := false)
      · rfl
      · kernel_rfl
      · kernel_rfl
      · dsimp only [oblS]
        refine ⟨by rfl, ?_⟩
        rintro w9 h9
        have hc9 := (bcell h9).1
        go_simp
        exact ⟨Below.refl _ _, rfl⟩
      dsimp only [List.nil_append, List.cons_append]
      apply relS_detg (mask := [false, false, false, false, false, false, false, true, false, false, false, false, true]) (t := 47) (want := false) (x := .int .i64 z5)
      · rfl
      · kernel_rfl
      · kernel_rfl
      · dsimp only [oblS]
        refine ⟨by rfl, ?_⟩
        rintro w9 h9
        have hc9 := (bcell h9).1
        go_simp
        refine (r50kind_any s w9).mono ?_
        rintro e W5 ⟨rfl, hb5⟩
        exact ⟨_, rfl, hb5, by rw [HZ5.out]; rfl⟩
      dsimp only [List.nil_append, List.cons_append]
      apply relS_detg (mask := [false, false, false, false, false, false, false, true, false, false, false, false, false, true]) (t := 47) (want := false)
      · rfl
      · kernel_rfl
      · kernel_rfl
      · dsimp only [oblS]
        refine ⟨by rfl, ?_⟩
        rintro w9 h9
        go_simp
        exact ⟨Below.refl _ _, rfl⟩
      dsimp only [List.nil_append, List.cons_append]
      apply relS_det (mask := [false, false, false, false, false, false, false, true, false, false, false, false, false, false, true])
      · rfl
      · kernel_rfl
      · kernel_rfl
      · dsimp only [oblS]
        rintro w9 h9
        go_simp
        exact ⟨Below.refl _ _, rfl⟩
      dsimp only [List.nil_append, List.cons_append]
      apply relS_det (mask := [false, false, false, false, false, false, false, false, false, false, false, false, false, false, false, true])
      · rfl
      · kernel_rfl
      · kernel_rfl
      · dsimp only [oblS]
        rintro w9 h9
        go_simp
        exact ⟨Below.refl _ _, rfl⟩
      dsimp only [List.nil_append, List.cons_append]
      apply relS_not (mask := [false, false, false, false, false, false, false, false, false, false, false, false, false, false, false, false, true]) (t := 56) (want := false) (hf := by rfl) (hg := by kernel_rfl) (hm := by kernel_rfl)
      · rfl
      dsimp only [List.nil_append, List.cons_append]
      apply relS_not (mask := [false, false, false, false, false, false, false, false, false, false, false, false, false, false, false, false, true, true]) (t := 56) (want := false) (hf := by rfl) (hg := by kernel_rfl) (hm := by kernel_rfl)
      · rfl
      dsimp only [List.nil_append, List.cons_append]
      apply relS_not (mask := [false, false, false, false, false, false, false, false, false, false, false, false, false, false, false, false, true, false, false]) (t := 56) (want := false) (hf := by rfl) (hg := by kernel_rfl) (hm := by kernel_rfl)
      · rfl
      dsimp only [List.nil_append, List.cons_append]
      apply relS_not (mask := [false, false, false, false, false, false, false, false, false, false, false, false, false, false, false, false, true, false, false, true]) (t := 56) (want := false) (hf := by rfl) (hg := by kernel_rfl) (hm := by kernel_rfl)
      · rfl
      dsimp only [List.nil_append, List.cons_append]
      apply relS_not (mask := [false, false, false, false, false, false, false, false, false, false, false, false, false, false, false, false, true, false, false, false, false]) (t := 56) (want := false) (hf := by rfl) (hg := by kernel_rfl) (hm := by kernel_rfl)
      · rfl
      dsimp only [List.nil_append, List.cons_append]
      apply relS_not (mask := [false, false, false, false, false, false, false, false, false, false, false, false, false, false, false, false, true, false, false, false, true, true]) (t := 56) (want := false) (hf := by rfl) (hg := by kernel_rfl) (hm := by kernel_rfl)
      · rfl
      dsimp only [List.nil_append, List.cons_append]
      apply relS_not (mask := [false, false, false, false, false, false, false, false, false, false, false, false, false, false, false, false, true, false, false, false, false, false, true]) (t := 56) (want := false) (hf := by rfl) (hg := by kernel_rfl) (hm := by kernel_rfl)
      · rfl
      dsimp only [List.nil_append, List.cons_append]
      apply relS_not (mask := [false, false, false, false, false, false, false, false, false, false, false, false, false, false, false, false, true, false, true, false, false, false, false, true]) (t := 56) (want := false) (hf := by rfl) (hg := by kernel_rfl) (hm := by kernel_rfl)
      · rfl
      dsimp only [List.nil_append, List.cons_append]
      apply relS_not (mask := [false, false, false, false, false, false, false, false, false, false, false, false, false, false, false, false, true, false, false, false, false, false, false, false, false]) (t := 56) (want := false) (hf := by rfl) (hg := by kernel_rfl) (hm := by kernel_rfl)
      · rfl
      dsimp only [List.nil_append, List.cons_append]
      apply relS_not (mask := [false, false, false, false, false, false, false, false, false, false, false, false, false, false, false, false, true, false, false, false, false, false, false, false, true, true]) (t := 56) (want := false) (hf := by rfl) (hg := by kernel_rfl) (hm := by kernel_rfl)
      · rfl
      dsimp only [List.nil_append, List.cons_append]
      apply relS_det (mask := [false, false, false, false, false, false, false, false, false, false, false, false, false, false, false, false, true, false, false, false, false, false, false, false, false, false, true])
      · rfl
      · kernel_rfl
      · kernel_rfl
      · dsimp only [oblS]
        rintro w9 h9
        go_simp
        exact ⟨Below.refl _ _, rfl⟩
      dsimp only [List.nil_append, List.cons_append]
      refine relS_end (by rfl) ?_
      dsimp only [finS]
      rintro w8 hb8
      have HB8 := hidp (HBe.out.trans (hb8.mono HBe.out.size))
      have HQ8 := hidp (HQb.out.later hb8)
      clear hb8 x0 x1 x2 x3 l0 c0 lb hix
      go_simp
      go_wp2_with fail
      go_ret
      exact ⟨by rw [HR.out]; rfl, HB8.out⟩
    subst hz0
    obtain ⟨z6, hz6⟩ : ∃ z, indexB q.names s = z := ⟨_, rfl⟩
    have HZ6 := hidp hz6
    clear hz6
    by_cases hz0 : z6 = (k : Int)
    rotate_left
    · have HR := hidp (cr_no (q := q) (P := indexB q.names s = k) (by rw [HZ6.out]; exact hz0) fun h => (((cr_iff q).1 h).2.1 k s HX.out).2.2)
      have hz1 : (z6 != (k : Int)) = true := by simpa using hz0
      clear hz0
      go_wp2_with fail
      refine wp_region_S wr.heap.size 28 (fun _ => false) (Nat.le_refl _) (by kernel_rfl) (by kernel_rfl) (by kernel_rfl) ?_
      dsimp only [List.take, List.drop]
      apply relS_det (mask := [])
      · rfl
      · kernel_rfl
      · kernel_rfl
      · dsimp only [oblS]
        rintro w9 h9
        go_simp
        exact ⟨Below.refl _ _, rfl⟩
      dsimp only [List.nil_append, List.cons_append]
      apply relS_det (mask := [true])
      · rfl
      · kernel_rfl
      · kernel_rfl
      · dsimp only [oblS]
        rintro w9 h9
        have hc9 := (bcell h9).1
        go_simp
        exact ⟨Below.refl _ _, rfl⟩
      dsimp only [List.nil_append, List.cons_append]
      apply relS_det (mask := [false, false])
      · rfl
      · kernel_rfl
      · kernel_rfl
      · dsimp only [oblS]
        rintro w9 h9
        go_simp
        exact ⟨Below.refl _ _, rfl⟩
      dsimp only [List.nil_append, List.cons_append]
      apply relS_det (mask := [false, true, true])
      · rfl
      · kernel_rfl
      · kernel_rfl
      · dsimp only [oblS]
        rintro w9 h9
        go_simp
        exact ⟨Below.refl _ _, rfl⟩
      dsimp only [List.nil_append, List.cons_append]
      apply relS_det (mask := [false, false, false, true])
      · rfl
      · kernel_rfl
      · kernel_rfl
      · dsimp only [oblS]
        rintro w9 h9
        have hc9 := (bcell h9).1
        go_simp
        exact ⟨Below.refl _ _, rfl⟩
      dsimp only [List.nil_append, List.cons_append]
      apply relS_det (mask := [false, false, false, false, true]) (x := .bool true)
      · rfl
      · kernel_rfl
      · kernel_rfl
      · dsimp only [oblS]
        rintro w9 h9
        have hc9 := (bcell h9).1
        go_simp
        refine (r09Name_any s w9).mono ?_
        rintro e W5 ⟨rfl, rfl⟩
        exact ⟨_, rfl, Below.refl _ _, by rw [HB1.out]; rfl⟩
      dsimp only [List.nil_append, List.cons_append]
      apply relS_det (mask := [false, false, false, false, false, true])
      · rfl
      · kernel_rfl
      · kernel_rfl
      · dsimp only [oblS]
        rintro w9 h9
        go_simp
        exact ⟨Below.refl _ _, rfl⟩
      dsimp only [List.nil_append, List.cons_append]
      apply relS_det (mask := [false, false, false, false, false, false, true])
      · rfl
      · kernel_rfl
      · kernel_rfl
      · dsimp only [oblS]
        rintro w9 h9
        go_simp
        exact ⟨Below.refl _ _, rfl⟩
      dsimp only [List.nil_append, List.cons_append]
      apply relS_detg (mask := [false, false, false, false, false, false, false, true]) (t := 47) (want := false)
      · rfl
      · kernel_rfl
      · kernel_rfl
      · dsimp only [oblS]
        refine ⟨by rfl, ?_⟩
        rintro w9 h9
        go_simp
        exact ⟨Below.refl _ _, rfl⟩
      dsimp only [List.nil_append, List.cons_append]
      apply relS_detg (mask := [false, false, false, false, false, false, false, true, true]) (t := 47) (want := false)
      · rfl
      · kernel_rfl
      · kernel_rfl
      · dsimp only [oblS]
        refine ⟨by rfl, ?_⟩
        rintro w9 h9
        have hc9 := (bcell h9).1
        go_simp
        exact ⟨Below.refl _ _, rfl⟩
      dsimp only [List.nil_append, List.cons_append]
      apply relS_detg (mask := [false, false, false, false, false, false, false, true, false, false]) (t := 47) (want := false)
      · rfl
      · kernel_rfl
      · kernel_rfl
      · dsimp only [oblS]
        refine ⟨by rfl, ?_⟩
        rintro w9 h9
        go_simp
        exact ⟨Below.refl _ _, rfl⟩
      dsimp only [List.nil_append, List.cons_append]
      apply relS_detg (mask := [false, false, false, false, false, false, false, true, false, true, true]) (t := 47) (want := false)
      · rfl
      · kernel_rfl
      · kernel_rfl
      · dsimp only [oblS]
        refine ⟨by rfl, ?_⟩
        rintro w9 h9
        go_simp
        exact ⟨Below.refl _ _, rfl⟩
      dsimp only [List.nil_append, List.cons_append]
      apply relS_detg (mask := [false, false, false, false, false, false, false, true, false, false, false, true]) (t := 47) (want := false)
      · rfl
      · kernel_rfl
      · kernel_rfl
      · dsimp only [oblS]
        refine ⟨by rfl, ?_⟩
        rintro w9 h9
        have hc9 := (bcell h9).1
        go_simp
        exact ⟨Below.refl _ _, rfl⟩
      dsimp only [List.nil_append, List.cons_append]
      apply relS_detg (mask := [false, false, false, false, false, false, false, true, false, false, false, false, true]) (t := 47) (want := false) (x := .int .i64 0)
      · rfl
      · kernel_rfl
      · kernel_rfl
      · dsimp only [oblS]
        refine ⟨by rfl, ?_⟩
        rintro w9 h9
        have hc9 := (bcell h9).1
        go_simp
        refine (r50kind_any s w9).mono ?_
        rintro e W5 ⟨rfl, hb5⟩
        exact ⟨_, rfl, hb5, by rw [HZ5.out]; rfl⟩
      dsimp only [List.nil_append, List.cons_append]
      apply relS_detg (mask := [false, false, false, false, false, false, false, true, false, false, false, false, false, true]) (t := 47) (want := false)
      · rfl
      · kernel_rfl
      · kernel_rfl
      · dsimp only [oblS]
        refine ⟨by rfl, ?_⟩
        rintro w9 h9
        go_simp
        exact ⟨Below.refl _ _, rfl⟩
      dsimp only [List.nil_append, List.cons_append]
      apply relS_det (mask := [false, false, false, false, false, false, false, true, false, false, false, false, false, false, true])
      · rfl
      · kernel_rfl
      · kernel_rfl
      · dsimp only [oblS]
        rintro w9 h9
        go_simp
        exact ⟨Below.refl _ _, rfl⟩
      dsimp only [List.nil_append, List.cons_append]
      apply relS_det (mask := [false, false, false, false, false, false, false, false, false, false, false, false, false, false, false, true])
      · rfl
      · kernel_rfl
      · kernel_rfl
      · dsimp only [oblS]
        rintro w9 h9
        go_simp
        exact ⟨Below.refl _ _, rfl⟩
      dsimp only [List.nil_append, List.cons_append]
      apply relS_detg (mask := [false, false, false, false, false, false, false, false, false, false, false, false, false, false, false, false, true]) (t := 56) (want := false)
      · rfl
      · kernel_rfl
      · kernel_rfl
      · dsimp only [oblS]
        refine ⟨by rfl, ?_⟩
        rintro w9 h9
        go_simp
        exact ⟨Below.refl _ _, rfl⟩
      dsimp only [List.nil_append, List.cons_append]
      apply relS_detg (mask := [false, false, false, false, false, false, false, false, false, false, false, false, false, false, false, false, true, true]) (t := 56) (want := false)
      · rfl
      · kernel_rfl
      · kernel_rfl
      · dsimp only [oblS]
        refine ⟨by rfl, ?_⟩
        rintro w9 h9
        have hc9 := (bcell h9).1
        go_simp
        exact ⟨Below.refl _ _, rfl⟩
      dsimp only [List.nil_append, List.cons_append]
      apply relS_detg (mask := [false, false, false, false, false, false, false, false, false, false, false, false, false, false, false, false, true, false, false]) (t := 56) (want := false)
      · rfl
      · kernel_rfl
      · kernel_rfl
      · dsimp only [oblS]
        refine ⟨by rfl, ?_⟩
        rintro w9 h9
        go_simp
        exact ⟨Below.refl _ _, rfl⟩
      dsimp only [List.nil_append, List.cons_append]
      apply relS_detg (mask := [false, false, false, false, false, false, false, false, false, false, false, false, false, false, false, false, true, false, false, true]) (t := 56) (want := false)
      · rfl
      · kernel_rfl
      · kernel_rfl
      · dsimp only [oblS]
        refine ⟨by rfl, ?_⟩
        rintro w9 h9
        have hc9 := (bcell h9).1
        go_simp
        exact ⟨Below.refl _ _, rfl⟩
      dsimp only [List.nil_append, List.cons_append]
      apply relS_detg (mask := [false, false, false, false, false, false, false, false, false, false, false, false, false, false, false, false, true, false, false, false, false]) (t := 56) (want := false)
      · rfl
      · kernel_rfl
      · kernel_rfl
      · dsimp only [oblS]
        refine ⟨by rfl, ?_⟩
        rintro w9 h9
        go_simp
        exact ⟨Below.refl _ _, rfl⟩
      dsimp only [List.nil_append, List.cons_append]
      apply relS_detg (mask := [false, false, false, false, false, false, false, false, false, false, false, false, false, false, false, false, true, false, false, false, true, true]) (t := 56) (want := false)
      · rfl
      · kernel_rfl
      · kernel_rfl
      · dsimp only [oblS]
        refine ⟨by rfl, ?_⟩
        rintro w9 h9
        go_simp
        exact ⟨Below.refl _ _, rfl⟩
      dsimp only [List.nil_append, List.cons_append]
      apply relS_detg (mask := [false, false, false, false, false, false, false, false, false, false, false, false, false, false, false, false, true, false, false, false, false, false, true]) (t := 56) (want := false)
      · rfl
      · kernel_rfl
      · kernel_rfl
      · dsimp only [oblS]
        refine ⟨by rfl, ?_⟩
        rintro w9 h9
        have hc9 := (bcell h9).1
        go_simp
        exact ⟨Below.refl _ _, rfl⟩
      dsimp only [List.nil_append, List.cons_append]
      apply relS_detg (mask := [false, false, false, false, false, false, false, false, false, false, false, false, false, false, false, false, true, false, true, false, false, false, false, true]) (t := 56) (want := false) (x := .int .i64 z6)
      · rfl
      · kernel_rfl
      · kernel_rfl
      · dsimp only [oblS]
        refine ⟨by rfl, ?_⟩
        rintro w9 h9
        have hc9 := (bcell h9).1
        go_simp
        refine (r50find_any q.nA q.nn q.nc q.names s w9 (HNm.out.keep nStable h9.size h9.block)).mono ?_
        rintro e W5 ⟨rfl, rfl⟩
        exact ⟨_, rfl, Below.refl _ _, by rw [HZ6.out]; rfl⟩
      dsimp only [List.nil_append, List.cons_append]
      apply relS_detg (mask := [false, false, false, false, false, false, false, false, false, false, false, false, false, false, false, false, true, false, false, false, false, false, false, false, false]) (t := 56) (want := false)
      · rfl
      · kernel_rfl
      · kernel_rfl
      · dsimp only [oblS]
        refine ⟨by rfl, ?_⟩
        rintro w9 h9
        go_simp
        exact ⟨Below.refl _ _, rfl⟩
      dsimp only [List.nil_append, List.cons_append]
      apply relS_detg (mask := [false, false, false, false, false, false, false, false, false, false, false, false, false, false, false, false, true, false, false, false, false, false, false, false, true, true]) (t := 56) (want := false)
      · rfl
      · kernel_rfl
      · kernel_rfl
      · dsimp only [oblS]
        refine ⟨by rfl, ?_⟩
        rintro w9 h9
        go_simp
        exact ⟨Below.refl _ _, rfl⟩
      dsimp only [List.nil_append, List.cons_append]
      apply relS_det (mask := [false, false, false, false, false, false, false, false, false, false, false, false, false, false, false, false, true, false, false, false, false, false, false, false, false, false, true])
      · rfl
      · kernel_rfl
      · kernel_rfl
      · dsimp only [oblS]
        rintro w9 h9
        go_simp
        exact ⟨Below.refl _ _, rfl⟩
      dsimp only [List.nil_append, List.cons_append]
      refine relS_end (by rfl) ?_
      dsimp only [finS]
      rintro w8 hb8
      have HB8 := hidp (HBe.out.trans (hb8.mono HBe.out.size))
      have HQ8 := hidp (HQb.out.later hb8)
      clear hb8 x0 x1 x2 x3 l0 c0 lb hix
      go_simp
      go_wp2_with fail
      go_ret
      exact ⟨by rw [HR.out]; rfl, HB8.out⟩
    subst hz0
    go_wp2_with fail
    refine wp_region_S wr.heap.size 28 (fun _ => false) (Nat.le_refl _) (by kernel_rfl) (by kernel_rfl) (by kernel_rfl) ?_
    dsimp only [List.take, List.drop]
    apply relS_det (mask := [])
    · rfl
    · kernel_rfl
    · kernel_rfl
    · dsimp only [oblS]
      rintro w9 h9
      go_simp
      exact ⟨Below.refl _ _, rfl⟩
    dsimp only [List.nil_append, List.cons_append]
    apply relS_det (mask := [true])
    · rfl
    · kernel_rfl
    · kernel_rfl
    · dsimp only [oblS]
      rintro w9 h9
      have hc9 := (bcell h9).1
      go_simp
      exact ⟨Below.refl _ _, rfl⟩
    dsimp only [List.nil_append, List.cons_append]
    apply relS_det (mask := [false, false])
    · rfl
    · kernel_rfl
    · kernel_rfl
    · dsimp only [oblS]
      rintro w9 h9
      go_simp
      exact ⟨Below.refl _ _, rfl⟩
    dsimp only [List.nil_append, List.cons_append]
    apply relS_det (mask := [false, true, true])
    · rfl
    · kernel_rfl
    · kernel_rfl
    · dsimp only [oblS]
      rintro w9 h9
      go_simp
      exact ⟨Below.refl _ _, rfl⟩
    dsimp only [List.nil_append, List.cons_append]
    apply relS_det (mask := [false, false, false, true])
    · rfl
    · kernel_rfl
    · kernel_rfl
    · dsimp only [oblS]
      rintro w9 h9
      have hc9 := (bcell h9).1
      go_simp
      exact ⟨Below.refl _ _, rfl⟩
    dsimp only [List.nil_append, List.cons_append]
    apply relS_det (mask := [false, false, false, false, true]) (x := .bool true)
    · rfl
    · kernel_rfl
    · kernel_rfl
    · dsimp only [oblS]
      rintro w9 h9
      have hc9 := (bcell h9).1
      go_simp
      refine (r09Name_any s w9).mono ?_
      rintro e W5 ⟨rfl, rfl⟩
      exact ⟨_, rfl, Below.refl _ _, by rw [HB1.out]; rfl⟩
    dsimp only [List.nil_append, List.cons_append]
    apply relS_det (mask := [false, false, false, false, false, true])
    · rfl
    · kernel_rfl
    · kernel_rfl
    · dsimp only [oblS]
      rintro w9 h9
      go_simp
      exact ⟨Below.refl _ _, rfl⟩
    dsimp only [List.nil_append, List.cons_append]
    apply relS_det (mask := [false, false, false, false, false, false, true])
    · rfl
    · kernel_rfl
    · kernel_rfl
    · dsimp only [oblS]
      rintro w9 h9
      go_simp
      exact ⟨Below.refl _ _, rfl⟩
    dsimp only [List.nil_append, List.cons_append]
    apply relS_detg (mask := [false, false, false, false, false, false, false, true]) (t := 47) (want := false)
    · rfl
    · kernel_rfl
    · kernel_rfl
    · dsimp only [oblS]
      refine ⟨by rfl, ?_⟩
      rintro w9 h9
      go_simp
      exact ⟨Below.refl _ _, rfl⟩
    dsimp only [List.nil_append, List.cons_append]
    apply relS_detg (mask := [false, false, false, false, false, false, false, true, true]) (t := 47) (want := false)
    · rfl
    · kernel_rfl
    · kernel_rfl
    · dsimp only [oblS]
      refine ⟨by rfl, ?_⟩
      rintro w9 h9
      have hc9 := (bcell h9).1
      go_simp
      exact ⟨Below.refl _ _, rfl⟩
    dsimp only [List.nil_append, List.cons_append]
    apply relS_detg (mask := [false, false, false, false, false, false, false, true, false, false]) (t := 47) (want := false)
    · rfl
    · kernel_rfl
    · kernel_rfl
    · dsimp only [oblS]
      refine ⟨by rfl, ?_⟩
      rintro w9 h9
      go_simp
      exact ⟨Below.refl _ _, rfl⟩
    dsimp only [List.nil_append, List.cons_append]
    apply relS_detg (mask := [false, false, false, false, false, false, false, true, false, true, true]) (t := 47) (want := false)
    · rfl
    · kernel_rfl
    · kernel_rfl
    · dsimp only [oblS]
      refine ⟨by rfl, ?_⟩
      rintro w9 h9
      go_simp
      exact ⟨Below.refl _ _, rfl⟩
    dsimp only [List.nil_append, List.cons_append]
    apply relS_detg (mask := [false, false, false, false, false, false, false, true, false, false, false, true]) (t := 47) (want := false)
    · rfl
    · kernel_rfl
    · kernel_rfl
    · dsimp only [oblS]
      refine ⟨by rfl, ?_⟩
      rintro w9 h9
      have hc9 := (bcell h9).1
      go_simp
      exact ⟨Below.refl _ _, rfl⟩
    dsimp only [List.nil_append, List.cons_append]
    apply relS_detg (mask := [false, false, false, false, false, false, false, true, false, false, false, false, true]) (t := 47) (want := false) (x := .int .i64 0)
    · rfl
    · kernel_rfl
    · kernel_rfl
    · dsimp only [oblS]
      refine ⟨by rfl, ?_⟩
      rintro w9 h9
      have hc9 := (bcell h9).1
      go_simp
      refine (r50kind_any s w9).mono ?_
      rintro e W5 ⟨rfl, hb5⟩
      exact ⟨_, rfl, hb5, by rw [HZ5.out]; rfl⟩
    dsimp only [List.nil_append, List.cons_append]
    apply relS_detg (mask := [false, false, false, false, false, false, false, true, false, false, false, false, false, true]) (t := 47) (want := false)
    · rfl
    · kernel_rfl
    · kernel_rfl
    · dsimp only [oblS]
      refine ⟨by rfl, ?_⟩
      rintro w9 h9
      go_simp
      exact ⟨Below.refl _ _, rfl⟩
    dsimp only [List.nil_append, List.cons_append]
    apply relS_det (mask := [false, false, false, false, false, false, false, true, false, false, false, false, false, false, true])
    · rfl
    · kernel_rfl
    · kernel_rfl
    · dsimp only [oblS]
      rintro w9 h9
      go_simp
      exact ⟨Below.refl _ _, rfl⟩
    dsimp only [List.nil_append, List.cons_append]
    apply relS_det (mask := [false, false, false, false, false, false, false, false, false, false, false, false, false, false, false, true])
    · rfl
    · kernel_rfl
    · kernel_rfl
    · dsimp only [oblS]
      rintro w9 h9
      go_simp
      exact ⟨Below.refl _ _, rfl⟩
    dsimp only [List.nil_append, List.cons_append]
    apply relS_detg (mask := [false, false, false, false, false, false, false, false, false, false, false, false, false, false, false, false, true]) (t := 56) (want := false)
    · rfl
    · kernel_rfl
    · kernel_rfl
    · dsimp only [oblS]
      refine ⟨by rfl, ?_⟩
      rintro w9 h9
      go_simp
      exact ⟨Below.refl _ _, rfl⟩
    dsimp only [List.nil_append, List.cons_append]
    apply relS_detg (mask := [false, false, false, false, false, false, false, false, false, false, false, false, false, false, false, false, true, true]) (t := 56) (want := false)
    · rfl
    · kernel_rfl
    · kernel_rfl
    · dsimp only [oblS]
      refine ⟨by rfl, ?_⟩
      rintro w9 h9
      have hc9 := (bcell h9).1
      go_simp
      exact ⟨Below.refl _ _, rfl⟩
    dsimp only [List.nil_append, List.cons_append]
    apply relS_detg (mask := [false, false, false, false, false, false, false, false, false, false, false, false, false, false, false, false, true, false, false]) (t := 56) (want := false)
    · rfl
    · kernel_rfl
    · kernel_rfl
    · dsimp only [oblS]
      refine ⟨by rfl, ?_⟩
      rintro w9 h9
      go_simp
      exact ⟨Below.refl _ _, rfl⟩
    dsimp only [List.nil_append, List.cons_append]
    apply relS_detg (mask := [false, false, false, false, false, false, false, false, false, false, false, false, false, false, false, false, true, false, false, true]) (t := 56) (want := false)
    · rfl
    · kernel_rfl
    · kernel_rfl
    · dsimp only [oblS]
      refine ⟨by rfl, ?_⟩
      rintro w9 h9
      have hc9 := (bcell h9).1
      go_simp
      exact ⟨Below.refl _ _, rfl⟩
    dsimp only [List.nil_append, List.cons_append]
    apply relS_detg (mask := [false, false, false, false, false, false, false, false, false, false, false, false, false, false, false, false, true, false, false, false, false]) (t := 56) (want := false)
    · rfl
    · kernel_rfl
    · kernel_rfl
    · dsimp only [oblS]
      refine ⟨by rfl, ?_⟩
      rintro w9 h9
      go_simp
      exact ⟨Below.refl _ _, rfl⟩
    dsimp only [List.nil_append, List.cons_append]
    apply relS_detg (mask := [false, false, false, false, false, false, false, false, false, false, false, false, false, false, false, false, true, false, false, false, true, true]) (t := 56) (want := false)
    · rfl
    · kernel_rfl
    · kernel_rfl
    · dsimp only [oblS]
      refine ⟨by rfl, ?_⟩
      rintro w9 h9
      go_simp
      exact ⟨Below.refl _ _, rfl⟩
    dsimp only [List.nil_append, List.cons_append]
    apply relS_detg (mask := [false, false, false, false, false, false, false, false, false, false, false, false, false, false, false, false, true, false, false, false, false, false, true]) (t := 56) (want := false)
    · rfl
    · kernel_rfl
    · kernel_rfl
    · dsimp only [oblS]
      refine ⟨by rfl, ?_⟩
      rintro w9 h9
      have hc9 := (bcell h9).1
      go_simp
      exact ⟨Below.refl _ _, rfl⟩
    dsimp only [List.nil_append, List.cons_append]
    apply relS_detg (mask := [false, false, false, false, false, false, false, false, false, false, false, false, false, false, false, false, true, false, true, false, false, false, false, true]) (t := 56) (want := false) (x := .int .i64 (k : Int))
    · rfl
    · kernel_rfl
    · kernel_rfl
    · dsimp only [oblS]
      refine ⟨by rfl, ?_⟩
      rintro w9 h9
      have hc9 := (bcell h9).1
      go_simp
      refine (r50find_any q.nA q.nn q.nc q.names s w9 (HNm.out.keep nStable h9.size h9.block)).mono ?_
      rintro e W5 ⟨rfl, rfl⟩
      exact ⟨_, rfl, Below.refl _ _, by rw [HZ6.out]; rfl⟩
    dsimp only [List.nil_append, List.cons_append]
    apply relS_detg (mask := [false, false, false, false, false, false, false, false, false, false, false, false, false, false, false, false, true, false, false, false, false, false, false, false, false]) (t := 56) (want := false)
    · rfl
    · kernel_rfl
    · kernel_rfl
    · dsimp only [oblS]
      refine ⟨by rfl, ?_⟩
      rintro w9 h9
      go_simp
      exact ⟨Below.refl _ _, rfl⟩
    dsimp only [List.nil_append, List.cons_append]
    apply relS_detg (mask := [false, false, false, false, false, false, false, false, false, false, false, false, false, false, false, false, true, false, false, false, false, false, false, false, true, true]) (t := 56) (want := false)
    · rfl
    · kernel_rfl
    · kernel_rfl
    · dsimp only [oblS]
      refine ⟨by rfl, ?_⟩
      rintro w9 h9
      go_simp
      exact ⟨Below.refl _ _, rfl⟩
    dsimp only [List.nil_append, List.cons_append]
    apply relS_det (mask := [false, false, false, false, false, false, false, false, false, false, false, false, false, false, false, false, true, false, false, false, false, false, false, false, false, false, true])
    · rfl
    · kernel_rfl
    · kernel_rfl
    · dsimp only [oblS]
      rintro w9 h9
      go_simp
      exact ⟨Below.refl _ _, rfl⟩
    dsimp only [List.nil_append, List.cons_append]
    refine relS_end (by rfl) ?_
    dsimp only [finS]
    rintro w8 hb8
    have HB8 := hidp (HBe.out.trans (hb8.mono HBe.out.size))
    have HQ8 := hidp (HQb.out.later hb8)
    clear hb8 x0 x1 x2 x3 l0 c0 lb hix
    go_simp
    go_wp2_with fail
    go_roundw
    case rel => exact ⟨k + 1, by omega, by go_num, HQ8.out, HB8.out, fun j t hj ht => by
      rcases Nat.lt_or_ge j k with h | h
      · exact HOk.out j t h ht
      · obtain rfl : j = k := by omega
        rw [HX.out] at ht
        obtain rfl := Option.some.inj ht
        exact ⟨HB1.out, HZ5.out, HZ6.out⟩⟩
    case measure => simp [intOf]; omega
  have hke : k = q.nn := by omega
  subst hke
  have hkk : ¬ ((q.nn : Int) < q.nn) := by omega
  have HNames : Hid (∀ (j : Nat) s, q.names[j]? = some s → nameB s = true ∧ wdJ s = 0 ∧ indexB q.names s = j) := fun j s hs => HOk.out j s (by have := (List.getElem?_eq_some_iff.1 hs).1; have := HLen.out.1; omega) hs
  clear HOk
  rename World => wA
  have HQA := HQb
  have HBA := HBe
  clear HQb HBe
  obtain ⟨i0, hi, hz, hss, hbb⟩ := info_parts iInfo
  go_wp2_with fail
  clear x0 x1 x2 x3 l0
  go_loopw [4] (fun i wr => ∃ k : Nat, k ≤ q.sn ∧ i = .int .i64 k ∧ QBox q w.heap.size wr ∧ Below w.heap.size w wr ∧ ∀ (j : Nat) n, j < k → q.shows[j]? = some n → inB n 0 ((q.names.length : Int) - 1) = true ∧ indexB q.shows n = j) (fun i _ => q.sn - (intOf i).toNat)
  case atStart => exact ⟨0, by omega, rfl, HQA.out, HBA.out, fun j s h => by omega⟩
  case round =>
  obtain ⟨k, hk, rfl, hqb, hbe, hok⟩ := hrel
  have HQb := hidp hqb
  have HBe := hidp hbe
  have HOk := hidp hok
  obtain ⟨x0, x1, x2, x3, l0⟩ := hqb.cells
  clear hqb hbe hok HQA HBA
  by_cases hkn : k < q.sn
  · have hkn' : (k : Int) < q.sn := by omega
    obtain ⟨b, off, n, hA, _, hs, c0⟩ := iSl.get (HQu.out _ HBe.out).2.1 hkn
    have hix := ix_ints (c := q.sc) hA hkn
    have lb := lt_of_cell c0
    have hcut2 := fun W => run_cut_high (P := Tryz.prog) W Tryz.underlying23 hi q.sA q.sn q.sc k .i64 (k : Int) rfl (by omega)
    have HSh : Hid (∀ W, Below wr.heap.size wr W → iSl W W.heap.size q.sA k q.sc (q.shows.take k)) := fun W h => ((HQu.out _ (HBe.out.trans (h.mono HBe.out.size))).2.1).take (by omega)
    have HX := hidp hs
    have hnn8 : q.nn ≤ 8 := by omega
    have hw1 : IntKind.i64.wrap ((q.nn : Int) - 1) = (q.nn : Int) - 1 := IntWalk.i64_in _ (by omega)
    clear hs hA
    obtain ⟨b1, hb1⟩ : ∃ b, inB n 0 ((q.nn : Int) - 1) = b := ⟨_, rfl⟩
    have HB1 := hidp hb1
    clear hb1
    cases b1
    · have HR := hidp (cr_no (q := q) (P := inB n 0 ((q.names.length : Int) - 1) = true) (by rw [← HLen.out.1, HB1.out]; decide) fun h => (((cr_iff q).1 h).2.2.1 k n HX.out).1)
      go_wp2_with fail
      refine wp_region_S wr.heap.size 23 (fun _ => false) (Nat.le_refl _) (by kernel_rfl) (by kernel_rfl) (by kernel_rfl) ?_
      dsimp only [List.take, List.drop]
      apply relS_det (mask := [])
      · rfl
      · kernel_rfl
      · kernel_rfl
      · dsimp only [oblS]
        rintro w9 h9
        go_simp
        exact ⟨Below.refl _ _, rfl⟩
      dsimp only [List.nil_append, List.cons_append]
      apply relS_det (mask := [true])
      · rfl
      · kernel_rfl
      · kernel_rfl
      · dsimp only [oblS]
        rintro w9 h9
        have hc9 := (bcell h9).1
        go_simp
        exact ⟨Below.refl _ _, rfl⟩
      dsimp only [List.nil_append, List.cons_append]
      apply relS_det (mask := [false, false])
      · rfl
      · kernel_rfl
      · kernel_rfl
      · dsimp only [oblS]
        rintro w9 h9
        go_simp
        exact ⟨Below.refl _ _, rfl⟩
      dsimp only [List.nil_append, List.cons_append]
      apply relS_det (mask := [false, true, true])
      · rfl
      · kernel_rfl
      · kernel_rfl
      · dsimp only [oblS]
        rintro w9 h9
        go_simp
        exact ⟨Below.refl _ _, rfl⟩
      dsimp only [List.nil_append, List.cons_append]
      apply relS_det (mask := [false, false, false, true])
      · rfl
      · kernel_rfl
      · kernel_rfl
      · dsimp only [oblS]
        rintro w9 h9
        have hc9 := (bcell h9).1
        go_simp
        exact ⟨Below.refl _ _, rfl⟩
      dsimp only [List.nil_append, List.cons_append]
      apply relS_det (mask := [false, false, false, false, false])
      · rfl
      · kernel_rfl
      · kernel_rfl
      · dsimp only [oblS]
        rintro w9 h9
        go_simp
        exact ⟨Below.refl _ _, rfl⟩
      dsimp only [List.nil_append, List.cons_append]
      apply relS_det (mask := [false, false, false, false, false, true])
      · rfl
      · kernel_rfl
      · kernel_rfl
      · dsimp only [oblS]
        rintro w9 h9
        have hc9 := (bcell h9).1
        go_simp
        exact ⟨Below.refl _ _, rfl⟩
      dsimp only [List.nil_append, List.cons_append]
      apply relS_det (mask := [false, false, false, false, false, false, true])
      · rfl
      · kernel_rfl
      · kernel_rfl
      · dsimp only [oblS]
        rintro w9 h9
        go_simp
        exact ⟨Below.refl _ _, rfl⟩
      dsimp only [List.nil_append, List.cons_append]
      apply relS_det (mask := [false, false, false, false, false, false, false, true])
      · rfl
      · kernel_rfl
      · kernel_rfl
      · dsimp only [oblS]
        rintro w9 h9
        go_simp
        exact ⟨Below.refl _ _, rfl⟩
      dsimp only [List.nil_append, List.cons_append]
      apply relS_det (mask := [false, false, false, false, true, false, false, false, true]) (x := .bool false)
      · rfl
      · kernel_rfl
      · kernel_rfl
      · dsimp only [oblS]
        rintro w9 h9
        have hc9 := (bcell h9).1
        go_simp
        refine (r50in_any n 0 ((q.nn : Int) - 1) w9).mono ?_
        rintro e W5 ⟨rfl, rfl⟩
        exact ⟨_, rfl, Below.refl _ _, by rw [HB1.out]; rfl⟩
      dsimp only [List.nil_append, List.cons_append]
      apply relS_det (mask := [false, false, false, false, false, false, false, false, false, true])
      · rfl
      · kernel_rfl
      · kernel_rfl
      · dsimp only [oblS]
        rintro w9 h9
        go_simp
        exact ⟨Below.refl _ _, rfl⟩
      dsimp only [List.nil_append, List.cons_append]
      apply relS_det (mask := [false, false, false, false, false, false, false, false, false, false, true])
      · rfl
      · kernel_rfl
      · kernel_rfl
      · dsimp only [oblS]
        rintro w9 h9
        go_simp
        exact ⟨Below.refl _ _, rfl⟩
      dsimp only [List.nil_append, List.cons_append]
      apply relS_not (mask := [false, false, false, false, false, false, false, false, false, false, false, true]) (t := 86) (want := false) (hf := by rfl) (hg := by kernel_rfl) (hm := by kernel_rfl)
      · rfl
      dsimp only [List.nil_append, List.cons_append]
      apply relS_not (mask := [false, false, false, false, false, false, false, false, false, false, false, true, true]) (t := 86) (want := false) (hf := by rfl) (hg := by kernel_rfl) (hm := by kernel_rfl)
      · rfl
      dsimp only [List.nil_append, List.cons_append]
      apply relS_not (mask := [false, false, false, false, false, false, false, false, false, false, false, true, false, false]) (t := 86) (want := false) (hf := by rfl) (hg := by kernel_rfl) (hm := by kernel_rfl)
      · rfl
      dsimp only [List.nil_append, List.cons_append]
      apply relS_not (mask := [false, false, false, false, false, false, false, false, false, false, false, true, false, true, true]) (t := 86) (want := false) (hf := by rfl) (hg := by kernel_rfl) (hm := by kernel_rfl)
      · rfl
      dsimp only [List.nil_append, List.cons_append]
      apply relS_not (mask := [false, false, false, false, false, false, false, false, false, false, false, true, false, false, false, false]) (t := 86) (want := false) (hf := by rfl) (hg := by kernel_rfl) (hm := by kernel_rfl)
      · rfl
      dsimp only [List.nil_append, List.cons_append]
      apply relS_not (mask := [false, false, false, false, false, false, false, false, false, false, false, true, false, false, false, false, true]) (t := 86) (want := false) (hf := by rfl) (hg := by kernel_rfl) (hm := by kernel_rfl)
      · rfl
      dsimp only [List.nil_append, List.cons_append]
      apply relS_not (mask := [false, false, false, false, false, false, false, false, false, false, false, true, false, false, false, false, false, false]) (t := 86) (want := false) (hf := by rfl) (hg := by kernel_rfl) (hm := by kernel_rfl)
      · rfl
      dsimp only [List.nil_append, List.cons_append]
      apply relS_not (mask := [false, false, false, false, false, false, false, false, false, false, false, true, false, false, false, false, false, true, true]) (t := 86) (want := false) (hf := by rfl) (hg := by kernel_rfl) (hm := by kernel_rfl)
      · rfl
      dsimp only [List.nil_append, List.cons_append]
      apply relS_not (mask := [false, false, false, false, false, false, false, false, false, false, false, true, false, false, false, false, false, false, false, true]) (t := 86) (want := false) (hf := by rfl) (hg := by kernel_rfl) (hm := by kernel_rfl)
      · rfl
      dsimp only [List.nil_append, List.cons_append]
      apply relS_not (mask := [false, false, false, false, false, false, false, false, false, false, false, true, false, false, false, true, false, false, false, false, true]) (t := 86) (want := false) (hf := by rfl) (hg := by kernel_rfl) (hm := by kernel_rfl)
      · rfl
      dsimp only [List.nil_append, List.cons_append]
      apply relS_det (mask := [false, false, false, false, false, false, false, false, false, false, false, true, false, false, false, false, false, false, false, false, false, true])
      · rfl
      · kernel_rfl
      · kernel_rfl
      · dsimp only [oblS]
        rintro w9 h9
        go_simp
        exact ⟨Below.refl _ _, rfl⟩
      dsimp only [List.nil_append, List.cons_append]
      refine relS_end (by rfl) ?_
      dsimp only [finS]
      rintro w8 hb8
      have HB8 := hidp (HBe.out.trans (hb8.mono HBe.out.size))
      have HQ8 := hidp (HQb.out.later hb8)
      clear hb8 x0 x1 x2 x3 l0 c0 lb hix hcut2
      go_simp
      go_wp2_with fail
      go_ret
      exact ⟨by rw [HR.out]; rfl, HB8.out⟩
    obtain ⟨b2, hb2⟩ : ∃ b, decide (n ∈ q.shows.take k) = b := ⟨_, rfl⟩
    have HB2 := hidp hb2
    clear hb2
    cases b2
    rotate_left
    · have HR := hidp (cr_no (q := q) (P := indexB q.shows n = k) ((indexB_first HX.out).1 (of_decide_eq_true HB2.out)) fun h => (((cr_iff q).1 h).2.2.1 k n HX.out).2)
      go_wp2_with fail
      refine wp_region_S wr.heap.size 23 (fun _ => false) (Nat.le_refl _) (by kernel_rfl) (by kernel_rfl) (by kernel_rfl) ?_
      dsimp only [List.take, List.drop]
      apply relS_det (mask := [])
      · rfl
      · kernel_rfl
      · kernel_rfl
      · dsimp only [oblS]
        rintro w9 h9
        go_simp
        exact ⟨Below.refl _ _, rfl⟩
      dsimp only [List.nil_append, List.cons_append]
      apply relS_det (mask := [true])
      · rfl
      · kernel_rfl
      · kernel_rfl
      · dsimp only [oblS]
        rintro w9 h9
        have hc9 := (bcell h9).1
        go_simp
        exact ⟨Below.refl _ _, rfl⟩
      dsimp only [List.nil_append, List.cons_append]
      apply relS_det (mask := [false, false])
      · rfl
      · kernel_rfl
      · kernel_rfl
      · dsimp only [oblS]
        rintro w9 h9
        go_simp
        exact ⟨Below.refl _ _, rfl⟩
      dsimp only [List.nil_append, List.cons_append]
      apply relS_det (mask := [false, true, true])
      · rfl
      · kernel_rfl
      · kernel_rfl
      · dsimp only [oblS]
        rintro w9 h9
        go_simp
        exact ⟨Below.refl _ _, rfl⟩
      dsimp only [List.nil_append, List.cons_append]
      apply relS_det (mask := [false, false, false, true])
      · rfl
      · kernel_rfl
      · kernel_rfl
      · dsimp only [oblS]
        rintro w9 h9
        have hc9 := (bcell h9).1
        go_simp
        exact ⟨Below.refl _ _, rfl⟩
      dsimp only [List.nil_append, List.cons_append]
      apply relS_det (mask := [false, false, false, false, false])
      · rfl
      · kernel_rfl
      · kernel_rfl
      · dsimp only [oblS]
        rintro w9 h9
        go_simp
        exact ⟨Below.refl _ _, rfl⟩
      dsimp only [List.nil_append, List.cons_append]
      apply relS_det (mask := [false, false, false, false, false, true])
      · rfl
      · kernel_rfl
      · kernel_rfl
      · dsimp only [oblS]
        rintro w9 h9
        have hc9 := (bcell h9).1
        go_simp
        exact ⟨Below.refl _ _, rfl⟩
      dsimp only [List.nil_append, List.cons_append]
      apply relS_det (mask := [false, false, false, false, false, false, true])
      · rfl
      · kernel_rfl
      · kernel_rfl
      · dsimp only [oblS]
        rintro w9 h9
        go_simp
        exact ⟨Below.refl _ _, rfl⟩
      dsimp only [List.nil_append, List.cons_append]
      apply relS_det (mask := [false, false, false, false, false, false, false, true])
      · rfl
      · kernel_rfl
      · kernel_rfl
      · dsimp only [oblS]
        rintro w9 h9
        go_simp
        exact ⟨Below.refl _ _, rfl⟩
      dsimp only [List.nil_append, List.cons_append]
      apply relS_det (mask := [false, false, false, false, true, false, false, false, true]) (x := .bool true)
      · rfl
      · kernel_rfl
      · kernel_rfl
      · dsimp only [oblS]
        rintro w9 h9
        have hc9 := (bcell h9).1
        go_simp
        refine (r50in_any n 0 ((q.nn : Int) - 1) w9).mono ?_
        rintro e W5 ⟨rfl, rfl⟩
        exact ⟨_, rfl, Below.refl _ _, by rw [HB1.out]; rfl⟩
      dsimp only [List.nil_append, List.cons_append]
      apply relS_det (mask := [false, false, false, false, false, false, false, false, false, true])
      · rfl
      · kernel_rfl
      · kernel_rfl
      · dsimp only [oblS]
        rintro w9 h9
        go_simp
        exact ⟨Below.refl _ _, rfl⟩
      dsimp only [List.nil_append, List.cons_append]
      apply relS_det (mask := [false, false, false, false, false, false, false, false, false, false, true])
      · rfl
      · kernel_rfl
      · kernel_rfl
      · dsimp only [oblS]
        rintro w9 h9
        go_simp
        exact ⟨Below.refl _ _, rfl⟩
      dsimp only [List.nil_append, List.cons_append]
      apply relS_detg (mask := [false, false, false, false, false, false, false, false, false, false, false, true]) (t := 86) (want := false)
      · rfl
      · kernel_rfl
      · kernel_rfl
      · dsimp only [oblS]
        refine ⟨by rfl, ?_⟩
        rintro w9 h9
        go_simp
        exact ⟨Below.refl _ _, rfl⟩
      dsimp only [List.nil_append, List.cons_append]
      apply relS_detg (mask := [false, false, false, false, false, false, false, false, false, false, false, true, true]) (t := 86) (want := false)
      · rfl
      · kernel_rfl
      · kernel_rfl
      · dsimp only [oblS]
        refine ⟨by rfl, ?_⟩
        rintro w9 h9
        have hc9 := (bcell h9).1
        go_simp
        exact ⟨Below.refl _ _, rfl⟩
      dsimp only [List.nil_append, List.cons_append]
      apply relS_detg (mask := [false, false, false, false, false, false, false, false, false, false, false, true, false, false]) (t := 86) (want := false)
      · rfl
      · kernel_rfl
      · kernel_rfl
      · dsimp only [oblS]
        refine ⟨by rfl, ?_⟩
        rintro w9 h9
        go_simp
        exact ⟨Below.refl _ _, rfl⟩
      dsimp only [List.nil_append, List.cons_append]
      apply relS_detg (mask := [false, false, false, false, false, false, false, false, false, false, false, true, false, true, true]) (t := 86) (want := false)
      · rfl
      · kernel_rfl
      · kernel_rfl
      · dsimp only [oblS]
        refine ⟨by rfl, ?_⟩
        rintro w9 h9
        go_simp
        exact ⟨Below.refl _ _, rfl⟩
      dsimp only [List.nil_append, List.cons_append]
      apply relS_detg (mask := [false, false, false, false, false, false, false, false, false, false, false, true, false, false, false, false]) (t := 86) (want := false)
      · rfl
      · kernel_rfl
      · kernel_rfl
      · dsimp only [oblS]
        refine ⟨by rfl, ?_⟩
        rintro w9 h9
        go_simp
        exact ⟨Below.refl _ _, rfl⟩
      dsimp only [List.nil_append, List.cons_append]
      apply relS_detg (mask := [false, false, false, false, false, false, false, false, false, false, false, true, false, false, false, false, true]) (t := 86) (want := false)
      · rfl
      · kernel_rfl
      · kernel_rfl
      · dsimp only [oblS]
        refine ⟨by rfl, ?_⟩
        rintro w9 h9
        have hc9 := (bcell h9).1
        go_simp
        exact ⟨Below.refl _ _, rfl⟩
      dsimp only [List.nil_append, List.cons_append]
      apply relS_detg (mask := [false, false, false, false, false, false, false, false, false, false, false, true, false, false, false, false, false, false]) (t := 86) (want := false)
      · rfl
      · kernel_rfl
      · kernel_rfl
      · dsimp only [oblS]
        refine ⟨by rfl, ?_⟩
        rintro w9 h9
        go_simp
        exact ⟨Below.refl _ _, rfl⟩
      dsimp only [List.nil_append, List.cons_append]
      apply relS_detg (mask := [false, false, false, false, false, false, false, false, false, false, false, true, false, false, false, false, false, true, true]) (t := 86) (want := false)
      · rfl
      · kernel_rfl
      · kernel_rfl
      · dsimp only [oblS]
        refine ⟨by rfl, ?_⟩
        rintro w9 h9
        go_simp
        exact ⟨Below.refl _ _, rfl⟩
      dsimp only [List.nil_append, List.cons_append]
      apply relS_detg (mask := [false, false, false, false, false, false, false, false, false, false, false, true, false, false, false, false, false, false, false, true]) (t := 86) (want := false)
      · rfl
      · kernel_rfl
      · kernel_rfl
      · dsimp only [oblS]
        refine ⟨by rfl, ?_⟩
        rintro w9 h9
        have hc9 := (bcell h9).1
        go_simp
        exact ⟨Below.refl _ _, rfl⟩
      dsimp only [List.nil_append, List.cons_append]
      apply relS_detg (mask := [false, false, false, false, false, false, false, false, false, false, false, true, false, false, false, true, false, false, false, false, true]) (t := 86) (want := false) (x := .bool true)
      · rfl
      · kernel_rfl
      · kernel_rfl
      · dsimp only [oblS]
        refine ⟨by rfl, ?_⟩
        rintro w9 h9
        have hc9 := (bcell h9).1
        go_simp
        refine (r50has_any q.sA k q.sc (q.shows.take k) n w9 (HSh.out w9 h9)).mono ?_
        rintro e W5 ⟨rfl, rfl⟩
        exact ⟨_, rfl, Below.refl _ _, by rw [HB2.out]; rfl⟩
      dsimp only [List.nil_append, List.cons_append]
      apply relS_det (mask := [false, false, false, false, false, false, false, false, false, false, false, true, false, false, false, false, false, false, false, false, false, true])
      · rfl
      · kernel_rfl
      · kernel_rfl
      · dsimp only [oblS]
        rintro w9 h9
        go_simp
        exact ⟨Below.refl _ _, rfl⟩
      dsimp only [List.nil_append, List.cons_append]
      refine relS_end (by rfl) ?_
      dsimp only [finS]
      rintro w8 hb8
      have HB8 := hidp (HBe.out.trans (hb8.mono HBe.out.size))
      have HQ8 := hidp (HQb.out.later hb8)
      clear hb8 x0 x1 x2 x3 l0 c0 lb hix hcut2
      go_simp
      go_wp2_with fail
      go_ret
      exact ⟨by rw [HR.out]; rfl, HB8.out⟩
    go_wp2_with fail
    refine wp_region_S wr.heap.size 23 (fun _ => false) (Nat.le_refl _) (by kernel_rfl) (by kernel_rfl) (by kernel_rfl) ?_
    dsimp only [List.take, List.drop]
    apply relS_det (mask := [])
    · rfl
    · kernel_rfl
    · kernel_rfl
    · dsimp only [oblS]
      rintro w9 h9
      go_simp
      exact ⟨Below.refl _ _, rfl⟩
    dsimp only [List.nil_append, List.cons_append]
    apply relS_det (mask := [true])
    · rfl
    · kernel_rfl
    · kernel_rfl
    · dsimp only [oblS]
      rintro w9 h9
      have hc9 := (bcell h9).1
      go_simp
      exact ⟨Below.refl _ _, rfl⟩
    dsimp only [List.nil_append, List.cons_append]
    apply relS_det (mask := [false, false])
    · rfl
    · kernel_rfl
    · kernel_rfl
    · dsimp only [oblS]
      rintro w9 h9
      go_simp
      exact ⟨Below.refl _ _, rfl⟩
    dsimp only [List.nil_append, List.cons_append]
    apply relS_det (mask := [false, true, true])
    · rfl
    · kernel_rfl
    · kernel_rfl
    · dsimp only [oblS]
      rintro w9 h9
      go_simp
      exact ⟨Below.refl _ _, rfl⟩
    dsimp only [List.nil_append, List.cons_append]
    apply relS_det (mask := [false, false, false, true])
    · rfl
    · kernel_rfl
    · kernel_rfl
    · dsimp only [oblS]
      rintro w9 h9
      have hc9 := (bcell h9).1
      go_simp
      exact ⟨Below.refl _ _, rfl⟩
    dsimp only [List.nil_append, List.cons_append]
    apply relS_det (mask := [false, false, false, false, false])
    · rfl
    · kernel_rfl
    · kernel_rfl
    · dsimp only [oblS]
      rintro w9 h9
      go_simp
      exact ⟨Below.refl _ _, rfl⟩
    dsimp only [List.nil_append, List.cons_append]
    apply relS_det (mask := [false, false, false, false, false, true])
    · rfl
    · kernel_rfl
    · kernel_rfl
    · dsimp only [oblS]
      rintro w9 h9
      have hc9 := (bcell h9).1
      go_simp
      exact ⟨Below.refl _ _, rfl⟩
    dsimp only [List.nil_append, List.cons_append]
    apply relS_det (mask := [false, false, false, false, false, false, true])
    · rfl
    · kernel_rfl
    · kernel_rfl
    · dsimp only [oblS]
      rintro w9 h9
      go_simp
      exact ⟨Below.refl _ _, rfl⟩
    dsimp only [List.nil_append, List.cons_append]
    apply relS_det (mask := [false, false, false, false, false, false, false, true])
    · rfl
    · kernel_rfl
    · kernel_rfl
    · dsimp only [oblS]
      rintro w9 h9
      go_simp
      exact ⟨Below.refl _ _, rfl⟩
    dsimp only [List.nil_append, List.cons_append]
    apply relS_det (mask := [false, false, false, false, true, false, false, false, true]) (x := .bool true)
    · rfl
    · kernel_rfl
    · kernel_rfl
    · dsimp only [oblS]
      rintro w9 h9
      have hc9 := (bcell h9).1
      go_simp
      refine (r50in_any n 0 ((q.nn : Int) - 1) w9).mono ?_
      rintro e W5 ⟨rfl, rfl⟩
      exact ⟨_, rfl, Below.refl _ _, by rw [HB1.out]; rfl⟩
    dsimp only [List.nil_append, List.cons_append]
    apply relS_det (mask := [false, false, false, false, false, false, false, false, false, true])
    · rfl
    · kernel_rfl
    · kernel_rfl
    · dsimp only [oblS]
      rintro w9 h9
      go_simp
      exact ⟨Below.refl _ _, rfl⟩
    dsimp only [List.nil_append, List.cons_append]
    apply relS_det (mask := [false, false, false, false, false, false, false, false, false, false, true])
    · rfl
    · kernel_rfl
    · kernel_rfl
    · dsimp only [oblS]
      rintro w9 h9
      go_simp
      exact ⟨Below.refl _ _, rfl⟩
    dsimp only [List.nil_append, List.cons_append]
    apply relS_detg (mask := [false, false, false, false, false, false, false, false, false, false, false, true]) (t := 86) (want := false)
    · rfl
    · kernel_rfl
    · kernel_rfl
    · dsimp only [oblS]
      refine ⟨by rfl, ?_⟩
      rintro w9 h9
      go_simp
      exact ⟨Below.refl _ _, rfl⟩
    dsimp only [List.nil_append, List.cons_append]
    apply relS_detg (mask := [false, false, false, false, false, false, false, false, false, false, false, true, true]) (t := 86) (want := false)
    · rfl
    · kernel_rfl
    · kernel_rfl
    · dsimp only [oblS]
      refine ⟨by rfl, ?_⟩
      rintro w9 h9
      have hc9 := (bcell h9).1
      go_simp
      exact ⟨Below.refl _ _, rfl⟩
    dsimp only [List.nil_append, List.cons_append]
    apply relS_detg (mask := [false, false, false, false, false, false, false, false, false, false, false, true, false, false]) (t := 86) (want := false)
    · rfl
    · kernel_rfl
    · kernel_rfl
    · dsimp only [oblS]
      refine ⟨by rfl, ?_⟩
      rintro w9 h9
      go_simp
      exact ⟨Below.refl _ _, rfl⟩
    dsimp only [List.nil_append, List.cons_append]
    apply relS_detg (mask := [false, false, false, false, false, false, false, false, false, false, false, true, false, true, true]) (t := 86) (want := false)
    · rfl
    · kernel_rfl
    · kernel_rfl
    · dsimp only [oblS]
      refine ⟨by rfl, ?_⟩
      rintro w9 h9
      go_simp
      exact ⟨Below.refl _ _, rfl⟩
    dsimp only [List.nil_append, List.cons_append]
    apply relS_detg (mask := [false, false, false, false, false, false, false, false, false, false, false, true, false, false, false, false]) (t := 86) (want := false)
    · rfl
    · kernel_rfl
    · kernel_rfl
    · dsimp only [oblS]
      refine ⟨by rfl, ?_⟩
      rintro w9 h9
      go_simp
      exact ⟨Below.refl _ _, rfl⟩
    dsimp only [List.nil_append, List.cons_append]
    apply relS_detg (mask := [false, false, false, false, false, false, false, false, false, false, false, true, false, false, false, false, true]) (t := 86) (want := false)
    · rfl
    · kernel_rfl
    · kernel_rfl
    · dsimp only [oblS]
      refine ⟨by rfl, ?_⟩
      rintro w9 h9
      have hc9 := (bcell h9).1
      go_simp
      exact ⟨Below.refl _ _, rfl⟩
    dsimp only [List.nil_append, List.cons_append]
    apply relS_detg (mask := [false, false, false, false, false, false, false, false, false, false, false, true, false, false, false, false, false, false]) (t := 86) (want := false)
    · rfl
    · kernel_rfl
    · kernel_rfl
    · dsimp only [oblS]
      refine ⟨by rfl, ?_⟩
      rintro w9 h9
      go_simp
      exact ⟨Below.refl _ _, rfl⟩
    dsimp only [List.nil_append, List.cons_append]
    apply relS_detg (mask := [false, false, false, false, false, false, false, false, false, false, false, true, false, false, false, false, false, true, true]) (t := 86) (want := false)
    · rfl
    · kernel_rfl
    · kernel_rfl
    · dsimp only [oblS]
      refine ⟨by rfl, ?_⟩
      rintro w9 h9
      go_simp
      exact ⟨Below.refl _ _, rfl⟩
    dsimp only [List.nil_append, List.cons_append]
    apply relS_detg (mask := [false, false, false, false, false, false, false, false, false, false, false, true, false, false, false, false, false, false, false, true]) (t := 86) (want := false)
    · rfl
    · kernel_rfl
    · kernel_rfl
    · dsimp only [oblS]
      refine ⟨by rfl, ?_⟩
      rintro w9 h9
      have hc9 := (bcell h9).1
      go_simp
      exact ⟨Below.refl _ _, rfl⟩
    dsimp only [List.nil_append, List.cons_append]
    apply relS_detg (mask := [false, false, false, false, false, false, false, false, false, false, false, true, false, false, false, true, false, false, false, false, true]) (t := 86) (want := false) (x := .bool false)
    · rfl
    · kernel_rfl
    · kernel_rfl
    · dsimp only [oblS]
      refine ⟨by rfl, ?_⟩
      rintro w9 h9
      have hc9 := (bcell h9).1
      go_simp
      refine (r50has_any q.sA k q.sc (q.shows.take k) n w9 (HSh.out w9 h9)).mono ?_
      rintro e W5 ⟨rfl, rfl⟩
      exact ⟨_, rfl, Below.refl _ _, by rw [HB2.out]; rfl⟩
    dsimp only [List.nil_append, List.cons_append]
    apply relS_det (mask := [false, false, false, false, false, false, false, false, false, false, false, true, false, false, false, false, false, false, false, false, false, true])
    · rfl
    · kernel_rfl
    · kernel_rfl
    · dsimp only [oblS]
      rintro w9 h9
      go_simp
      exact ⟨Below.refl _ _, rfl⟩
    dsimp only [List.nil_append, List.cons_append]
    refine relS_end (by rfl) ?_
    dsimp only [finS]
    rintro w8 hb8
    have HB8 := hidp (HBe.out.trans (hb8.mono HBe.out.size))
    have HQ8 := hidp (HQb.out.later hb8)
    clear hb8 x0 x1 x2 x3 l0 c0 lb hix hcut2
    go_simp
    go_wp2_with fail
    go_roundw
    case rel => exact ⟨k + 1, by omega, by go_num, HQ8.out, HB8.out, fun j t hj ht => by
      rcases Nat.lt_or_ge j k with h | h
      · exact HOk.out j t h ht
      · obtain rfl : j = k := by omega
        have e : n = t := Option.some.inj (HX.out.symm.trans ht)
        rw [← e]
        exact ⟨by rw [← HLen.out.1]; exact HB1.out, (indexB_first HX.out).2 (of_decide_eq_false HB2.out)⟩⟩
    case measure => simp [intOf]; omega
  have hke : k = q.sn := by omega
  subst hke
  have hkk2 : ¬ ((q.sn : Int) < q.sn) := by omega
  have HShows : Hid (∀ (j : Nat) n, q.shows[j]? = some n → inB n 0 ((q.names.length : Int) - 1) = true ∧ indexB q.shows n = j) := fun j s hs => HOk.out j s (by have := (List.getElem?_eq_some_iff.1 hs).1; have := HLen.out.2.1; omega) hs
  clear HOk
  rename World => wB
  have HQB := HQb
  have HBB := HBe
  clear HQb HBe
  go_wp2_with fail
  clear x0 x1 x2 x3 l0
  go_loopw [5] (fun i wr => ∃ k : Nat, k ≤ q.an ∧ i = .int .i64 k ∧ QBox q w.heap.size wr ∧ Below w.heap.size w wr ∧ ∀ (j : Nat) a, j < k → q.atoms[j]? = some a → amOk a = true) (fun i _ => q.an - (intOf i).toNat)
  case atStart => exact ⟨0, by omega, rfl, HQB.out, HBB.out, fun j s h => by omega⟩
  case round =>
  obtain ⟨k, hk, rfl, hqb, hbe, hok⟩ := hrel
  have HQb := hidp hqb
  have HBe := hidp hbe
  have HOk := hidp hok
  obtain ⟨x0, x1, x2, x3, l0⟩ := hqb.cells
  clear hqb hbe hok HQB HBB
  by_cases hkn : k < q.an
  · have hkn' : (k : Int) < q.an := by omega
    obtain ⟨b, off, a, hA, _, hs, c0, c1, c2, c3, c4, c5, c6, c7, c8⟩ := am_getK (HQu.out _ HBe.out).2.2.1 hkn
    have hix := fun W => ix_Atoms (c := q.ac) hA hkn W
    have lb := lt_of_cell c0
    have HX := hidp hs
    clear hs hA c1 c2 c3 c4 c5 c6
    have HNo : Hid (amOk a = false → checkJ wdJ q = false) := fun hf => cr_no (q := q) (P := amOk a = true) (by rw [hf]; decide) fun h => ((cr_iff q).1 h).2.2.2.1 k a HX.out
    go_wp2_with fail
    refine (r50in_any _ _ _ _).mono ?_
    rintro e w1 ⟨rfl, rfl⟩
    obtain ⟨p3, hp3⟩ : ∃ b, inB a.kind 1 12 = b := ⟨_, rfl⟩
    rw [hp3]
    have Hp3 := hidp hp3
    clear hp3
    cases p3
    · have HR := hidp (HNo.out (by unfold amOk; rw [Hp3.out]; simp))
      go_wp2_with fail
      go_ret
      exact ⟨by rw [HR.out]; rfl, HBe.out⟩
    go_wp2_with fail
    refine (r50in_any _ _ _ _).mono ?_
    rintro e w1 ⟨rfl, rfl⟩
    obtain ⟨p4, hp4⟩ : ∃ b, inB a.term 0 1023 = b := ⟨_, rfl⟩
    rw [hp4]
    have Hp4 := hidp hp4
    clear hp4
    cases p4
    · have HR := hidp (HNo.out (by unfold amOk; rw [Hp4.out]; simp))
      go_wp2_with fail
      go_ret
      exact ⟨by rw [HR.out]; rfl, HBe.out⟩
    go_wp2_with fail
    refine (r50in_any _ _ _ _).mono ?_
    rintro e w1 ⟨rfl, rfl⟩
    obtain ⟨p5, hp5⟩ : ∃ b, inB a.known 0 16777216 = b := ⟨_, rfl⟩
    rw [hp5]
    have Hp5 := hidp hp5
    clear hp5
    cases p5
    · have HR := hidp (HNo.out (by unfold amOk; rw [Hp5.out]; simp))
      go_wp2_with fail
      go_ret
      exact ⟨by rw [HR.out]; rfl, HBe.out⟩
    go_wp2_with fail
    go_roundw
    case rel => exact ⟨k + 1, by omega, by go_num, HQb.out, HBe.out, fun j t hj ht => by
      rcases Nat.lt_or_ge j k with h | h
      · exact HOk.out j t h ht
      · obtain rfl : j = k := by omega
        have e : a = t := Option.some.inj (HX.out.symm.trans ht)
        rw [← e]
        unfold amOk
        rw [Hp3.out, Hp4.out, Hp5.out]; rfl⟩
    case measure => simp [intOf]; omega
  have hke : k = q.an := by omega
  subst hke
  have hkk3 : ¬ ((q.an : Int) < q.an) := by omega
  have HAtoms : Hid (∀ (j : Nat) a, q.atoms[j]? = some a → amOk a = true) := fun j s hs => HOk.out j s (by have := (List.getElem?_eq_some_iff.1 hs).1; have := HLen.out.2.2.1; omega) hs
  clear HOk
  rename World => wC
  have HQC := HQb
  have HBC := HBe
  clear HQb HBe
  go_wp2_with fail
  clear x0 x1 x2 x3 l0
  go_loopw [6] (fun i wr => ∃ k : Nat, k ≤ q.tn ∧ i = .int .i64 k ∧ QBox q w.heap.size wr ∧ Below w.heap.size w wr ∧ ∀ (j : Nat) a, j < k → q.tests[j]? = some a → teOk a = true) (fun i _ => q.tn - (intOf i).toNat)
  case atStart => exact ⟨0, by omega, rfl, HQC.out, HBC.out, fun j s h => by omega⟩
  case round =>
  obtain ⟨k, hk, rfl, hqb, hbe, hok⟩ := hrel
  have HQb := hidp hqb
  have HBe := hidp hbe
  have HOk := hidp hok
  obtain ⟨x0, x1, x2, x3, l0⟩ := hqb.cells
  clear hqb hbe hok HQC HBC
  by_cases hkn : k < q.tn
  · have hkn' : (k : Int) < q.tn := by omega
    obtain ⟨b, off, a, hA, _, hs, c0, c1, c2, c3, c4⟩ := te_getK (HQu.out _ HBe.out).2.2.2 hkn
    have hix := fun W => ix_Tests (c := q.tc) hA hkn W
    have lb := lt_of_cell c0
    have HX := hidp hs
    clear hs hA c1 c2 c3 c4
    have HNo : Hid (teOk a = false → checkJ wdJ q = false) := fun hf => cr_no (q := q) (P := teOk a = true) (by rw [hf]; decide) fun h => ((cr_iff q).1 h).2.2.2.2.1 k a HX.out
    go_wp2_with fail
    refine (r50in_any _ _ _ _).mono ?_
    rintro e w1 ⟨rfl, rfl⟩
    obtain ⟨p3, hp3⟩ : ∃ b, inB a.op (-2) 1 = b := ⟨_, rfl⟩
    rw [hp3]
    have Hp3 := hidp hp3
    clear hp3
    cases p3
    · have HR := hidp (HNo.out (by unfold teOk; rw [Hp3.out]))
      go_wp2_with fail
      go_ret
      exact ⟨by rw [HR.out]; rfl, HBe.out⟩
    go_wp2_with fail
    go_roundw
    case rel => exact ⟨k + 1, by omega, by go_num, HQb.out, HBe.out, fun j t hj ht => by
      rcases Nat.lt_or_ge j k with h | h
      · exact HOk.out j t h ht
      · obtain rfl : j = k := by omega
        have e : a = t := Option.some.inj (HX.out.symm.trans ht)
        rw [← e]
        exact Hp3.out⟩
    case measure => simp [intOf]; omega
  have hke : k = q.tn := by omega
  subst hke
  have hkk4 : ¬ ((q.tn : Int) < q.tn) := by omega
  have HTests : Hid (∀ (j : Nat) a, q.tests[j]? = some a → teOk a = true) := fun j s hs => HOk.out j s (by have := (List.getElem?_eq_some_iff.1 hs).1; have := HLen.out.2.2.2; omega) hs
  clear HOk
  rename World => wD
  have HQD := HQb
  have HBD := HBe
  clear HQb HBe
  go_wp2_with fail
  refine (r50args_any q _ (HQu.out _ HBD.out) (by omega) (by omega)).mono ?_
  rintro e w1 ⟨GA, gn, gc, rfl, hg, hgn, hbg⟩
  have HGn := hidp hgn
  have HGo := hidp hg
  have HB1 := hidp (HBD.out.trans (hbg.mono HBD.out.size))
  have HQ1 := hidp (HQD.out.later hbg)
  obtain ⟨GA', gc', he5, hr5⟩ := own_rows arEnc_len (by decide) hg
  injection he5 with e1 _ e3
  subst e1 e3
  have hgc := hr5.2.1
  have hgcc := hr5.2.2.1
  have HG : Hid (∀ W, Below w1.heap.size w1 W → Rows 2 (Rep.flat arEnc) W W.heap.size GA gn gc (argsJ q)) := fun W h => hr5.keep (Rep.flat_stable _) h.size h.block
  clear hg hgn hbg hr5 x0 x1 x2 x3 l0
  obtain ⟨x0, x1, x2, x3, l0⟩ := HQ1.out.cells
  have hnn8 : q.nn ≤ 8 := by omega
  have hw1 : IntKind.i64.wrap ((q.nn : Int) - 1) = (q.nn : Int) - 1 := IntWalk.i64_in _ (by omega)
  go_wp2_with fail
  clear x0 x1 x2 x3 l0
  go_loopw [8] (fun i wr => ∃ k : Nat, k ≤ gn ∧ i = .int .i64 k ∧ Below w1.heap.size w1 wr ∧ ∀ (j : Nat) a, j < k → (argsJ q)[j]? = some a → arOkR q.names.length a = true) (fun i _ => gn - (intOf i).toNat)
  case atStart => exact ⟨0, by omega, rfl, Below.refl _ _, fun j s h => by omega⟩
  case round =>
  obtain ⟨k, hk, rfl, hbe, hok⟩ := hrel
  have HBx := hidp hbe
  have HQb := hidp (HQ1.out.later hbe)
  have HBe := hidp (HB1.out.trans (hbe.mono HB1.out.size))
  have HOk := hidp hok
  obtain ⟨x0, x1, x2, x3, l0⟩ := HQb.out.cells
  clear hbe hok
  by_cases hkn : k < gn
  · have hkn' : (k : Int) < gn := by omega
    obtain ⟨b, off, a, hA, _, hs, c0, c1⟩ := ar_getK (HG.out _ HBx.out) hkn
    have hix := fun W => ix_ArgsK (c := gc) hA hkn W
    have lb := lt_of_cell c0
    have HX := hidp hs
    clear hs hA
    have HNo : Hid (arOkR q.names.length a = false → checkJ wdJ q = false) := fun hf => cr_no (q := q) (P := arOkR q.names.length a = true) (by rw [hf]; decide) fun h => ((cr_iff q).1 h).2.2.2.2.2.1 k a HX.out
    obtain ⟨av, hav⟩ : ∃ v, a.var = v := ⟨_, rfl⟩
    rw [hav] at c0
    have HAv := hidp hav
    clear hav
    cases av
    · obtain ⟨b1, hb1⟩ : ∃ b, inB a.n 0 1099511627776 = b := ⟨_, rfl⟩
      have HB1' := hidp hb1
      clear hb1
      have HOa : Hid (arOkR q.names.length a = b1) := by show _ = _; unfold arOkR; rw [HAv.out]; exact HB1'.out
      cases b1
      · have HR := hidp (HNo.out HOa.out)
        go_wp2_with fail
        refine wp_region_S wr.heap.size 35 (fun _ => false) (Nat.le_refl _) (by kernel_rfl) (by kernel_rfl) (by kernel_rfl) ?_
        dsimp only [List.take, List.drop]
        apply relS_det (mask := [])
        · rfl
        · kernel_rfl
        · kernel_rfl
        · dsimp only [oblS]
          rintro w9 h9
          go_simp
          exact ⟨Below.refl _ _, rfl⟩
        dsimp only [List.nil_append, List.cons_append]
        apply relS_det (mask := [false])
        · rfl
        · kernel_rfl
        · kernel_rfl
        · dsimp only [oblS]
          rintro w9 h9
          go_simp
          exact ⟨Below.refl _ _, rfl⟩
        dsimp only [List.nil_append, List.cons_append]
        apply relS_det (mask := [true, true])
        · rfl
        · kernel_rfl
        · kernel_rfl
        · dsimp only [oblS]
          rintro w9 h9
          go_simp
          exact ⟨Below.refl _ _, rfl⟩
        dsimp only [List.nil_append, List.cons_append]
        apply relS_det (mask := [false, false, true])
        · rfl
        · kernel_rfl
        · kernel_rfl
        · dsimp only [oblS]
          rintro w9 h9
          go_simp
          exact ⟨Below.refl _ _, rfl⟩
        dsimp only [List.nil_append, List.cons_append]
        apply relS_det (mask := [false, false, false, true])
        · rfl
        · kernel_rfl
        · kernel_rfl
        · dsimp only [oblS]
          rintro w9 h9
          have hc9 := (bcell h9).1
          go_simp
          exact ⟨Below.refl _ _, rfl⟩
        dsimp only [List.nil_append, List.cons_append]
        apply relS_det (mask := [false, false, false, false, true])
        · rfl
        · kernel_rfl
        · kernel_rfl
        · dsimp only [oblS]
          rintro w9 h9
          go_simp
          exact ⟨Below.refl _ _, rfl⟩
        dsimp only [List.nil_append, List.cons_append]
        apply relS_not (mask := [false, false, false, false, false, true]) (t := 161) (want := true) (hf := by rfl) (hg := by kernel_rfl) (hm := by kernel_rfl)
        · rfl
        dsimp only [List.nil_append, List.cons_append]
        apply relS_not (mask := [false, false, false, false, false, true, false]) (t := 161) (want := true) (hf := by rfl) (hg := by kernel_rfl) (hm := by kernel_rfl)
        · rfl
        dsimp only [List.nil_append, List.cons_append]
        apply relS_not (mask := [false, false, false, false, false, true, true, true]) (t := 161) (want := true) (hf := by rfl) (hg := by kernel_rfl) (hm := by kernel_rfl)
        · rfl
        dsimp only [List.nil_append, List.cons_append]
        apply relS_not (mask := [false, false, false, false, false, true, false, false, true]) (t := 161) (want := true) (hf := by rfl) (hg := by kernel_rfl) (hm := by kernel_rfl)
        · rfl
        dsimp only [List.nil_append, List.cons_append]
        apply relS_not (mask := [false, false, false, false, false, true, false, false, false, true]) (t := 161) (want := true) (hf := by rfl) (hg := by kernel_rfl) (hm := by kernel_rfl)
        · rfl
        dsimp only [List.nil_append, List.cons_append]
        apply relS_not (mask := [false, false, false, false, false, true, false, false, false, false, false]) (t := 161) (want := true) (hf := by rfl) (hg := by kernel_rfl) (hm := by kernel_rfl)
        · rfl
        dsimp only [List.nil_append, List.cons_append]
        apply relS_not (mask := [false, false, false, false, false, true, false, false, false, false, false, true]) (t := 161) (want := true) (hf := by rfl) (hg := by kernel_rfl) (hm := by kernel_rfl)
        · rfl
        dsimp only [List.nil_append, List.cons_append]
        apply relS_not (mask := [false, false, false, false, false, true, false, false, false, false, false, false, true]) (t := 161) (want := true) (hf := by rfl) (hg := by kernel_rfl) (hm := by kernel_rfl)
        · rfl
        dsimp only [List.nil_append, List.cons_append]
        apply relS_not (mask := [false, false, false, false, false, true, false, false, false, false, false, false, false, true]) (t := 161) (want := true) (hf := by rfl) (hg := by kernel_rfl) (hm := by kernel_rfl)
        · rfl
        dsimp only [List.nil_append, List.cons_append]
        apply relS_not (mask := [false, false, false, false, false, true, false, false, false, false, true, false, false, false, true]) (t := 161) (want := true) (hf := by rfl) (hg := by kernel_rfl) (hm := by kernel_rfl)
        · rfl
        dsimp only [List.nil_append, List.cons_append]
        apply relS_not (mask := [false, false, false, false, false, true, false, false, false, false, false, false, false, false, false, true]) (t := 161) (want := true) (hf := by rfl) (hg := by kernel_rfl) (hm := by kernel_rfl)
        · rfl
        dsimp only [List.nil_append, List.cons_append]
        apply relS_det (mask := [false, false, false, false, false, true, false, false, false, false, false, false, false, false, false, false, true])
        · rfl
        · kernel_rfl
        · kernel_rfl
        · dsimp only [oblS]
          rintro w9 h9
          go_simp
          exact ⟨Below.refl _ _, rfl⟩
        dsimp only [List.nil_append, List.cons_append]
        apply relS_det (mask := [false, false, false, false, false, false, false, false, false, false, false, false, false, false, false, false, false, true])
        · rfl
        · kernel_rfl
        · kernel_rfl
        · dsimp only [oblS]
          rintro w9 h9
          go_simp
          exact ⟨Below.refl _ _, rfl⟩
        dsimp only [List.nil_append, List.cons_append]
        apply relS_detg (mask := [false, false, false, false, false, false, false, false, false, false, false, false, false, false, false, false, false, false, true]) (t := 174) (want := false)
        · rfl
        · kernel_rfl
        · kernel_rfl
        · dsimp only [oblS]
          refine ⟨by rfl, ?_⟩
          rintro w9 h9
          go_simp
          exact ⟨Below.refl _ _, rfl⟩
        dsimp only [List.nil_append, List.cons_append]
        apply relS_detg (mask := [false, false, false, false, false, false, false, false, false, false, false, false, false, false, false, false, false, false, true, false]) (t := 174) (want := false)
        · rfl
        · kernel_rfl
        · kernel_rfl
        · dsimp only [oblS]
          refine ⟨by rfl, ?_⟩
          rintro w9 h9
          go_simp
          exact ⟨Below.refl _ _, rfl⟩
        dsimp only [List.nil_append, List.cons_append]
        apply relS_detg (mask := [false, false, false, false, false, false, false, false, false, false, false, false, false, false, false, false, false, false, true, true, true]) (t := 174) (want := false)
        · rfl
        · kernel_rfl
        · kernel_rfl
        · dsimp only [oblS]
          refine ⟨by rfl, ?_⟩
          rintro w9 h9
          go_simp
          exact ⟨Below.refl _ _, rfl⟩
        dsimp only [List.nil_append, List.cons_append]
        apply relS_detg (mask := [false, false, false, false, false, false, false, false, false, false, false, false, false, false, false, false, false, false, true, false, false, true]) (t := 174) (want := false)
        · rfl
        · kernel_rfl
        · kernel_rfl
        · dsimp only [oblS]
          refine ⟨by rfl, ?_⟩
          rintro w9 h9
          go_simp
          exact ⟨Below.refl _ _, rfl⟩
        dsimp only [List.nil_append, List.cons_append]
        apply relS_detg (mask := [false, false, false, false, false, false, false, false, false, false, false, false, false, false, false, false, false, false, true, false, false, false, true]) (t := 174) (want := false)
        · rfl
        · kernel_rfl
        · kernel_rfl
        · dsimp only [oblS]
          refine ⟨by rfl, ?_⟩
          rintro w9 h9
          have hc9 := (bcell h9).1
          go_simp
          exact ⟨Below.refl _ _, rfl⟩
        dsimp only [List.nil_append, List.cons_append]
        apply relS_detg (mask := [false, false, false, false, false, false, false, false, false, false, false, false, false, false, false, false, false, false, true, false, false, false, false, true]) (t := 174) (want := false)
        · rfl
        · kernel_rfl
        · kernel_rfl
        · dsimp only [oblS]
          refine ⟨by rfl, ?_⟩
          rintro w9 h9
          go_simp
          exact ⟨Below.refl _ _, rfl⟩
        dsimp only [List.nil_append, List.cons_append]
        apply relS_detg (mask := [false, false, false, false, false, false, false, false, false, false, false, false, false, false, false, false, false, false, true, false, false, false, false, false, true]) (t := 174) (want := false)
        · rfl
        · kernel_rfl
        · kernel_rfl
        · dsimp only [oblS]
          refine ⟨by rfl, ?_⟩
          rintro w9 h9
          go_simp
          exact ⟨Below.refl _ _, rfl⟩
        dsimp only [List.nil_append, List.cons_append]
        apply relS_detg (mask := [false, false, false, false, false, false, false, false, false, false, false, false, false, false, false, false, false, false, false, false, false, false, false, false, false, true]) (t := 181) (want := true)
        · rfl
        · kernel_rfl
        · kernel_rfl
        · dsimp only [oblS]
          refine ⟨by rfl, ?_⟩
          rintro w9 h9
          go_simp
          exact ⟨Below.refl _ _, rfl⟩
        dsimp only [List.nil_append, List.cons_append]
        apply relS_detg (mask := [false, false, false, false, false, false, false, false, false, false, false, false, false, false, false, false, false, false, false, false, false, false, false, false, false, true, false]) (t := 181) (want := true)
        · rfl
        · kernel_rfl
        · kernel_rfl
        · dsimp only [oblS]
          refine ⟨by rfl, ?_⟩
          rintro w9 h9
          go_simp
          exact ⟨Below.refl _ _, rfl⟩
        dsimp only [List.nil_append, List.cons_append]
        apply relS_detg (mask := [false, false, false, false, false, false, false, false, false, false, false, false, false, false, false, false, false, false, false, false, false, false, false, false, false, true, true, true]) (t := 181) (want := true)
        · rfl
        · kernel_rfl
        · kernel_rfl
        · dsimp only [oblS]
          refine ⟨by rfl, ?_⟩
          rintro w9 h9
          go_simp
          exact ⟨Below.refl _ _, rfl⟩
        dsimp only [List.nil_append, List.cons_append]
        apply relS_detg (mask := [false, false, false, false, false, false, false, false, false, false, false, false, false, false, false, false, false, false, false, false, false, false, false, false, false, true, false, false, true]) (t := 181) (want := true)
        · rfl
        · kernel_rfl
        · kernel_rfl
        · dsimp only [oblS]
          refine ⟨by rfl, ?_⟩
          rintro w9 h9
          go_simp
          exact ⟨Below.refl _ _, rfl⟩
        dsimp only [List.nil_append, List.cons_append]
        apply relS_detg (mask := [false, false, false, false, false, false, false, false, false, false, false, false, false, false, false, false, false, false, false, false, false, false, false, false, false, true, false, false, false, true]) (t := 181) (want := true)
        · rfl
        · kernel_rfl
        · kernel_rfl
        · dsimp only [oblS]
          refine ⟨by rfl, ?_⟩
          rintro w9 h9
          have hc9 := (bcell h9).1
          go_simp
          exact ⟨Below.refl _ _, rfl⟩
        dsimp only [List.nil_append, List.cons_append]
        apply relS_detg (mask := [false, false, false, false, false, false, false, false, false, false, false, false, false, false, false, false, false, false, false, false, false, false, false, false, false, true, false, false, false, false, true]) (t := 181) (want := true) (x := .bool false)
        · rfl
        · kernel_rfl
        · kernel_rfl
        · dsimp only [oblS]
          refine ⟨by rfl, ?_⟩
          rintro w9 h9
          have hc9 := (bcell h9).1
          go_simp
          refine (r50in_any a.n 0 1099511627776 w9).mono ?_
          rintro e W5 ⟨rfl, rfl⟩
          exact ⟨_, rfl, Below.refl _ _, by rw [HB1'.out]; rfl⟩
        dsimp only [List.nil_append, List.cons_append]
        apply relS_detg (mask := [false, false, false, false, false, false, false, false, false, false, false, false, false, false, false, false, false, false, false, false, false, false, false, false, false, true, false, false, false, false, false, true]) (t := 181) (want := true)
        · rfl
        · kernel_rfl
        · kernel_rfl
        · dsimp only [oblS]
          refine ⟨by rfl, ?_⟩
          rintro w9 h9
          go_simp
          exact ⟨Below.refl _ _, rfl⟩
        dsimp only [List.nil_append, List.cons_append]
        apply relS_detg (mask := [false, false, false, false, false, false, false, false, false, false, false, false, false, false, false, false, false, false, true, false, false, false, false, false, false, true, false, false, false, false, false, false, true]) (t := 174) (want := false)
        · rfl
        · kernel_rfl
        · kernel_rfl
        · dsimp only [oblS]
          refine ⟨by rfl, ?_⟩
          rintro w9 h9
          go_simp
          exact ⟨Below.refl _ _, rfl⟩
        dsimp only [List.nil_append, List.cons_append]
        apply relS_det (mask := [false, false, false, false, false, false, false, false, false, false, false, false, false, false, false, false, false, false, true, false, false, false, false, false, false, false, false, false, false, false, false, false, false, true])
        · rfl
        · kernel_rfl
        · kernel_rfl
        · dsimp only [oblS]
          rintro w9 h9
          go_simp
          exact ⟨Below.refl _ _, rfl⟩
        dsimp only [List.nil_append, List.cons_append]
        refine relS_end (by rfl) ?_
        dsimp only [finS]
        rintro w8 hb8
        have HB8 := hidp (HBe.out.trans (hb8.mono HBe.out.size))
        have HX8 := hidp (HBx.out.trans (hb8.mono HBx.out.size))
        clear hb8 x0 x1 x2 x3 l0 c0 c1 lb hix
        go_simp
        go_wp2_with fail
        go_ret
        exact ⟨by rw [HR.out]; rfl, HB8.out⟩
      go_wp2_with fail
      refine wp_region_S wr.heap.size 35 (fun _ => false) (Nat.le_refl _) (by kernel_rfl) (by kernel_rfl) (by kernel_rfl) ?_
      dsimp only [List.take, List.drop]
      apply relS_det (mask := [])
      · rfl
      · kernel_rfl
      · kernel_rfl
      · dsimp only [oblS]
        rintro w9 h9
        go_simp
        exact ⟨Below.refl _ _, rfl⟩
      dsimp only [List.nil_append, List.cons_append]
      apply relS_det (mask := [false])
      · rfl
      · kernel_rfl
      · kernel_rfl
      · dsimp only [oblS]
        rintro w9 h9
        go_simp
        exact ⟨Below.refl _ _, rfl⟩
      dsimp only [List.nil_append, List.cons_append]
      apply relS_det (mask := [true, true])
      · rfl
      · kernel_rfl
      · kernel_rfl
      · dsimp only [oblS]
        rintro w9 h9
        go_simp
        exact ⟨Below.refl _ _, rfl⟩
      dsimp only [List.nil_append, List.cons_append]
      apply relS_det (mask := [false, false, true])
      · rfl
      · kernel_rfl
      · kernel_rfl
      · dsimp only [oblS]
        rintro w9 h9
        go_simp
        exact ⟨Below.refl _ _, rfl⟩
      dsimp only [List.nil_append, List.cons_append]
      apply relS_det (mask := [false, false, false, true])
      · rfl
      · kernel_rfl
      · kernel_rfl
      · dsimp only [oblS]
        rintro w9 h9
        have hc9 := (bcell h9).1
        go_simp
        exact ⟨Below.refl _ _, rfl⟩
      dsimp only [List.nil_append, List.cons_append]
      apply relS_det (mask := [false, false, false, false, true])
      · rfl
      · kernel_rfl
      · kernel_rfl
      · dsimp only [oblS]
        rintro w9 h9
        go_simp
        exact ⟨Below.refl _ _, rfl⟩
      dsimp only [List.nil_append, List.cons_append]
      apply relS_not (mask := [false, false, false, false, false, true]) (t := 161) (want := true) (hf := by rfl) (hg := by kernel_rfl) (hm := by kernel_rfl)
      · rfl
      dsimp only [List.nil_append, List.cons_append]
      apply relS_not (mask := [false, false, false, false, false, true, false]) (t := 161) (want := true) (hf := by rfl) (hg := by kernel_rfl) (hm := by kernel_rfl)
      · rfl
      dsimp only [List.nil_append, List.cons_append]
      apply relS_not (mask := [false, false, false, false, false, true, true, true]) (t := 161) (want := true) (hf := by rfl) (hg := by kernel_rfl) (hm := by kernel_rfl)
      · rfl
      dsimp only [List.nil_append, List.cons_append]
      apply relS_not (mask := [false, false, false, false, false, true, false, false, true]) (t := 161) (want := true) (hf := by rfl) (hg := by kernel_rfl) (hm := by kernel_rfl)
      · rfl
      dsimp only [List.nil_append, List.cons_append]
      apply relS_not (mask := [false, false, false, false, false, true, false, false, false, true]) (t := 161) (want := true) (hf := by rfl) (hg := by kernel_rfl) (hm := by kernel_rfl)
      · rfl
      dsimp only [List.nil_append, List.cons_append]
      apply relS_not (mask := [false, false, false, false, false, true, false, false, false, false, false]) (t := 161) (want := true) (hf := by rfl) (hg := by kernel_rfl) (hm := by kernel_rfl)
      · rfl
      dsimp only [List.nil_append, List.cons_append]
      apply relS_not (mask := [false, false, false, false, false, true, false, false, false, false, false, true]) (t := 161) (want := true) (hf := by rfl) (hg := by kernel_rfl) (hm := by kernel_rfl)
      · rfl
      dsimp only [List.nil_append, List.cons_append]
      apply relS_not (mask := [false, false, false, false, false, true, false, false, false, false, false, false, true]) (t := 161) (want := true) (hf := by rfl) (hg := by kernel_rfl) (hm := by kernel_rfl)
      · rfl
      dsimp only [List.nil_append, List.cons_append]
      apply relS_not (mask := [false, false, false, false, false, true, false, false, false, false, false, false, false, true]) (t := 161) (want := true) (hf := by rfl) (hg := by kernel_rfl) (hm := by kernel_rfl)
      · rfl
      dsimp only [List.nil_append, List.cons_append]
      apply relS_not (mask := [false, false, false, false, false, true, false, false, false, false, true, false, false, false, true]) (t := 161) (want := true) (hf := by rfl) (hg := by kernel_rfl) (hm := by kernel_rfl)
      · rfl
      dsimp only [List.nil_append, List.cons_append]
      apply relS_not (mask := [false, false, false, false, false, true, false, false, false, false, false, false, false, false, false, true]) (t := 161) (want := true) (hf := by rfl) (hg := by kernel_rfl) (hm := by kernel_rfl)
      · rfl
      dsimp only [List.nil_append, List.cons_append]
      apply relS_det (mask := [false, false, false, false, false, true, false, false, false, false, false, false, false, false, false, false, true])
      · rfl
      · kernel_rfl
      · kernel_rfl
      · dsimp only [oblS]
        rintro w9 h9
        go_simp
        exact ⟨Below.refl _ _, rfl⟩
      dsimp only [List.nil_append, List.cons_append]
      apply relS_det (mask := [false, false, false, false, false, false, false, false, false, false, false, false, false, false, false, false, false, true])
      · rfl
      · kernel_rfl
      · kernel_rfl
      · dsimp only [oblS]
        rintro w9 h9
        go_simp
        exact ⟨Below.refl _ _, rfl⟩
      dsimp only [List.nil_append, List.cons_append]
      apply relS_detg (mask := [false, false, false, false, false, false, false, false, false, false, false, false, false, false, false, false, false, false, true]) (t := 174) (want := false)
      · rfl
      · kernel_rfl
      · kernel_rfl
      · dsimp only [oblS]
        refine ⟨by rfl, ?_⟩
        rintro w9 h9
        go_simp
        exact ⟨Below.refl _ _, rfl⟩
      dsimp only [List.nil_append, List.cons_append]
      apply relS_detg (mask := [false, false, false, false, false, false, false, false, false, false, false, false, false, false, false, false, false, false, true, false]) (t := 174) (want := false)
      · rfl
      · kernel_rfl
      · kernel_rfl
      · dsimp only [oblS]
        refine ⟨by rfl, ?_⟩
        rintro w9 h9
        go_simp
        exact ⟨Below.refl _ _, rfl⟩
      dsimp only [List.nil_append, List.cons_append]
      apply relS_detg (mask := [false, false, false, false, false, false, false, false, false, false, false, false, false, false, false, false, false, false, true, true, true]) (t := 174) (want := false)
      · rfl
      · kernel_rfl
      · kernel_rfl
      · dsimp only [oblS]
        refine ⟨by rfl, ?_⟩
        rintro w9 h9
        go_simp
        exact ⟨Below.refl _ _, rfl⟩
      dsimp only [List.nil_append, List.cons_append]
      apply relS_detg (mask := [false, false, false, false, false, false, false, false, false, false, false, false, false, false, false, false, false, false, true, false, false, true]) (t := 174) (want := false)
      · rfl
      · kernel_rfl
      · kernel_rfl
      · dsimp only [oblS]
        refine ⟨by rfl, ?_⟩
        rintro w9 h9
        go_simp
        exact ⟨Below.refl _ _, rfl⟩
      dsimp only [List.nil_append, List.cons_append]
      apply relS_detg (mask := [false, false, false, false, false, false, false, false, false, false, false, false, false, false, false, false, false, false, true, false, false, false, true]) (t := 174) (want := false)
      · rfl
      · kernel_rfl
      · kernel_rfl
      · dsimp only [oblS]
        refine ⟨by rfl, ?_⟩
        rintro w9 h9
        have hc9 := (bcell h9).1
        go_simp
        exact ⟨Below.refl _ _, rfl⟩
      dsimp only [List.nil_append, List.cons_append]
      apply relS_detg (mask := [false, false, false, false, false, false, false, false, false, false, false, false, false, false, false, false, false, false, true, false, false, false, false, true]) (t := 174) (want := false)
      · rfl
      · kernel_rfl
      · kernel_rfl
      · dsimp only [oblS]
        refine ⟨by rfl, ?_⟩
        rintro w9 h9
        go_simp
        exact ⟨Below.refl _ _, rfl⟩
      dsimp only [List.nil_append, List.cons_append]
      apply relS_detg (mask := [false, false, false, false, false, false, false, false, false, false, false, false, false, false, false, false, false, false, true, false, false, false, false, false, true]) (t := 174) (want := false)
      · rfl
      · kernel_rfl
      · kernel_rfl
      · dsimp only [oblS]
        refine ⟨by rfl, ?_⟩
        rintro w9 h9
        go_simp
        exact ⟨Below.refl _ _, rfl⟩
      dsimp only [List.nil_append, List.cons_append]
      apply relS_detg (mask := [false, false, false, false, false, false, false, false, false, false, false, false, false, false, false, false, false, false, false, false, false, false, false, false, false, true]) (t := 181) (want := true)
      · rfl
      · kernel_rfl
      · kernel_rfl
      · dsimp only [oblS]
        refine ⟨by rfl, ?_⟩
        rintro w9 h9
        go_simp
        exact ⟨Below.refl _ _, rfl⟩
      dsimp only [List.nil_append, List.cons_append]
      apply relS_detg (mask := [false, false, false, false, false, false, false, false, false, false, false, false, false, false, false, false, false, false, false, false, false, false, false, false, false, true, false]) (t := 181) (want := true)
      · rfl
      · kernel_rfl
      · kernel_rfl
      · dsimp only [oblS]
        refine ⟨by rfl, ?_⟩
        rintro w9 h9
        go_simp
        exact ⟨Below.refl _ _, rfl⟩
      dsimp only [List.nil_append, List.cons_append]
      apply relS_detg (mask := [false, false, false, false, false, false, false, false, false, false, false, false, false, false, false, false, false, false, false, false, false, false, false, false, false, true, true, true]) (t := 181) (want := true)
      · rfl
      · kernel_rfl
      · kernel_rfl
      · dsimp only [oblS]
        refine ⟨by rfl, ?_⟩
        rintro w9 h9
        go_simp
        exact ⟨Below.refl _ _, rfl⟩
      dsimp only [List.nil_append, List.cons_append]
      apply relS_detg (mask := [false, false, false, false, false, false, false, false, false, false, false, false, false, false, false, false, false, false, false, false, false, false, false, false, false, true, false, false, true]) (t := 181) (want := true)
      · rfl
      · kernel_rfl
      · kernel_rfl
      · dsimp only [oblS]
        refine ⟨by rfl, ?_⟩
        rintro w9 h9
        go_simp
        exact ⟨Below.refl _ _, rfl⟩
      dsimp only [List.nil_append, List.cons_append]
      apply relS_detg (mask := [false, false, false, false, false, false, false, false, false, false, false, false, false, false, false, false, false, false, false, false, false, false, false, false, false, true, false, false, false, true]) (t := 181) (want := true)
      · rfl
      · kernel_rfl
      · kernel_rfl
      · dsimp only [oblS]
        refine ⟨by rfl, ?_⟩
        rintro w9 h9
        have hc9 := (bcell h9).1
        go_simp
        exact ⟨Below.refl _ _, rfl⟩
      dsimp only [List.nil_append, List.cons_append]
      apply relS_detg (mask := [false, false, false, false, false, false, false, false, false, false, false, false, false, false, false, false, false, false, false, false, false, false, false, false, false, true, false, false, false, false, true]) (t := 181) (want := true) (x := .bool true)
      · rfl
      · kernel_rfl
      · kernel_rfl
      · dsimp only [oblS]
        refine ⟨by rfl, ?_⟩
        rintro w9 h9
        have hc9 := (bcell h9).1
        go_simp
        refine (r50in_any a.n 0 1099511627776 w9).mono ?_
        rintro e W5 ⟨rfl, rfl⟩
        exact ⟨_, rfl, Below.refl _ _, by rw [HB1'.out]; rfl⟩
      dsimp only [List.nil_append, List.cons_append]
      apply relS_detg (mask := [false, false, false, false, false, false, false, false, false, false, false, false, false, false, false, false, false, false, false, false, false, false, false, false, false, true, false, false, false, false, false, true]) (t := 181) (want := true)
      · rfl
      · kernel_rfl
      · kernel_rfl
      · dsimp only [oblS]
        refine ⟨by rfl, ?_⟩
        rintro w9 h9
        go_simp
        exact ⟨Below.refl _ _, rfl⟩
      dsimp only [List.nil_append, List.cons_append]
      apply relS_detg (mask := [false, false, false, false, false, false, false, false, false, false, false, false, false, false, false, false, false, false, true, false, false, false, false, false, false, true, false, false, false, false, false, false, true]) (t := 174) (want := false)
      · rfl
      · kernel_rfl
      · kernel_rfl
      · dsimp only [oblS]
        refine ⟨by rfl, ?_⟩
        rintro w9 h9
        go_simp
        exact ⟨Below.refl _ _, rfl⟩
      dsimp only [List.nil_append, List.cons_append]
      apply relS_det (mask := [false, false, false, false, false, false, false, false, false, false, false, false, false, false, false, false, false, false, true, false, false, false, false, false, false, false, false, false, false, false, false, false, false, true])
      · rfl
      · kernel_rfl
      · kernel_rfl
      · dsimp only [oblS]
        rintro w9 h9
        go_simp
        exact ⟨Below.refl _ _, rfl⟩
      dsimp only [List.nil_append, List.cons_append]
      refine relS_end (by rfl) ?_
      dsimp only [finS]
      rintro w8 hb8
      have HB8 := hidp (HBe.out.trans (hb8.mono HBe.out.size))
      have HX8 := hidp (HBx.out.trans (hb8.mono HBx.out.size))
      clear hb8 x0 x1 x2 x3 l0 c0 c1 lb hix
      go_simp
      go_wp2_with fail
      go_roundw
      case rel => exact ⟨k + 1, by omega, by go_num, HX8.out, fun j t hj ht => by
        rcases Nat.lt_or_ge j k with h | h
        · exact HOk.out j t h ht
        · obtain rfl : j = k := by omega
          have e : a = t := Option.some.inj (HX.out.symm.trans ht)
          rw [← e]
          exact HOa.out⟩
      case measure => simp [intOf]; omega
    · obtain ⟨b1, hb1⟩ : ∃ b, inB a.n 0 ((q.nn : Int) - 1) = b := ⟨_, rfl⟩
      have HB1' := hidp hb1
      clear hb1
      have HOa : Hid (arOkR q.names.length a = b1) := by show _ = _; unfold arOkR; rw [HAv.out, ← HLen.out.1]; exact HB1'.out
      cases b1
      · have HR := hidp (HNo.out HOa.out)
        go_wp2_with fail
        refine wp_region_S wr.heap.size 35 (fun _ => false) (Nat.le_refl _) (by kernel_rfl) (by kernel_rfl) (by kernel_rfl) ?_
        dsimp only [List.take, List.drop]
        apply relS_det (mask := [])
        · rfl
        · kernel_rfl
        · kernel_rfl
        · dsimp only [oblS]
          rintro w9 h9
          go_simp
          exact ⟨Below.refl _ _, rfl⟩
        dsimp only [List.nil_append, List.cons_append]
        apply relS_det (mask := [false])
        · rfl
        · kernel_rfl
        · kernel_rfl
        · dsimp only [oblS]
          rintro w9 h9
          go_simp
          exact ⟨Below.refl _ _, rfl⟩
        dsimp only [List.nil_append, List.cons_append]
        apply relS_det (mask := [true, true])
        · rfl
        · kernel_rfl
        · kernel_rfl
        · dsimp only [oblS]
          rintro w9 h9
          go_simp
          exact ⟨Below.refl _ _, rfl⟩
        dsimp only [List.nil_append, List.cons_append]
        apply relS_det (mask := [false, false, true])
        · rfl
        · kernel_rfl
        · kernel_rfl
        · dsimp only [oblS]
          rintro w9 h9
          go_simp
          exact ⟨Below.refl _ _, rfl⟩
        dsimp only [List.nil_append, List.cons_append]
        apply relS_det (mask := [false, false, false, true])
        · rfl
        · kernel_rfl
        · kernel_rfl
        · dsimp only [oblS]
          rintro w9 h9
          have hc9 := (bcell h9).1
          go_simp
          exact ⟨Below.refl _ _, rfl⟩
        dsimp only [List.nil_append, List.cons_append]
        apply relS_det (mask := [false, false, false, false, true])
        · rfl
        · kernel_rfl
        · kernel_rfl
        · dsimp only [oblS]
          rintro w9 h9
          go_simp
          exact ⟨Below.refl _ _, rfl⟩
        dsimp only [List.nil_append, List.cons_append]
        apply relS_detg (mask := [false, false, false, false, false, true]) (t := 161) (want := true)
        · rfl
        · kernel_rfl
        · kernel_rfl
        · dsimp only [oblS]
          refine ⟨by rfl, ?_⟩
          rintro w9 h9
          go_simp
          exact ⟨Below.refl _ _, rfl⟩
        dsimp only [List.nil_append, List.cons_append]
        apply relS_detg (mask := [false, false, false, false, false, true, false]) (t := 161) (want := true)
        · rfl
        · kernel_rfl
        · kernel_rfl
        · dsimp only [oblS]
          refine ⟨by rfl, ?_⟩
          rintro w9 h9
          go_simp
          exact ⟨Below.refl _ _, rfl⟩
        dsimp only [List.nil_append, List.cons_append]
        apply relS_detg (mask := [false, false, false, false, false, true, true, true]) (t := 161) (want := true)
        · rfl
        · kernel_rfl
        · kernel_rfl
        · dsimp only [oblS]
          refine ⟨by rfl, ?_⟩
          rintro w9 h9
          go_simp
          exact ⟨Below.refl _ _, rfl⟩
        dsimp only [List.nil_append, List.cons_append]
        apply relS_detg (mask := [false, false, false, false, false, true, false, false, true]) (t := 161) (want := true)
        · rfl
        · kernel_rfl
        · kernel_rfl
        · dsimp only [oblS]
          refine ⟨by rfl, ?_⟩
          rintro w9 h9
          go_simp
          exact ⟨Below.refl _ _, rfl⟩
        dsimp only [List.nil_append, List.cons_append]
        apply relS_detg (mask := [false, false, false, false, false, true, false, false, false, true]) (t := 161) (want := true)
        · rfl
        · kernel_rfl
        · kernel_rfl
        · dsimp only [oblS]
          refine ⟨by rfl, ?_⟩
          rintro w9 h9
          have hc9 := (bcell h9).1
          go_simp
          exact ⟨Below.refl _ _, rfl⟩
        dsimp only [List.nil_append, List.cons_append]
        apply relS_detg (mask := [false, false, false, false, false, true, false, false, false, false, false]) (t := 161) (want := true)
        · rfl
        · kernel_rfl
        · kernel_rfl
        · dsimp only [oblS]
          refine ⟨by rfl, ?_⟩
          rintro w9 h9
          go_simp
          exact ⟨Below.refl _ _, rfl⟩
        dsimp only [List.nil_append, List.cons_append]
        apply relS_detg (mask := [false, false, false, false, false, true, false, false, false, false, false, true]) (t := 161) (want := true)
        · rfl
        · kernel_rfl
        · kernel_rfl
        · dsimp only [oblS]
          refine ⟨by rfl, ?_⟩
          rintro w9 h9
          have hc9 := (bcell h9).1
          go_simp
          exact ⟨Below.refl _ _, rfl⟩
        dsimp only [List.nil_append, List.cons_append]
        apply relS_detg (mask := [false, false, false, false, false, true, false, false, false, false, false, false, true]) (t := 161) (want := true)
        · rfl
        · kernel_rfl
        · kernel_rfl
        · dsimp only [oblS]
          refine ⟨by rfl, ?_⟩
          rintro w9 h9
          go_simp
          exact ⟨Below.refl _ _, rfl⟩
        dsimp only [List.nil_append, List.cons_append]
        apply relS_detg (mask := [false, false, false, false, false, true, false, false, false, false, false, false, false, true]) (t := 161) (want := true)
        · rfl
        · kernel_rfl
        · kernel_rfl
        · dsimp only [oblS]
          refine ⟨by rfl, ?_⟩
          rintro w9 h9
          go_simp
          exact ⟨Below.refl _ _, rfl⟩
        dsimp only [List.nil_append, List.cons_append]
        apply relS_detg (mask := [false, false, false, false, false, true, false, false, false, false, true, false, false, false, true]) (t := 161) (want := true) (x := .bool false)
        · rfl
        · kernel_rfl
        · kernel_rfl
        · dsimp only [oblS]
          refine ⟨by rfl, ?_⟩
          rintro w9 h9
          have hc9 := (bcell h9).1
          go_simp
          refine (r50in_any a.n 0 ((q.nn : Int) - 1) w9).mono ?_
          rintro e W5 ⟨rfl, rfl⟩
          exact ⟨_, rfl, Below.refl _ _, by rw [HB1'.out]; rfl⟩
        dsimp only [List.nil_append, List.cons_append]
        apply relS_detg (mask := [false, false, false, false, false, true, false, false, false, false, false, false, false, false, false, true]) (t := 161) (want := true)
        · rfl
        · kernel_rfl
        · kernel_rfl
        · dsimp only [oblS]
          refine ⟨by rfl, ?_⟩
          rintro w9 h9
          go_simp
          exact ⟨Below.refl _ _, rfl⟩
        dsimp only [List.nil_append, List.cons_append]
        apply relS_det (mask := [false, false, false, false, false, true, false, false, false, false, false, false, false, false, false, false, true])
        · rfl
        · kernel_rfl
        · kernel_rfl
        · dsimp only [oblS]
          rintro w9 h9
          go_simp
          exact ⟨Below.refl _ _, rfl⟩
        dsimp only [List.nil_append, List.cons_append]
        apply relS_det (mask := [false, false, false, false, false, false, false, false, false, false, false, false, false, false, false, false, false, true])
        · rfl
        · kernel_rfl
        · kernel_rfl
        · dsimp only [oblS]
          rintro w9 h9
          go_simp
          exact ⟨Below.refl _ _, rfl⟩
        dsimp only [List.nil_append, List.cons_append]
        apply relS_not (mask := [false, false, false, false, false, false, false, false, false, false, false, false, false, false, false, false, false, false, true]) (t := 174) (want := false) (hf := by rfl) (hg := by kernel_rfl) (hm := by kernel_rfl)
        · rfl
        dsimp only [List.nil_append, List.cons_append]
        apply relS_not (mask := [false, false, false, false, false, false, false, false, false, false, false, false, false, false, false, false, false, false, true, false]) (t := 174) (want := false) (hf := by rfl) (hg := by kernel_rfl) (hm := by kernel_rfl)
        · rfl
        dsimp only [List.nil_append, List.cons_append]
        apply relS_not (mask := [false, false, false, false, false, false, false, false, false, false, false, false, false, false, false, false, false, false, true, true, true]) (t := 174) (want := false) (hf := by rfl) (hg := by kernel_rfl) (hm := by kernel_rfl)
        · rfl
        dsimp only [List.nil_append, List.cons_append]
        apply relS_not (mask := [false, false, false, false, false, false, false, false, false, false, false, false, false, false, false, false, false, false, true, false, false, true]) (t := 174) (want := false) (hf := by rfl) (hg := by kernel_rfl) (hm := by kernel_rfl)
        · rfl
        dsimp only [List.nil_append, List.cons_append]
        apply relS_not (mask := [false, false, false, false, false, false, false, false, false, false, false, false, false, false, false, false, false, false, true, false, false, false, true]) (t := 174) (want := false) (hf := by rfl) (hg := by kernel_rfl) (hm := by kernel_rfl)
        · rfl
        dsimp only [List.nil_append, List.cons_append]
        apply relS_not (mask := [false, false, false, false, false, false, false, false, false, false, false, false, false, false, false, false, false, false, true, false, false, false, false, true]) (t := 174) (want := false) (hf := by rfl) (hg := by kernel_rfl) (hm := by kernel_rfl)
        · rfl
        dsimp only [List.nil_append, List.cons_append]
        apply relS_not (mask := [false, false, false, false, false, false, false, false, false, false, false, false, false, false, false, false, false, false, true, false, false, false, false, false, true]) (t := 174) (want := false) (hf := by rfl) (hg := by kernel_rfl) (hm := by kernel_rfl)
        · rfl
        dsimp only [List.nil_append, List.cons_append]
        apply relS_if (mask := [false, false, false, false, false, false, false, false, false, false, false, false, false, false, false, false, false, false, false, false, false, false, false, false, false, true]) (t := 181) (want := true) (g := false) (x := undef)
        · rfl
        · kernel_rfl
        · kernel_rfl
        · dsimp only [oblS]
          refine ⟨⟨undef, by rfl, (fun h => by cases h), (fun _ h => by cases h)⟩, ?_⟩
          intro hg
          rintro w9 h9
          exact absurd hg (by simp)
        dsimp only [List.nil_append, List.cons_append]
        apply relS_if (mask := [false, false, false, false, false, false, false, false, false, false, false, false, false, false, false, false, false, false, false, false, false, false, false, false, false, true, false]) (t := 181) (want := true) (g := false) (x := undef)
        · rfl
        · kernel_rfl
        · kernel_rfl
        · dsimp only [oblS]
          refine ⟨⟨undef, by rfl, (fun h => by cases h), (fun _ h => by cases h)⟩, ?_⟩
          intro hg
          rintro w9 h9
          exact absurd hg (by simp)
        dsimp only [List.nil_append, List.cons_append]
        apply relS_if (mask := [false, false, false, false, false, false, false, false, false, false, false, false, false, false, false, false, false, false, false, false, false, false, false, false, false, true, true, true]) (t := 181) (want := true) (g := false) (x := undef)
        · rfl
        · kernel_rfl
        · kernel_rfl
        · dsimp only [oblS]
          refine ⟨⟨undef, by rfl, (fun h => by cases h), (fun _ h => by cases h)⟩, ?_⟩
          intro hg
          rintro w9 h9
          exact absurd hg (by simp)
        dsimp only [List.nil_append, List.cons_append]
        apply relS_if (mask := [false, false, false, false, false, false, false, false, false, false, false, false, false, false, false, false, false, false, false, false, false, false, false, false, false, true, false, false, true]) (t := 181) (want := true) (g := false) (x := undef)
        · rfl
        · kernel_rfl
        · kernel_rfl
        · dsimp only [oblS]
          refine ⟨⟨undef, by rfl, (fun h => by cases h), (fun _ h => by cases h)⟩, ?_⟩
          intro hg
          rintro w9 h9
          exact absurd hg (by simp)
        dsimp only [List.nil_append, List.cons_append]
        apply relS_if (mask := [false, false, false, false, false, false, false, false, false, false, false, false, false, false, false, false, false, false, false, false, false, false, false, false, false, true, false, false, false, true]) (t := 181) (want := true) (g := false) (x := undef)
        · rfl
        · kernel_rfl
        · kernel_rfl
        · dsimp only [oblS]
          refine ⟨⟨undef, by rfl, (fun h => by cases h), (fun _ h => by cases h)⟩, ?_⟩
          intro hg
          rintro w9 h9
          exact absurd hg (by simp)
        dsimp only [List.nil_append, List.cons_append]
        apply relS_if (mask := [false, false, false, false, false, false, false, false, false, false, false, false, false, false, false, false, false, false, false, false, false, false, false, false, false, true, false, false, false, false, true]) (t := 181) (want := true) (g := false) (x := undef)
        · rfl
        · kernel_rfl
        · kernel_rfl
        · dsimp only [oblS]
          refine ⟨⟨undef, by rfl, (fun h => by cases h), (fun _ h => by cases h)⟩, ?_⟩
          intro hg
          rintro w9 h9
          exact absurd hg (by simp)
        dsimp only [List.nil_append, List.cons_append]
        apply relS_if (mask := [false, false, false, false, false, false, false, false, false, false, false, false, false, false, false, false, false, false, false, false, false, false, false, false, false, true, false, false, false, false, false, true]) (t := 181) (want := true) (g := false) (x := undef)
        · rfl
        · kernel_rfl
        · kernel_rfl
        · dsimp only [oblS]
          refine ⟨⟨undef, by rfl, (fun h => by cases h), (fun _ h => by cases h)⟩, ?_⟩
          intro hg
          rintro w9 h9
          exact absurd hg (by simp)
        dsimp only [List.nil_append, List.cons_append]
        apply relS_not (mask := [false, false, false, false, false, false, false, false, false, false, false, false, false, false, false, false, false, false, true, false, false, false, false, false, false, true, false, false, false, false, false, false, true]) (t := 174) (want := false) (hf := by rfl) (hg := by kernel_rfl) (hm := by kernel_rfl)
        · rfl
        dsimp only [List.nil_append, List.cons_append]
        apply relS_det (mask := [false, false, false, false, false, false, false, false, false, false, false, false, false, false, false, false, false, false, true, false, false, false, false, false, false, false, false, false, false, false, false, false, false, true])
        · rfl
        · kernel_rfl
        · kernel_rfl
        · dsimp only [oblS]
          rintro w9 h9
          go_simp
          exact ⟨Below.refl _ _, rfl⟩
        dsimp only [List.nil_append, List.cons_append]
        refine relS_end (by rfl) ?_
        dsimp only [finS]
        rintro w8 hb8
        have HB8 := hidp (HBe.out.trans (hb8.mono HBe.out.size))
        have HX8 := hidp (HBx.out.trans (hb8.mono HBx.out.size))
        clear hb8 x0 x1 x2 x3 l0 c0 c1 lb hix
        go_simp
        go_wp2_with fail
        go_ret
        exact ⟨by rw [HR.out]; rfl, HB8.out⟩
      go_wp2_with fail
      refine wp_region_S wr.heap.size 35 (fun _ => false) (Nat.le_refl _) (by kernel_rfl) (by kernel_rfl) (by kernel_rfl) ?_
      dsimp only [List.take, List.drop]
      apply relS_det (mask := [])
      · rfl
      · kernel_rfl
      · kernel_rfl
      · dsimp only [oblS]
        rintro w9 h9
        go_simp
        exact ⟨Below.refl _ _, rfl⟩
      dsimp only [List.nil_append, List.cons_append]
      apply relS_det (mask := [false])
      · rfl
      · kernel_rfl
      · kernel_rfl
      · dsimp only [oblS]
        rintro w9 h9
        go_simp
        exact ⟨Below.refl _ _, rfl⟩
      dsimp only [List.nil_append, List.cons_append]
      apply relS_det (mask := [true, true])
      · rfl
      · kernel_rfl
      · kernel_rfl
      · dsimp only [oblS]
        rintro w9 h9
        go_simp
        exact ⟨Below.refl _ _, rfl⟩
      dsimp only [List.nil_append, List.cons_append]
      apply relS_det (mask := [false, false, true])
      · rfl
      · kernel_rfl
      · kernel_rfl
      · dsimp only [oblS]
        rintro w9 h9
        go_simp
        exact ⟨Below.refl _ _, rfl⟩
      dsimp only [List.nil_append, List.cons_append]
      apply relS_det (mask := [false, false, false, true])
      · rfl
      · kernel_rfl
      · kernel_rfl
      · dsimp only [oblS]
        rintro w9 h9
        have hc9 := (bcell h9).1
        go_simp
        exact ⟨Below.refl _ _, rfl⟩
      dsimp only [List.nil_append, List.cons_append]
      apply relS_det (mask := [false, false, false, false, true])
      · rfl
      · kernel_rfl
      · kernel_rfl
      · dsimp only [oblS]
        rintro w9 h9
        go_simp
        exact ⟨Below.refl _ _, rfl⟩
      dsimp only [List.nil_append, List.cons_append]
      apply relS_detg (mask := [false, false, false, false, false, true]) (t := 161) (want := true)
      · rfl
      · kernel_rfl
      · kernel_rfl
      · dsimp only [oblS]
        refine ⟨by rfl, ?_⟩
        rintro w9 h9
        go_simp
        exact ⟨Below.refl _ _, rfl⟩
      dsimp only [List.nil_append, List.cons_append]
      apply relS_detg (mask := [false, false, false, false, false, true, false]) (t := 161) (want := true)
      · rfl
      · kernel_rfl
      · kernel_rfl
      · dsimp only [oblS]
        refine ⟨by rfl, ?_⟩
        rintro w9 h9
        go_simp
        exact ⟨Below.refl _ _, rfl⟩
      dsimp only [List.nil_append, List.cons_append]
      apply relS_detg (mask := [false, false, false, false, false, true, true, true]) (t := 161) (want := true)
      · rfl
      · kernel_rfl
      · kernel_rfl
      · dsimp only [oblS]
        refine ⟨by rfl, ?_⟩
        rintro w9 h9
        go_simp
        exact ⟨Below.refl _ _, rfl⟩
      dsimp only [List.nil_append, List.cons_append]
      apply relS_detg (mask := [false, false, false, false, false, true, false, false, true]) (t := 161) (want := true)
      · rfl
      · kernel_rfl
      · kernel_rfl
      · dsimp only [oblS]
        refine ⟨by rfl, ?_⟩
        rintro w9 h9
        go_simp
        exact ⟨Below.refl _ _, rfl⟩
      dsimp only [List.nil_append, List.cons_append]
      apply relS_detg (mask := [false, false, false, false, false, true, false, false, false, true]) (t := 161) (want := true)
      · rfl
      · kernel_rfl
      · kernel_rfl
      · dsimp only [oblS]
        refine ⟨by rfl, ?_⟩
        rintro w9 h9
        have hc9 := (bcell h9).1
        go_simp
        exact ⟨Below.refl _ _, rfl⟩
      dsimp only [List.nil_append, List.cons_append]
      apply relS_detg (mask := [false, false, false, false, false, true, false, false, false, false, false]) (t := 161) (want := true)
      · rfl
      · kernel_rfl
      · kernel_rfl
      · dsimp only [oblS]
        refine ⟨by rfl, ?_⟩
        rintro w9 h9
        go_simp
        exact ⟨Below.refl _ _, rfl⟩
      dsimp only [List.nil_append, List.cons_append]
      apply relS_detg (mask := [false, false, false, false, false, true, false, false, false, false, false, true]) (t := 161) (want := true)
      · rfl
      · kernel_rfl
      · kernel_rfl
      · dsimp only [oblS]
        refine ⟨by rfl, ?_⟩
        rintro w9 h9
        have hc9 := (bcell h9).1
        go_simp
        exact ⟨Below.refl _ _, rfl⟩
      dsimp only [List.nil_append, List.cons_append]
      apply relS_detg (mask := [false, false, false, false, false, true, false, false, false, false, false, false, true]) (t := 161) (want := true)
      · rfl
      · kernel_rfl
      · kernel_rfl
      · dsimp only [oblS]
        refine ⟨by rfl, ?_⟩
        rintro w9 h9
        go_simp
        exact ⟨Below.refl _ _, rfl⟩
      dsimp only [List.nil_append, List.cons_append]
      apply relS_detg (mask := [false, false, false, false, false, true, false, false, false, false, false, false, false, true]) (t := 161) (want := true)
      · rfl
      · kernel_rfl
      · kernel_rfl
      · dsimp only [oblS]
        refine ⟨by rfl, ?_⟩
        rintro w9 h9
        go_simp
        exact ⟨Below.refl _ _, rfl⟩
      dsimp only [List.nil_append, List.cons_append]
      apply relS_detg (mask := [false, false, false, false, false, true, false, false, false, false, true, false, false, false, true]) (t := 161) (want := true) (x := .bool true)
      · rfl
      · kernel_rfl
      · kernel_rfl
      · dsimp only [oblS]
        refine ⟨by rfl, ?_⟩
        rintro w9 h9
        have hc9 := (bcell h9).1
        go_simp
        refine (r50in_any a.n 0 ((q.nn : Int) - 1) w9).mono ?_
        rintro e W5 ⟨rfl, rfl⟩
        exact ⟨_, rfl, Below.refl _ _, by rw [HB1'.out]; rfl⟩
      dsimp only [List.nil_append, List.cons_append]
      apply relS_detg (mask := [false, false, false, false, false, true, false, false, false, false, false, false, false, false, false, true]) (t := 161) (want := true)
      · rfl
      · kernel_rfl
      · kernel_rfl
      · dsimp only [oblS]
        refine ⟨by rfl, ?_⟩
        rintro w9 h9
        go_simp
        exact ⟨Below.refl _ _, rfl⟩
      dsimp only [List.nil_append, List.cons_append]
      apply relS_det (mask := [false, false, false, false, false, true, false, false, false, false, false, false, false, false, false, false, true])
      · rfl
      · kernel_rfl
      · kernel_rfl
      · dsimp only [oblS]
        rintro w9 h9
        go_simp
        exact ⟨Below.refl _ _, rfl⟩
      dsimp only [List.nil_append, List.cons_append]
      apply relS_det (mask := [false, false, false, false, false, false, false, false, false, false, false, false, false, false, false, false, false, true])
      · rfl
      · kernel_rfl
      · kernel_rfl
      · dsimp only [oblS]
        rintro w9 h9
        go_simp
        exact ⟨Below.refl _ _, rfl⟩
      dsimp only [List.nil_append, List.cons_append]
      apply relS_detg (mask := [false, false, false, false, false, false, false, false, false, false, false, false, false, false, false, false, false, false, true]) (t := 174) (want := false)
      · rfl
      · kernel_rfl
      · kernel_rfl
      · dsimp only [oblS]
        refine ⟨by rfl, ?_⟩
        rintro w9 h9
        go_simp
        exact ⟨Below.refl _ _, rfl⟩
      dsimp only [List.nil_append, List.cons_append]
      apply relS_detg (mask := [false, false, false, false, false, false, false, false, false, false, false, false, false, false, false, false, false, false, true, false]) (t := 174) (want := false)
      · rfl
      · kernel_rfl
      · kernel_rfl
      · dsimp only [oblS]
        refine ⟨by rfl, ?_⟩
        rintro w9 h9
        go_simp
        exact ⟨Below.refl _ _, rfl⟩
      dsimp only [List.nil_append, List.cons_append]
      apply relS_detg (mask := [false, false, false, false, false, false, false, false, false, false, false, false, false, false, false, false, false, false, true, true, true]) (t := 174) (want := false)
      · rfl
      · kernel_rfl
      · kernel_rfl
      · dsimp only [oblS]
        refine ⟨by rfl, ?_⟩
        rintro w9 h9
        go_simp
        exact ⟨Below.refl _ _, rfl⟩
      dsimp only [List.nil_append, List.cons_append]
      apply relS_detg (mask := [false, false, false, false, false, false, false, false, false, false, false, false, false, false, false, false, false, false, true, false, false, true]) (t := 174) (want := false)
      · rfl
      · kernel_rfl
      · kernel_rfl
      · dsimp only [oblS]
        refine ⟨by rfl, ?_⟩
        rintro w9 h9
        go_simp
        exact ⟨Below.refl _ _, rfl⟩
      dsimp only [List.nil_append, List.cons_append]
      apply relS_detg (mask := [false, false, false, false, false, false, false, false, false, false, false, false, false, false, false, false, false, false, true, false, false, false, true]) (t := 174) (want := false)
      · rfl
      · kernel_rfl
      · kernel_rfl
      · dsimp only [oblS]
        refine ⟨by rfl, ?_⟩
        rintro w9 h9
        have hc9 := (bcell h9).1
        go_simp
        exact ⟨Below.refl _ _, rfl⟩
      dsimp only [List.nil_append, List.cons_append]
      apply relS_detg (mask := [false, false, false, false, false, false, false, false, false, false, false, false, false, false, false, false, false, false, true, false, false, false, false, true]) (t := 174) (want := false)
      · rfl
      · kernel_rfl
      · kernel_rfl
      · dsimp only [oblS]
        refine ⟨by rfl, ?_⟩
        rintro w9 h9
        go_simp
        exact ⟨Below.refl _ _, rfl⟩
      dsimp only [List.nil_append, List.cons_append]
      apply relS_detg (mask := [false, false, false, false, false, false, false, false, false, false, false, false, false, false, false, false, false, false, true, false, false, false, false, false, true]) (t := 174) (want := false)
      · rfl
      · kernel_rfl
      · kernel_rfl
      · dsimp only [oblS]
        refine ⟨by rfl, ?_⟩
        rintro w9 h9
        go_simp
        exact ⟨Below.refl _ _, rfl⟩
      dsimp only [List.nil_append, List.cons_append]
      apply relS_not (mask := [false, false, false, false, false, false, false, false, false, false, false, false, false, false, false, false, false, false, false, false, false, false, false, false, false, true]) (t := 181) (want := true) (hf := by rfl) (hg := by kernel_rfl) (hm := by kernel_rfl)
      · rfl
      dsimp only [List.nil_append, List.cons_append]
      apply relS_not (mask := [false, false, false, false, false, false, false, false, false, false, false, false, false, false, false, false, false, false, false, false, false, false, false, false, false, true, false]) (t := 181) (want := true) (hf := by rfl) (hg := by kernel_rfl) (hm := by kernel_rfl)
      · rfl
      dsimp only [List.nil_append, List.cons_append]
      apply relS_not (mask := [false, false, false, false, false, false, false, false, false, false, false, false, false, false, false, false, false, false, false, false, false, false, false, false, false, true, true, true]) (t := 181) (want := true) (hf := by rfl) (hg := by kernel_rfl) (hm := by kernel_rfl)
      · rfl
      dsimp only [List.nil_append, List.cons_append]
      apply relS_not (mask := [false, false, false, false, false, false, false, false, false, false, false, false, false, false, false, false, false, false, false, false, false, false, false, false, false, true, false, false, true]) (t := 181) (want := true) (hf := by rfl) (hg := by kernel_rfl) (hm := by kernel_rfl)
      · rfl
      dsimp only [List.nil_append, List.cons_append]
      apply relS_not (mask := [false, false, false, false, false, false, false, false, false, false, false, false, false, false, false, false, false, false, false, false, false, false, false, false, false, true, false, false, false, true]) (t := 181) (want := true) (hf := by rfl) (hg := by kernel_rfl) (hm := by kernel_rfl)
      · rfl
      dsimp only [List.nil_append, List.cons_append]
      apply relS_not (mask := [false, false, false, false, false, false, false, false, false, false, false, false, false, false, false, false, false, false, false, false, false, false, false, false, false, true, false, false, false, false, true]) (t := 181) (want := true) (hf := by rfl) (hg := by kernel_rfl) (hm := by kernel_rfl)
      · rfl
      dsimp only [List.nil_append, List.cons_append]
      apply relS_not (mask := [false, false, false, false, false, false, false, false, false, false, false, false, false, false, false, false, false, false, false, false, false, false, false, false, false, true, false, false, false, false, false, true]) (t := 181) (want := true) (hf := by rfl) (hg := by kernel_rfl) (hm := by kernel_rfl)
      · rfl
      dsimp only [List.nil_append, List.cons_append]
      apply relS_detg (mask := [false, false, false, false, false, false, false, false, false, false, false, false, false, false, false, false, false, false, true, false, false, false, false, false, false, true, false, false, false, false, false, false, true]) (t := 174) (want := false)
      · rfl
      · kernel_rfl
      · kernel_rfl
      · dsimp only [oblS]
        refine ⟨by rfl, ?_⟩
        rintro w9 h9
        go_simp
        exact ⟨Below.refl _ _, rfl⟩
      dsimp only [List.nil_append, List.cons_append]
      apply relS_det (mask := [false, false, false, false, false, false, false, false, false, false, false, false, false, false, false, false, false, false, true, false, false, false, false, false, false, false, false, false, false, false, false, false, false, true])
      · rfl
      · kernel_rfl
      · kernel_rfl
      · dsimp only [oblS]
        rintro w9 h9
        go_simp
        exact ⟨Below.refl _ _, rfl⟩
      dsimp only [List.nil_append, List.cons_append]
      refine relS_end (by rfl) ?_
      dsimp only [finS]
      rintro w8 hb8
      have HB8 := hidp (HBe.out.trans (hb8.mono HBe.out.size))
      have HX8 := hidp (HBx.out.trans (hb8.mono HBx.out.size))
      clear hb8 x0 x1 x2 x3 l0 c0 c1 lb hix
      go_simp
      go_wp2_with fail
      go_roundw
      case rel => exact ⟨k + 1, by omega, by go_num, HX8.out, fun j t hj ht => by
        rcases Nat.lt_or_ge j k with h | h
        · exact HOk.out j t h ht
        · obtain rfl : j = k := by omega
          have e : a = t := Option.some.inj (HX.out.symm.trans ht)
          rw [← e]
          exact HOa.out⟩
      case measure => simp [intOf]; omega
  have hke : k = gn := by omega
  subst hke
  have hkk5 : ¬ ((k : Int) < k) := by omega
  have HArgs : Hid (∀ (j : Nat) a, (argsJ q)[j]? = some a → arOkR q.names.length a = true) := fun j s hs => HOk.out j s (by have := (List.getElem?_eq_some_iff.1 hs).1; have := HGn.out; omega) hs
  clear HOk
  rename World => wE
  go_wp2_with fail
  refine (r50order_any q _ (HQu.out _ HBe.out) (by omega) (by omega) (by omega)).mono ?_
  rintro e w2 ⟨OA, on, oc, rfl, ho, hbo⟩
  have HOn := hidp ho.1
  have hoc := ho.2.1
  have hocc := ho.2.2.1
  have HO : Hid (∀ W, Below w2.heap.size w2 W → iSl W W.heap.size OA on oc (orderJ (varsJ q))) := fun W h => ho.keep (Rep.flat_stable _) h.size h.block
  have HB2 := hidp (HBe.out.trans (hbo.mono HBe.out.size))
  have HQ2 := hidp (HQb.out.later hbo)
  clear ho hbo x0 x1 x2 x3 l0
  obtain ⟨x0, x1, x2, x3, l0⟩ := HQ2.out.cells
  by_cases hon : on = q.nn
  rotate_left
  · have hon' : ((on : Int) != (q.nn : Int)) = true := by simp; omega
    have HR := hidp (cr_no (q := q) (P := (orderJ (varsJ q)).length = q.nn) (by rw [← HOn.out]; exact hon) fun h => by rw [((cr_iff q).1 h).2.2.2.2.2.2, List.length_map, List.length_range, HLen.out.1])
    clear hon
    go_wp2_with fail
    go_ret
    exact ⟨by rw [HR.out]; rfl, HB2.out⟩
  subst hon
  have hon' : ((q.nn : Int) != (q.nn : Int)) = false := by simp
  go_wp2_with fail
  clear x0 x1 x2 x3 l0
  go_loopw [10] (fun i wr => ∃ k : Nat, k ≤ q.nn ∧ i = .int .i64 k ∧ Below w2.heap.size w2 wr ∧ ∀ j : Nat, j < k → (orderJ (varsJ q))[j]? = some (j : Int)) (fun i _ => q.nn - (intOf i).toNat)
  case atStart => exact ⟨0, by omega, rfl, Below.refl _ _, fun j h => by omega⟩
  case round =>
  obtain ⟨m, hm, rfl, hbe, hok⟩ := hrel
  have HBy := hidp hbe
  have HBz := hidp (HB2.out.trans (hbe.mono HB2.out.size))
  have HOk := hidp hok
  clear hbe hok
  by_cases hmn : m < q.nn
  · have hmn' : (m : Int) < q.nn := by omega
    obtain ⟨b, off, x, hA, _, hs, c0⟩ := iSl.get (HO.out _ HBy.out) hmn
    have hix := ix_ints (c := oc) hA hmn
    have lb := lt_of_cell c0
    have HX := hidp hs
    clear hs hA
    by_cases hx : x = (m : Int)
    · have hxb : (x != (m : Int)) = false := by simp [hx]
      have HXe := hidp hx
      clear hx
      go_wp2_with fail
      go_roundw
      case rel => exact ⟨m + 1, by omega, by go_num, HBy.out, fun j hj => by
        rcases Nat.lt_or_ge j m with h | h
        · exact HOk.out j h
        · obtain rfl : j = m := by omega
          rw [HX.out, HXe.out]⟩
      case measure => simp [intOf]; omega
    · have hxb : (x != (m : Int)) = true := by simpa using hx
      have HR := hidp (cr_no (q := q) (P := (orderJ (varsJ q))[m]? = some (m : Int)) (by rw [HX.out]; exact fun h => hx (Option.some.inj h)) fun h => by
        rw [((cr_iff q).1 h).2.2.2.2.2.2, List.getElem?_map, List.getElem?_range (by have := HLen.out.1; omega)]; rfl)
      clear hx
      go_wp2_with fail
      go_ret
      exact ⟨by rw [HR.out]; rfl, HBz.out⟩
  have hme : m = q.nn := by omega
  subst hme
  have hmm : ¬ ((q.nn : Int) < q.nn) := by omega
  have HR : Hid (checkJ wdJ q = true) := by
    show _ = _
    rw [check_refJ]
    refine (cr_iff q).2 ⟨HSz.out, HNames.out, HShows.out, HAtoms.out, HTests.out, HArgs.out, List.ext_getElem? fun i => ?_⟩
    rcases Nat.lt_or_ge i q.nn with h | h
    · rw [HOk.out i h, List.getElem?_map, List.getElem?_range (by have := HLen.out.1; omega)]; rfl
    · rw [List.getElem?_eq_none (by rw [← HOn.out]; exact h), List.getElem?_eq_none (by rw [List.length_map, List.length_range, ← HLen.out.1]; exact h)]
  go_wp2_with fail
  go_ret
  exact ⟨by rw [HR.out]; rfl, HBz.out⟩
  end Go.Proofs.YtbegdcjofnfkiaaGreatDoor
