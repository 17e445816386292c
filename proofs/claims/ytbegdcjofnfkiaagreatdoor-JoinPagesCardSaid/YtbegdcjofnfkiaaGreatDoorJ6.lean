import Derived.Test.YtbegdcjofnfkiaaGreatDoorQ9
import Derived.Test.YtbegdcjofnfkiaaGreatDoorQ2
namespace Go.Proofs.YtbegdcjofnfkiaaGreatDoor
open Go.RowKit Go.Shelf Go.Sort
attribute [local go_sem] Oper.semAt_some
def QuIn (q : Qu) (W : World) (n₀ : Nat) : Prop := nSl W n₀ q.nA q.nn q.nc q.names ∧ iSl W n₀ q.sA q.sn q.sc q.shows ∧ amSl W n₀ q.aA q.an q.ac q.atoms ∧ teSl W n₀ q.tA q.tn q.tc q.tests
theorem QuIn.keep {q : Qu} {W W' : World} {n₀ n₁ : Nat} (h : QuIn q W n₀) (hn : n₀ ≤ n₁) (hb : ∀ b, b < n₀ → W'.heap[b]? = W.heap[b]?) : QuIn q W' n₁ :=
 ⟨h.1.keep (Rep.flat_stable _) hn hb, h.2.1.keep (Rep.flat_stable _) hn hb, h.2.2.1.keep (Rep.flat_stable _) hn hb, h.2.2.2.keep (Rep.flat_stable _) hn hb⟩
def okE (b : Bool) : Int := if b = true then 0 else 500
theorem inB_wrap {a b : Nat} (ha : a ≤ 9223372036854775807) (hb : b ≤ 9223372036854775807) : inB (wrap64 ((a : Int) + b)) 1 16 = inB ((a : Int) + b) 1 16 := by
 rcases Int.lt_or_le ((a : Int) + b) 9223372036854775808 with h | h
 ·rw [IntWalk.wrap64_in _ (by omega)]
 ·have e1 : wrap64 ((a : Int) + b) = (a : Int) + b - 18446744073709551616 := by unfold wrap64; omega
  rw [e1]
  unfold inB
  rw [decide_eq_false (p := 1 ≤ (a : Int) + b - 18446744073709551616) (by omega), decide_eq_false (p := (a : Int) + b ≤ 16) (by omega)]
  simp
set_option maxHeartbeats 400000 in
theorem qconds_any (q : Qu) (w : World) : Calls Tryz.prog 55 #[.agg #[.slice q.nA q.nn q.nc, .slice q.sA q.sn q.sc, .slice q.aA q.an q.ac, .slice q.tA q.tn q.tc]] w fun e w' => e = .returned (.int .i64 (wrap64 ((q.an : Int) + q.tn))) ∧ Below w.heap.size w w' := by
 go_enter Tryz.func55, Tryz.ntmps55
 go_wp2_with fail
 go_ret
 exact ⟨rfl, (Below.refl _ _).alloc (Nat.le_refl _) _⟩
theorem cj_sizes {q : Qu} (h : sizesJ q = false) : checkJ wdJ q = false := by unfold checkJ; rw [h]; simp
theorem firstB_iff {α : Type} [DecidableEq α] (l : List α) : firstB l = true ↔ ∀ (i : Nat) x, l[i]? = some x → indexB l x = i := by
 unfold firstB
 simp only [List.all_eq_true, List.mem_range]
 constructor
 ·intro h i x hx
  have := h i (List.getElem?_eq_some_iff.1 hx).1
  rw [hx] at this
  simpa using this
 ·intro h i hi
  rw [List.getElem?_eq_getElem hi]
  simpa using h i _ (List.getElem?_eq_getElem hi)
theorem cj_iff (q : Qu) : checkJ wdJ q = true ↔ sizesJ q = true ∧ (∀ (i : Nat) s, q.names[i]? = some s → nameB s = true ∧ wdJ s = 0 ∧ indexB q.names s = i) ∧ (∀ (i : Nat) n, q.shows[i]? = some n → indexB q.shows n = i) ∧
  (∀ (i : Nat) a, q.atoms[i]? = some a → amOk a = true) ∧ (∀ (i : Nat) t, q.tests[i]? = some t → teOk t = true) ∧ (∀ a ∈ argsJ q, arOk a = true) ∧ nextJ q.names.length (varsJ q) = some (q.names.length : Int) := by
 simp only [checkJ, Bool.and_eq_true, decide_eq_true_eq, firstB_iff, List.all_eq_true]
 constructor
 ·rintro ⟨⟨⟨⟨⟨⟨⟨a, b⟩, c⟩, d⟩, e⟩, f⟩, g⟩, i⟩
  exact ⟨a, fun i s hs => ⟨(b s (List.mem_of_getElem? hs)).1, (b s (List.mem_of_getElem? hs)).2, c i s hs⟩, d, fun i x hx => e x (List.mem_of_getElem? hx), fun i x hx => f x (List.mem_of_getElem? hx), g, i⟩
 ·rintro ⟨a, b, d, e, f, g, i⟩
  refine ⟨⟨⟨⟨⟨⟨⟨a, fun s hs => ?_⟩, fun i s hs => (b i s hs).2.2⟩, d⟩, fun x hx => ?_⟩, fun x hx => ?_⟩, g⟩, i⟩
  ·obtain ⟨i, hi⟩ := List.mem_iff_getElem?.1 hs
   exact ⟨(b i s hi).1, (b i s hi).2.1⟩
  ·obtain ⟨i, hi⟩ := List.mem_iff_getElem?.1 hx; exact e i x hi
  ·obtain ⟨i, hi⟩ := List.mem_iff_getElem?.1 hx; exact f i x hi
theorem cj_name {q : Qu} {i : Nat} {s : ByteArray} (hs : q.names[i]? = some s) (h : ¬ (nameB s = true ∧ wdJ s = 0 ∧ indexB q.names s = i)) : checkJ wdJ q = false := by
 rw [Bool.eq_false_iff]; intro h2; exact h (((cj_iff q).1 h2).2.1 i s hs)
theorem cj_show {q : Qu} {i : Nat} {n : Int} (hs : q.shows[i]? = some n) (h : indexB q.shows n ≠ i) : checkJ wdJ q = false := by
 rw [Bool.eq_false_iff]; intro h2; exact h (((cj_iff q).1 h2).2.2.1 i n hs)
theorem cj_atom {q : Qu} {i : Nat} {a : Am} (hs : q.atoms[i]? = some a) (h : amOk a = false) : checkJ wdJ q = false := by
 rw [Bool.eq_false_iff]; intro h2; rw [((cj_iff q).1 h2).2.2.2.1 i a hs] at h; cases h
theorem cj_test {q : Qu} {i : Nat} {a : Te} (hs : q.tests[i]? = some a) (h : teOk a = false) : checkJ wdJ q = false := by
 rw [Bool.eq_false_iff]; intro h2; rw [((cj_iff q).1 h2).2.2.2.2.1 i a hs] at h; cases h
theorem cj_arg {q : Qu} {a : Ar} (hs : a ∈ argsJ q) (h : arOk a = false) : checkJ wdJ q = false := by
 rw [Bool.eq_false_iff]; intro h2; rw [((cj_iff q).1 h2).2.2.2.2.2.1 a hs] at h; cases h
theorem cj_next {q : Qu} (h : nextJ q.names.length (varsJ q) ≠ some (q.names.length : Int)) : checkJ wdJ q = false := by
 rw [Bool.eq_false_iff]; intro h2; exact h ((cj_iff q).1 h2).2.2.2.2.2.2
theorem ix_strs {A : Option Addr} {n c k b off : Nat} (hA : A = some ⟨b, off, none⟩) (hk : k < n) (W : World) : (Instr.indexAt 22 (.slice A n c) (.int .i64 k)).run Tryz.prog W = .ok (.pointer (some ⟨b, off + k, none⟩)) W := by
 subst hA
 have hk' : (k : Int) < n := by omega
 simp [go_sem, hk']
theorem ix_ints {A : Option Addr} {n c k b off : Nat} (hA : A = some ⟨b, off, none⟩) (hk : k < n) (W : World) : (Instr.indexAt 23 (.slice A n c) (.int .i64 k)).run Tryz.prog W = .ok (.pointer (some ⟨b, off + k, none⟩)) W := by
 subst hA
 have hk' : (k : Int) < n := by omega
 simp [go_sem, hk']
theorem ix_Atoms {A : Option Addr} {n c k b off : Nat} (hA : A = some ⟨b, off, none⟩) (hk : k < n) (W : World) : (Instr.indexAt 24 (.slice A n c) (.int .i64 k)).run Tryz.prog W = .ok (.pointer (some ⟨b, off + k * 9, none⟩)) W := by
 subst hA
 have hk' : (k : Int) < n := by omega
 simp [go_sem, hk']
theorem ix_Tests {A : Option Addr} {n c k b off : Nat} (hA : A = some ⟨b, off, none⟩) (hk : k < n) (W : World) : (Instr.indexAt 25 (.slice A n c) (.int .i64 k)).run Tryz.prog W = .ok (.pointer (some ⟨b, off + k * 5, none⟩)) W := by
 subst hA
 have hk' : (k : Int) < n := by omega
 simp [go_sem, hk']
structure ChkSt (q : Qu) (w : World) (z : Int) (wr : World) : Prop where
 qu : wr.heap[w.heap.size]? = some (.cells #[.slice q.nA q.nn q.nc, .slice q.sA q.sn q.sc, .slice q.aA q.an q.ac, .slice q.tA q.tn q.tc] 27 (0, 0))
 box : wr.heap[w.heap.size + 1]? = some (.cells #[.int .i64 z] 31 (0, 0))
 below : Below w.heap.size w wr
theorem ChkSt.keep {q : Qu} {w wr wr' : World} {z : Int} (h : ChkSt q w z wr) (hk : wr'.heap[w.heap.size]? = wr.heap[w.heap.size]?) (hk2 : wr'.heap[w.heap.size + 1]? = wr.heap[w.heap.size + 1]?) (hb : Below w.heap.size wr wr') : ChkSt q w z wr' :=
 ⟨hk.trans h.qu, hk2.trans h.box, h.below.trans hb⟩
theorem ChkSt.later {q : Qu} {w wr wr' : World} {z : Int} (h : ChkSt q w z wr) (hb : Below wr.heap.size wr wr') : ChkSt q w z wr' :=
 h.keep (hb.block _ (lt_of_heap h.qu)) (hb.block _ (lt_of_heap h.box)) (hb.mono h.below.size)
theorem ChkSt.err {q : Qu} {w wr : World} {z : Int} (h : ChkSt q w z wr) (u : Int) : ChkSt q w u (wr.setCell ⟨w.heap.size + 1, 0, none⟩ (.int .i64 u)) :=
 ⟨heap_set_ne h.qu (by omega) 0 _, heap_set1 h.box _, h.below.setCell (by show _ ≤ w.heap.size + 1; omega) _⟩
theorem ChkSt.cells {q : Qu} {w wr : World} {z : Int} (h : ChkSt q w z wr) : wr.cell? ⟨w.heap.size, 0, none⟩ = some (.slice q.nA q.nn q.nc) ∧ wr.cell? ⟨w.heap.size, 1, none⟩ = some (.slice q.sA q.sn q.sc) ∧ wr.cell? ⟨w.heap.size, 2, none⟩ = some (.slice q.aA q.an q.ac) ∧ wr.cell? ⟨w.heap.size, 3, none⟩ = some (.slice q.tA q.tn q.tc) ∧
  wr.cell? ⟨w.heap.size + 1, 0, none⟩ = some (.int .i64 z) ∧ wr.frozen? ⟨w.heap.size + 1, 0, none⟩ = false ∧ w.heap.size < wr.heap.size ∧ w.heap.size + 1 < wr.heap.size :=
 ⟨by rw [cell_of_heap h.qu]; rfl, by rw [cell_of_heap h.qu]; rfl, by rw [cell_of_heap h.qu]; rfl, by rw [cell_of_heap h.qu]; rfl, by rw [cell_of_heap h.box]; rfl, frozen_of_heap h.box, lt_of_heap h.qu, lt_of_heap h.box⟩
theorem chk_leave {q : Qu} {w W : World} {Ds : List Nat} {tmps : Array Value} {z : Int} (h2 : tmps.getD 2 undef = .pointer (some ⟨w.heap.size + 1, 0, none⟩)) (h : ChkSt q w z W) (hm : Marks (w.heap.size + 2) Ds W) (hz : z = okE (checkJ wdJ q)) {e : Exit} (he : e = .ret ∨ e = .normal) :
  bodyPostM Fence.wide 0 Tryz.prog Tryz.f24 (fun e w' => e = .returned (.int .i64 (okE (checkJ wdJ q))) ∧ Below w.heap.size w w') e { tmps := tmps, defers := Ds.map markOf } W := by
 refine leave_marks he hm rfl fun W' hz' hk => ⟨.int .i64 z, ?_, by rw [hz], h.below.trans (hk.toBelow h.below.size fun b hb hD => by have := (hm.2 b hD).1; omega)⟩
 have hn : (w.heap.size + 1) ∉ Ds := fun hD => by have := (hm.2 _ hD).1; omega
 have hc : W'.cell? ⟨w.heap.size + 1, 0, none⟩ = some (.int .i64 z) := by
  rw [cell_of_heap ((hk.block _ (lt_of_heap h.box) hn).trans h.box)]; rfl
 have h3 : tmps[2]?.getD undef = .pointer (some ⟨w.heap.size + 1, 0, none⟩) := by simpa using h2
 simp [results, Tryz.f24, go_sem, h3, hc]
set_option maxRecDepth 100000 in
set_option maxHeartbeats 8000000 in
theorem qCheck_any (q : Qu) (w : World) (hq : QuIn q w w.heap.size) (hw : WordsAt w) :
  Calls Tryz.prog 24 #[.agg #[.slice q.nA q.nn q.nc, .slice q.sA q.sn q.sc, .slice q.aA q.an q.ac, .slice q.tA q.tn q.tc]] w fun e w' => e = .returned (.int .i64 (okE (checkJ wdJ q))) ∧ Below w.heap.size w w' := by
 refine calls_of_wp_marks Tryz.func24 rfl ?_
 simp only [Tryz.ntmps24, List.size_toArray, List.length_cons, List.length_nil, Nat.reduceAdd, Nat.reduceSub, Array.replicate_succ, Array.replicate_zero, List.push_toArray, List.append_toArray, List.nil_append, List.cons_append]
 obtain ⟨W0, hW0⟩ : ∃ W0, (w.alloc (.cells #[.slice q.nA q.nn q.nc, .slice q.sA q.sn q.sc, .slice q.aA q.an q.ac, .slice q.tA q.tn q.tc] 27)).alloc (.cells #[.int .i64 0] 31) = W0 := ⟨_, rfl⟩
 have hBW : Below w.heap.size w W0 := by rw [← hW0]; exact ((Below.refl _ w).alloc (Nat.le_refl _) _).alloc (by simp) _
 have g0 : W0.heap[w.heap.size]? = some (.cells #[.slice q.nA q.nn q.nc, .slice q.sA q.sn q.sc, .slice q.aA q.an q.ac, .slice q.tA q.tn q.tc] 27 (0, 0)) := by
  rw [← hW0, Below.heap_alloc _ _ _ (by simp)]; exact World.alloc_heap_new _ _
 have g1 : W0.heap[w.heap.size + 1]? = some (.cells #[.int .i64 0] 31 (0, 0)) := by
  rw [← hW0]; have := World.alloc_heap_new (w.alloc (.cells #[.slice q.nA q.nn q.nc, .slice q.sA q.sn q.sc, .slice q.aA q.an q.ac, .slice q.tA q.tn q.tc] 27)) (.cells #[.int .i64 0] 31); rwa [World.size_alloc] at this
 have l0 := lt_of_heap g0
 have l1 := lt_of_heap g1
 have HQu : Hid (∀ W, Below w.heap.size w W → QuIn q W w.heap.size) := fun W hb => hq.keep (Nat.le_refl _) hb.block
 have HWd : Hid (∀ W, Below w.heap.size w W → WordsAt W) := fun W hb => hw.below hb
 have HG0 := hidp g0
 have HG1 := hidp g1
 have HBW := hidp hBW
 have x0 := cell_of_heap (o := 0) g0
 have x1 := cell_of_heap (o := 1) g0
 have x2 := cell_of_heap (o := 2) g0
 have x3 := cell_of_heap (o := 3) g0
 have y0 := cell_of_heap (o := 0) g1
 have y1 := frozen_of_heap (o := 0) g1
 simp only [List.getElem?_toArray, List.getElem?_cons_zero, List.getElem?_cons_succ] at x0 x1 x2 x3 y0
 have hcap : q.an ≤ 9223372036854775807 ∧ q.tn ≤ 9223372036854775807 := ⟨Nat.le_trans hq.2.2.1.2.1 hq.2.2.1.2.2.1, Nat.le_trans hq.2.2.2.2.1 hq.2.2.2.2.2.1⟩
 have HC := hidp hcap
 have HLen : Hid (q.nn = q.names.length ∧ q.sn = q.shows.length ∧ q.an = q.atoms.length ∧ q.tn = q.tests.length) := ⟨hq.1.1, hq.2.1.1, hq.2.2.1.1, hq.2.2.2.1⟩
 clear g0 g1 hBW hq hw hcap
 have hst0 : ChkSt q w 0 W0 := ⟨HG0.out, HG1.out, HBW.out⟩
 have HS0 := hidp hst0
 have HE : Hid (∀ Wx, ChkSt q w 0 Wx → ChkSt q w 500 (Wx.setCell ⟨w.heap.size + 1, 0, none⟩ (.int .i64 500))) := fun Wx h => h.err 500
 clear hst0
 by_cases hb1 : 8 < q.nn
 ·have HF : Hid (checkJ wdJ q = false) := cj_sizes (by unfold sizesJ; rw [decide_eq_false (p := q.names.length ≤ 8) (by have := HLen.out.1; omega)]; simp)
  go_wp2_with fail
  exact chk_leave (Ds := []) rfl (HE.out _ HS0.out) (Marks.nil _ _) (by rw [HF.out]; rfl) (.inl rfl)
 have hb1' : ¬ (8 : Int) < q.nn := by omega
 go_wp2_with fail
 refine (qin_any _ _ _ _).mono ?_
 rintro e wx ⟨rfl, rfl⟩
 obtain ⟨p2, hp2⟩ : ∃ p, inB q.sn 1 8 = p := ⟨_, rfl⟩
 have HP2 := hidp hp2
 rw [hp2]
 clear hp2
 cases p2
 ·have HF : Hid (checkJ wdJ q = false) := cj_sizes (by unfold sizesJ; rw [← HLen.out.2.1, HP2.out]; simp)
  go_wp2_with fail
  exact chk_leave (Ds := []) rfl (HE.out _ HS0.out) (Marks.nil _ _) (by rw [HF.out]; rfl) (.inl rfl)
 go_wp2_with fail
 refine (qconds_any q _).mono ?_
 rintro e w1 ⟨rfl, hk1⟩
 have hs1 := HS0.out.later hk1
 have HS1 := hidp hs1
 clear hW0 x0 x1 x2 x3 y0 y1 l0 l1 HG0 HG1
 obtain ⟨x0, x1, x2, x3, y0, y1, l0, l1⟩ := hs1.cells
 clear hs1 hk1
 go_wp2_with fail
 refine (qin_any _ _ _ _).mono ?_
 rintro e wx ⟨rfl, rfl⟩
 rw [inB_wrap HC.out.1 HC.out.2]
 obtain ⟨p3, hp3⟩ : ∃ p, inB ((q.an : Int) + q.tn) 1 16 = p := ⟨_, rfl⟩
 have HP3 := hidp hp3
 rw [hp3]
 clear hp3
 cases p3
 ·have HF : Hid (checkJ wdJ q = false) := cj_sizes (by unfold sizesJ; rw [← HLen.out.2.2.1, ← HLen.out.2.2.2, HP3.out]; simp)
  go_wp2_with fail
  exact chk_leave (Ds := []) rfl (HE.out _ HS1.out) (Marks.nil _ _) (by rw [HF.out]; rfl) (.inl rfl)
 have HSz : Hid (sizesJ q = true) := by
  show _ = _
  unfold sizesJ
  rw [← HLen.out.2.2.1, ← HLen.out.2.2.2, HP3.out, ← HLen.out.2.1, HP2.out, ← HLen.out.1, decide_eq_true (by omega)]; rfl
 go_wp2_with fail
 refine (kinds_any _ (HWd.out _ HS1.out.below)).mono ?_
 rintro e w2 ⟨bm, rfl, hbm, hkm, hk2⟩
 have hs2 := HS1.out.later hk2
 have hw12 := hk2.size
 have HS2 := hidp hs2
 have HKM := hidp hkm
 have hbmW : w.heap.size + 1 < bm := by have := lt_of_heap HS1.out.box; omega
 clear x0 x1 x2 x3 y0 y1 l0 l1 hkm hk2 HS0 HS1
 obtain ⟨x0, x1, x2, x3, y0, y1, l0, l1⟩ := hs2.cells
 clear hs2
 go_wp2_with fail
 have HNm : Hid (∀ Wx, Below w.heap.size w Wx → nSl Wx w.heap.size q.nA q.nn q.nc q.names) := fun Wx hb => (HQu.out Wx hb).1
 have hnn := (HNm.out _ HS2.out.below).2.1
 have hnc := (HNm.out _ HS2.out.below).2.2.1
 go_loopw [36] (fun i wr => ∃ k : Nat, k ≤ q.nn ∧ i = .int .i64 k ∧ ChkSt q w 0 wr ∧ KMV sV wr bm kvsJ ∧ ∀ j s, j < k → q.names[j]? = some s → nameB s = true ∧ wdJ s = 0 ∧ indexB q.names s = (j : Int)) (fun i _ => q.nn - (intOf i).toNat)
 case atStart => exact ⟨0, by omega, rfl, HS2.out, HKM.out, fun j s h => by omega⟩
 case round =>
  obtain ⟨k, hk, rfl, hst, hkm, hok⟩ := hrel
  clear x0 x1 x2 x3 y0 y1 l0 l1 HS2 HKM
  have HST := hidp hst
  have HKM := hidp hkm
  have HOK := hidp hok
  obtain ⟨x0, x1, x2, x3, y0, y1, l0, l1⟩ := hst.cells
  clear hst hkm hok
  by_cases hkn : k < q.nn
  ·have hkn' : (k : Int) < q.nn := by omega
   obtain ⟨b, off, s, hA, hb, hs, c1⟩ := nSl.get (HNm.out _ HST.out.below) hkn
   have lb := lt_of_cell c1
   have HX := hidp hs
   have hix := ix_strs (c := q.nc) hA hkn
   clear hs hA
   go_wp2_with fail
   refine (name_any s _).mono ?_
   rintro e w3 ⟨rfl, hk3⟩
   have hs3 := HST.out.later hk3
   have hkm3 : KMV sV w3 bm kvsJ := HKM.out.keep (hk3.block _ HKM.out.lt)
   have HS3 := hidp hs3
   have HKM3 := hidp hkm3
   have HN3 := hidp (HNm.out _ hs3.below)
   clear x0 x1 x2 x3 y0 y1 l0 l1 c1 lb hk3 HKM HST
   obtain ⟨x0, x1, x2, x3, y0, y1, l0, l1⟩ := hs3.cells
   have hlk := words_look w3 hkm3 s
   clear hs3 hkm3
   obtain ⟨p5, hp5⟩ : ∃ p, nameB s = p := ⟨_, rfl⟩
   rw [hp5]
   have HP5 := hidp hp5
   clear hp5
   cases p5
   ·have HF : Hid (checkJ wdJ q = false) := cj_name HX.out (fun h => by have := HP5.out; rw [h.1] at this; cases this)
    go_wp2_with fail
    exact chk_leave (Ds := []) rfl (HE.out _ HS3.out) (Marks.nil _ _) (by rw [HF.out]; rfl) (.inl rfl)
   obtain ⟨z5, hz5⟩ : ∃ z, wdJ s = z := ⟨_, rfl⟩
   rw [hz5] at hlk
   have HZ5 := hidp hz5
   clear hz5
   by_cases hz0 : z5 = 0
   rotate_left
   ·have HF : Hid (checkJ wdJ q = false) := cj_name HX.out (fun h => hz0 (by rw [← HZ5.out]; exact h.2.1))
    have hz1 : (z5 != 0) = true := by simpa using hz0
    clear hz0
    go_wp2_with fail
    exact chk_leave (Ds := []) rfl (HE.out _ HS3.out) (Marks.nil _ _) (by rw [HF.out]; rfl) (.inl rfl)
   subst hz0
   go_wp2_with fail
   refine (indexS_any _ _ _ _ s _ (HN3.out.keep nStable (Nat.le_of_lt l0) (fun _ _ => rfl))).mono ?_
   rintro e w4 ⟨rfl, rfl⟩
   obtain ⟨z6, hz6⟩ : ∃ z, indexB q.names s = z := ⟨_, rfl⟩
   rw [hz6]
   have HZ6 := hidp hz6
   clear hz6 hlk
   by_cases hz0 : z6 = (k : Int)
   rotate_left
   ·have HF : Hid (checkJ wdJ q = false) := cj_name HX.out (fun h => hz0 (by rw [← HZ6.out]; exact h.2.2))
    have hz1 : (z6 != (k : Int)) = true := by simpa using hz0
    clear hz0
    go_wp2_with fail
    exact chk_leave (Ds := []) rfl (HE.out _ HS3.out) (Marks.nil _ _) (by rw [HF.out]; rfl) (.inl rfl)
   subst hz0
   go_wp2_with fail
   go_roundw
   case rel => exact ⟨k + 1, by omega, by go_num, HS3.out, HKM3.out, fun j t hj ht => by
    rcases Nat.lt_or_ge j k with h | h
    ·exact HOK.out j t h ht
    ·obtain rfl : j = k := by omega
     rw [HX.out] at ht
     obtain rfl := Option.some.inj ht
     exact ⟨HP5.out, HZ5.out, HZ6.out⟩⟩
   case measure => simp [intOf]; omega
  ·obtain rfl : k = q.nn := by omega
   have HOK1 : Hid (∀ (j : Nat) s, q.names[j]? = some s → nameB s = true ∧ wdJ s = 0 ∧ indexB q.names s = (j : Int)) := fun j s hs => HOK.out j s (by have := (List.getElem?_eq_some_iff.1 hs).1; have := HLen.out.1; omega) hs
   have hkk : ¬ ((q.nn : Int) < q.nn) := by omega
   clear HOK HKM hbm hw12 hbmW
   go_wp2_with fail
   have HSh : Hid (∀ Wx, Below w.heap.size w Wx → iSl Wx w.heap.size q.sA q.sn q.sc q.shows) := fun Wx hb => (HQu.out Wx hb).2.1
   have hsn := (HSh.out _ HST.out.below).2.1
   have hsc := (HSh.out _ HST.out.below).2.2.1
   go_loopw [62] (fun i wr => ∃ k : Nat, k ≤ q.sn ∧ i = .int .i64 k ∧ ChkSt q w 0 wr ∧ ∀ (j : Nat) n, j < k → q.shows[j]? = some n → indexB q.shows n = (j : Int)) (fun i _ => q.sn - (intOf i).toNat)
   case atStart => exact ⟨0, by omega, rfl, HST.out, fun j s h => by omega⟩
   case round =>
    rename World => wa
    obtain ⟨k, hk, rfl, hst, hok⟩ := hrel
    clear x0 x1 x2 x3 y0 y1 l0 l1 HST
    have HST := hidp hst
    have HOK := hidp hok
    obtain ⟨x0, x1, x2, x3, y0, y1, l0, l1⟩ := hst.cells
    clear hst hok
    by_cases hkn : k < q.sn
    ·have hkn' : (k : Int) < q.sn := by omega
     obtain ⟨b, off, n, hA, hb, hs, c1⟩ := iSl.get (HSh.out _ HST.out.below) hkn
     have lb := lt_of_cell c1
     have HX := hidp hs
     have hix := ix_ints (c := q.sc) hA hkn
     clear hs hA
     go_wp2_with fail
     refine (indexN_any _ _ _ _ n _ ((HSh.out _ HST.out.below).keep (Rep.flat_stable _) (Nat.le_of_lt l0) (fun _ _ => rfl))).mono ?_
     rintro e w4 ⟨rfl, rfl⟩
     obtain ⟨z6, hz6⟩ : ∃ z, indexB q.shows n = z := ⟨_, rfl⟩
     rw [hz6]
     have HZ6 := hidp hz6
     clear hz6
     by_cases hz0 : z6 = (k : Int)
     rotate_left
     ·have HF : Hid (checkJ wdJ q = false) := cj_show HX.out (fun h => hz0 (by rw [← HZ6.out]; exact h))
      have hz1 : (z6 != (k : Int)) = true := by simpa using hz0
      clear hz0
      go_wp2_with fail
      exact chk_leave (Ds := []) rfl (HE.out _ HST.out) (Marks.nil _ _) (by rw [HF.out]; rfl) (.inl rfl)
     subst hz0
     go_wp2_with fail
     go_roundw
     case rel => exact ⟨k + 1, by omega, by go_num, HST.out, fun j t hj ht => by
      rcases Nat.lt_or_ge j k with h | h
      ·exact HOK.out j t h ht
      ·obtain rfl : j = k := by omega
       rw [HX.out] at ht
       obtain rfl := Option.some.inj ht
       exact HZ6.out⟩
     case measure => simp [intOf]; omega
    ·obtain rfl : k = q.sn := by omega
     have HOK2 : Hid (∀ (j : Nat) n, q.shows[j]? = some n → indexB q.shows n = (j : Int)) := fun j s hs => HOK.out j s (by have := (List.getElem?_eq_some_iff.1 hs).1; have := HLen.out.2.1; omega) hs
     have hkk : ¬ ((q.sn : Int) < q.sn) := by omega
     clear HOK
     go_wp2_with fail
     have HAm : Hid (∀ Wx, Below w.heap.size w Wx → amSl Wx w.heap.size q.aA q.an q.ac q.atoms) := fun Wx hb => (HQu.out Wx hb).2.2.1
     have han := (HAm.out _ HST.out.below).2.1
     have hac := (HAm.out _ HST.out.below).2.2.1
     go_loopw [77] (fun i wr => ∃ k : Nat, k ≤ q.an ∧ i = .int .i64 k ∧ ChkSt q w 0 wr ∧ ∀ (j : Nat) a, j < k → q.atoms[j]? = some a → amOk a = true) (fun i _ => q.an - (intOf i).toNat)
     case atStart => exact ⟨0, by omega, rfl, HST.out, fun j s h => by omega⟩
     case round =>
      rename World => wb
      obtain ⟨k, hk, rfl, hst, hok⟩ := hrel
      clear x0 x1 x2 x3 y0 y1 l0 l1 HST
      have HST := hidp hst
      have HOK := hidp hok
      obtain ⟨x0, x1, x2, x3, y0, y1, l0, l1⟩ := hst.cells
      clear hst hok
      by_cases hkn : k < q.an
      ·have hkn' : (k : Int) < q.an := by omega
       obtain ⟨b, off, a, cs, hA, hb, hs, hr, hc⟩ := Rows.get (HAm.out _ HST.out.below) hkn
       obtain rfl := hr
       have c0 := hc 0 _ rfl
       have c1 := hc 1 _ rfl
       have c2 := hc 2 _ rfl
       have c3 := hc 3 _ rfl
       have c4 := hc 4 _ rfl
       have c5 := hc 5 _ rfl
       have c6 := hc 6 _ rfl
       have c7 := hc 7 _ rfl
       have c8 := hc 8 _ rfl
       rw [Nat.add_zero] at c0
       have lb := lt_of_cell c0
       have HX := hidp hs
       have hix := ix_Atoms (c := q.ac) hA hkn
       clear hs hA hc
       obtain ⟨W5, hW5⟩ : ∃ W5, wb.alloc (.cells #[.int .i64 a.kind, .bool a.s.var, .int .i64 a.s.n, .bool a.o.var, .int .i64 a.o.n, .bool a.v.var, .int .i64 a.v.n, .int .i64 a.term, .int .i64 a.known] 64) = W5 := ⟨_, rfl⟩
       have hs5 : ChkSt q w 0 W5 := hW5 ▸ HST.out.later ((Below.refl _ _).alloc (Nat.le_refl _) _)
       have g5 : W5.heap[wb.heap.size]? = some (.cells #[.int .i64 a.kind, .bool a.s.var, .int .i64 a.s.n, .bool a.o.var, .int .i64 a.o.n, .bool a.v.var, .int .i64 a.v.n, .int .i64 a.term, .int .i64 a.known] 64 (0, 0)) := hW5 ▸ World.alloc_heap_new _ _
       have HW5 := hidp hW5
       have HS5 := hidp hs5
       have G5 := hidp g5
       clear hW5 hs5 g5
       go_wp2_with fail
       rw [HW5.out]
       refine (qin_any _ _ _ _).mono ?_
       rintro e w6 ⟨rfl, rfl⟩
       clear x0 x1 x2 x3 y0 y1 l0 l1 c0 c1 c2 c3 c4 c5 c6 c7 c8 lb
       obtain ⟨x0, x1, x2, x3, y0, y1, l0, l1⟩ := HS5.out.cells
       have d4 : W5.cell? ⟨wb.heap.size, 7, none⟩ = some (.int .i64 a.term) := by rw [cell_of_heap G5.out]; rfl
       have d5 : W5.cell? ⟨wb.heap.size, 8, none⟩ = some (.int .i64 a.known) := by rw [cell_of_heap G5.out]; rfl
       have l5 := lt_of_heap G5.out
       obtain ⟨p1, hp1⟩ : ∃ p, inB a.kind 1 12 = p := ⟨_, rfl⟩
       rw [hp1]
       have HP1 := hidp hp1
       clear hp1
       cases p1
       ·have HF : Hid (checkJ wdJ q = false) := cj_atom HX.out (by unfold amOk; rw [HP1.out]; simp)
        go_wp2_with fail
        exact chk_leave (Ds := []) rfl (HE.out _ HS5.out) (Marks.nil _ _) (by rw [HF.out]; rfl) (.inl rfl)
       go_wp2_with fail
       refine (qin_any _ _ _ _).mono ?_
       rintro e w6 ⟨rfl, rfl⟩
       obtain ⟨p4, hp4⟩ : ∃ p, inB a.term 0 1023 = p := ⟨_, rfl⟩
       rw [hp4]
       have HP4 := hidp hp4
       clear hp4
       cases p4
       ·have HF : Hid (checkJ wdJ q = false) := cj_atom HX.out (by unfold amOk; rw [HP4.out]; simp)
        go_wp2_with fail
        exact chk_leave (Ds := []) rfl (HE.out _ HS5.out) (Marks.nil _ _) (by rw [HF.out]; rfl) (.inl rfl)
       go_wp2_with fail
       refine (qin_any _ _ _ _).mono ?_
       rintro e w6 ⟨rfl, rfl⟩
       obtain ⟨p6, hp6⟩ : ∃ p, inB a.known 0 16777216 = p := ⟨_, rfl⟩
       rw [hp6]
       have HP6 := hidp hp6
       clear hp6
       cases p6
       ·have HF : Hid (checkJ wdJ q = false) := cj_atom HX.out (by unfold amOk; rw [HP6.out]; simp)
        go_wp2_with fail
        exact chk_leave (Ds := []) rfl (HE.out _ HS5.out) (Marks.nil _ _) (by rw [HF.out]; rfl) (.inl rfl)
       go_wp2_with fail
       go_roundw
       case rel => exact ⟨k + 1, by omega, by go_num, HS5.out, fun j t hj ht => by
        rcases Nat.lt_or_ge j k with h | h
        ·exact HOK.out j t h ht
        ·obtain rfl : j = k := by omega
         rw [HX.out] at ht
         obtain rfl := Option.some.inj ht
         unfold amOk; rw [HP1.out, HP4.out, HP6.out]; rfl⟩
       case measure => simp [intOf]; omega
      ·obtain rfl : k = q.an := by omega
       have HOK3 : Hid (∀ (j : Nat) a, q.atoms[j]? = some a → amOk a = true) := fun j s hs => HOK.out j s (by have := (List.getElem?_eq_some_iff.1 hs).1; have := HLen.out.2.2.1; omega) hs
       have hkk : ¬ ((q.an : Int) < q.an) := by omega
       clear HOK
       go_wp2_with fail
       have HTe : Hid (∀ Wx, Below w.heap.size w Wx → teSl Wx w.heap.size q.tA q.tn q.tc q.tests) := fun Wx hb => (HQu.out Wx hb).2.2.2
       have htn := (HTe.out _ HST.out.below).2.1
       have htc := (HTe.out _ HST.out.below).2.2.1
       go_loopw [101] (fun i wr => ∃ k : Nat, k ≤ q.tn ∧ i = .int .i64 k ∧ ChkSt q w 0 wr ∧ ∀ (j : Nat) a, j < k → q.tests[j]? = some a → teOk a = true) (fun i _ => q.tn - (intOf i).toNat)
       case atStart => exact ⟨0, by omega, rfl, HST.out, fun j s h => by omega⟩
       case round =>
        rename World => wc
        obtain ⟨k, hk, rfl, hst, hok⟩ := hrel
        clear x0 x1 x2 x3 y0 y1 l0 l1 HST
        have HST := hidp hst
        have HOK := hidp hok
        obtain ⟨x0, x1, x2, x3, y0, y1, l0, l1⟩ := hst.cells
        clear hst hok
        by_cases hkn : k < q.tn
        ·have hkn' : (k : Int) < q.tn := by omega
         obtain ⟨b, off, a, cs, hA, hb, hs, hr, hc⟩ := Rows.get (HTe.out _ HST.out.below) hkn
         obtain rfl := hr
         have c0 := hc 0 _ rfl
         have c1 := hc 1 _ rfl
         have c2 := hc 2 _ rfl
         have c3 := hc 3 _ rfl
         have c4 := hc 4 _ rfl
         rw [Nat.add_zero] at c0
         have lb := lt_of_cell c0
         have HX := hidp hs
         have hix := ix_Tests (c := q.tc) hA hkn
         clear hs hA hc
         obtain ⟨W5, hW5⟩ : ∃ W5, wc.alloc (.cells #[.int .i64 a.op, .bool a.a.var, .int .i64 a.a.n, .bool a.b.var, .int .i64 a.b.n] 67) = W5 := ⟨_, rfl⟩
         have hs5 : ChkSt q w 0 W5 := hW5 ▸ HST.out.later ((Below.refl _ _).alloc (Nat.le_refl _) _)
         have HW5 := hidp hW5
         have HS5 := hidp hs5
         clear hW5 hs5
         go_wp2_with fail
         rw [HW5.out]
         refine (qin_any _ _ _ _).mono ?_
         rintro e w6 ⟨rfl, rfl⟩
         clear x0 x1 x2 x3 y0 y1 l0 l1 c0 c1 c2 c3 c4 lb
         obtain ⟨x0, x1, x2, x3, y0, y1, l0, l1⟩ := HS5.out.cells
         obtain ⟨p1, hp1⟩ : ∃ p, inB a.op (-2) 1 = p := ⟨_, rfl⟩
         rw [hp1]
         have HP1 := hidp hp1
         clear hp1
         cases p1
         ·have HF : Hid (checkJ wdJ q = false) := cj_test HX.out HP1.out
          go_wp2_with fail
          exact chk_leave (Ds := []) rfl (HE.out _ HS5.out) (Marks.nil _ _) (by rw [HF.out]; rfl) (.inl rfl)
         go_wp2_with fail
         go_roundw
         case rel => exact ⟨k + 1, by omega, by go_num, HS5.out, fun j t hj ht => by
          rcases Nat.lt_or_ge j k with h | h
          ·exact HOK.out j t h ht
          ·obtain rfl : j = k := by omega
           rw [HX.out] at ht
           obtain rfl := Option.some.inj ht
           exact HP1.out⟩
         case measure => simp [intOf]; omega
        ·obtain rfl : k = q.tn := by omega
         have HOK4 : Hid (∀ (j : Nat) a, q.tests[j]? = some a → teOk a = true) := fun j s hs => HOK.out j s (by have := (List.getElem?_eq_some_iff.1 hs).1; have := HLen.out.2.2.2; omega) hs
         have hkk : ¬ ((q.tn : Int) < q.tn) := by omega
         clear HOK
         go_wp2_with fail
         refine (args_any w.heap.size wc).mono ?_
         rintro e wq ⟨rfl, rfl⟩
         obtain ⟨Wz, hWz⟩ : ∃ Wz, wc.alloc (.cells #[.pointer (some ⟨w.heap.size, 0, none⟩)] 119) = Wz := ⟨_, rfl⟩
         have hsz : ChkSt q w 0 Wz := hWz ▸ HST.out.later ((Below.refl _ _).alloc (Nat.le_refl _) _)
         have hbz : Wz.heap[wc.heap.size]? = some (.cells #[.pointer (some ⟨w.heap.size, 0, none⟩)] 119 (0, 0)) := hWz ▸ World.alloc_heap_new _ _
         have hzz : Wz.heap.size = wc.heap.size + 1 := by rw [← hWz]; simp
         have hBnd : q.sn ≤ 1000 ∧ q.an ≤ 1000 ∧ q.tn ≤ 1000 := by
          have h1 := HP2.out; have h2 := HP3.out
          simp only [inB, Bool.and_eq_true, decide_eq_true_eq] at h1 h2
          omega
         have hseq := args1_seq wc.heap.size w.heap.size w.heap.size q Wz (by rw [cell_of_heap hbz]; rfl) hsz.qu (HQu.out _ hsz.below).2.2.1 (HQu.out _ hsz.below).2.2.2 hBnd.2
         have HSZ := hidp hsz
         have HWz := hidp hWz
         have HBnd := hidp hBnd
         have hwz1 : w.heap.size + 1 < Wz.heap.size := lt_of_heap HSZ.out.box
         clear hWz hsz hBnd x0 x1 x2 x3 y0 y1 l0 l1
         obtain ⟨x0, x1, x2, x3, y0, y1, l0, l1⟩ := HST.out.cells
         go_wp2_with fail
         rw [HWz.out]
         refine wp_rangeM (gf := 95) (lb := #[.pointer (some ⟨wc.heap.size, 0, none⟩)]) rfl (enters_of Tryz.func95 (by kernel_rfl) rfl) hseq (fun b => b = w.heap.size + 1) ?S (fun _ => rfl) ?M
          (fun pre Wx => ChkSt q w 0 Wx ∧ ∀ x ∈ pre, arOk x.2 = true)
          (fun c Wx => c = .ret ∧ ChkSt q w 500 Wx ∧ checkJ wdJ q = false)
          ?hI ?hIx ?h0 (fun ll pre x a' Wx => ChkSt q w 0 Wx ∧ (∀ x ∈ pre, arOk x.2 = true) ∧ a' = { tmps := #[.agg #[.slice q.nA q.nn q.nc, .slice q.sA q.sn q.sc, .slice q.aA q.an q.ac, .slice q.tA q.tn q.tc], .pointer (some ⟨w.heap.size, 0, none⟩), .pointer (some ⟨w.heap.size + 1, 0, none⟩), .map (some bm), u4, u5, u6, u7, undef, u9, undef, u11, .pointer (some x.1), undef, undef, .pointer (some ⟨w.heap.size, 0, none⟩), .slice q.nA q.nn q.nc, .int .i64 ↑q.nn, .bool false, .bool false, .pointer (some ⟨w.heap.size, 1, none⟩), .slice q.sA q.sn q.sc, .int .i64 ↑q.sn, .bool true, .bool false, .bool false, .bool false, .agg #[.slice q.nA q.nn q.nc, .slice q.sA q.sn q.sc, .slice q.aA q.an q.ac, .slice q.tA q.tn q.tc], .int .i64 (wrap64 (↑q.an + ↑q.tn)), .bool true, .bool false, .bool false, .map (some bm), .pointer (some ⟨w.heap.size, 0, none⟩), .slice q.nA q.nn q.nc, .int .i64 ↑q.nn, .int .i64 ↑q.nn, .bool false, u38, u39, u40, u41, u42, u43, u44, u45, u46, u47, u48, u49, u50, u51, u52, u53, u54, u55, u56, u57, u58, .pointer (some ⟨w.heap.size, 1, none⟩), .slice q.sA q.sn q.sc, .int .i64 ↑q.sn, .int .i64 ↑q.sn, .bool false, u64, u65, u66, u67, u68, u69, u70, u71, u72, u73, .pointer (some ⟨w.heap.size, 2, none⟩), .slice q.aA q.an q.ac, .int .i64 ↑q.an, .int .i64 ↑q.an, .bool false, u79, u80, u81, u82, u83, u84, u85, u86, u87, u88, u89, u90, u91, u92, u93, u94, u95, u96, u97, .pointer (some ⟨w.heap.size, 3, none⟩), .slice q.tA q.tn q.tc, .int .i64 ↑q.tn, .int .i64 ↑q.tn, .bool false, u103, u104, u105, u106, u107, u108, u109, .func (.func 95) #[] #[.pointer (some ⟨wc.heap.size, 0, none⟩)], .pointer (some x.1), undef, undef, undef, undef, undef, undef, undef, undef, undef, undef, undef, undef, undef, undef, undef, undef, undef, undef, undef, undef, undef, undef, undef, undef, undef, undef, undef, undef, undef, undef, undef, undef, undef, undef, undef, undef, undef, undef, undef, undef, undef, undef, undef, undef, undef, undef, undef], defers := [] })
          ?hAx ?assign ?body ?done ?stop
         case S =>
          have hwz := HSZ.out.below.size
          rintro b (hb | rfl | rfl) <;> exact ⟨by omega, rfl, by omega⟩
         case M => rintro b rfl; omega
         case hI =>
          rintro pre W1 W2 ⟨h1, h2⟩ hk
          exact ⟨h1.keep (hk.block _ (lt_of_heap h1.qu) (by omega)) (hk.block _ (lt_of_heap h1.box) (by omega)) (hk.toBelow h1.below.size (by intro b hb; omega)), h2⟩
         case hIx =>
          rintro cd W1 W2 ⟨h0, h1, h2⟩ hk
          exact ⟨h0, h1.keep (hk.block _ (lt_of_heap h1.qu) (by omega)) (hk.block _ (lt_of_heap h1.box) (by omega)) (hk.toBelow h1.below.size (by intro b hb; omega)), h2⟩
         case h0 => exact ⟨HSZ.out, by simp⟩
         case hAx =>
          rintro ll pre x a' W2 W3 hll ⟨h1, h2, rfl⟩ _ hk
          exact ⟨h1.keep (hk.block _ (lt_of_heap h1.qu) (by omega)) (hk.block _ (lt_of_heap h1.box) (by omega)) (hk.toBelow h1.below.size (by intro b hb; omega)), h2, rfl⟩
         case assign =>
          rintro ll m pre x suf W1 K hll hlt2 _ ⟨h1, h2⟩ hK
          have H1 := hidp h1
          have H2 := hidp h2
          clear h1 h2 x0 x1 x2 x3 y0 y1 l0 l1
          gi_wp2
          exact hK _ _ (Kept.refl _ _) ⟨H1.out, H2.out, rfl⟩
         case body =>
          rintro ll m pre x suf a' W2 hll hxs ⟨h1, h2, rfl⟩ _
          have hx : x ∈ argP q := by rw [hxs]; simp
          obtain ⟨b, off, hxa, hbn, c0, c1⟩ := argP_cells (HQu.out _ h1.below).2.2.1 (HQu.out _ h1.below).2.2.2 hx
          have hxm : x.2 ∈ argsJ q := by rw [← argP_map]; exact List.mem_map_of_mem hx
          have HXM := hidp hxm
          have H1 := hidp h1
          have H2 := hidp h2
          clear x0 x1 x2 x3 y0 y1 l0 l1
          obtain ⟨x0, x1, x2, x3, y0, y1, l0, l1⟩ := h1.cells
          obtain ⟨xa, ar⟩ := x
          obtain rfl : xa = ⟨b, off, none⟩ := hxa
          have lb := lt_of_cell c0
          clear hx hxm hxs h1 h2
          dsimp only at c0 c1 ⊢
          obtain ⟨vb, hvb⟩ : ∃ vb, ar.var = vb := ⟨_, rfl⟩
          rw [hvb] at c0
          have HVb := hidp hvb
          clear hvb
          cases vb
          ·gi_wp2
           refine ⟨trivial, (fun h => by simp [Fence.wide] at h), CallsIn.inRound ll (callsIn_wide.2 ((qin_any _ _ _ _).mono ?_))⟩
           rintro e w6 ⟨rfl, rfl⟩
           obtain ⟨p1, hp1⟩ : ∃ p, inB ar.n 0 1099511627776 = p := ⟨_, rfl⟩
           rw [hp1]
           have HP1 := hidp hp1
           clear hp1
           cases p1
           ·have HF : Hid (checkJ wdJ q = false) := cj_arg HXM.out (by unfold arOk; rw [HVb.out, HP1.out]; rfl)
            gi_wp2
            exact ⟨(Kept.refl (fun b => b = w.heap.size + 1) W2).setCell (p := ⟨w.heap.size + 1, 0, none⟩) (.inl rfl) _, rfl, H1.out.err 500, HF.out⟩
           ·gi_wp2
            exact ⟨Kept.refl _ _, H1.out, fun y hy => by
             rcases List.mem_append.1 hy with h | h
             ·exact H2.out y h
             ·obtain rfl := List.mem_singleton.1 h
              unfold arOk; rw [HP1.out]; simp⟩
          ·gi_wp2
           refine ⟨trivial, ?_⟩
           gi_wp2
           exact ⟨Kept.refl _ _, H1.out, fun y hy => by
            rcases List.mem_append.1 hy with h | h
            ·exact H2.out y h
            ·obtain rfl := List.mem_singleton.1 h
             unfold arOk; rw [HVb.out]; rfl⟩
         case stop =>
          rintro D c Wx hD hlt ⟨rfl, h1, h2⟩ hmk
          have H1 := hidp h1
          have HMK := hidp hmk
          have HF := hidp h2
          clear h1 h2 hmk hseq x0 x1 x2 x3 y0 y1 l0 l1
          go_wp2
          exact chk_leave (Ds := [D]) rfl H1.out (Marks.cons (Marks.nil _ _) (by omega) HMK.out (by simp)) (by rw [HF.out]; rfl) (.inl rfl)
         case done =>
          rintro D Wx hD hlt ⟨h1, h2⟩ hmk
          have HOK5 : Hid (∀ a ∈ argsJ q, arOk a = true) := fun a ha => by
           rw [← argP_map] at ha
           obtain ⟨x, hx, rfl⟩ := List.mem_map.1 ha
           exact h2 x hx
          have HSX := hidp h1
          have HMK := hidp hmk
          clear x0 x1 x2 x3 y0 y1 l0 l1
          obtain ⟨x0, x1, x2, x3, y0, y1, l0, l1⟩ := h1.cells
          have hDx := lt_of_heap hmk
          have hDb : w.heap.size + 1 < D := by omega
          obtain ⟨W6, hW6⟩ : ∃ W6, Wx.alloc (.cells #[.int .i64 0] 3) = W6 := ⟨_, rfl⟩
          have hs6 : ChkSt q w 0 W6 := hW6 ▸ HSX.out.later ((Below.refl _ _).alloc (Nat.le_refl _) _)
          have g6 : W6.heap[Wx.heap.size]? = some (.cells #[.int .i64 0] 3 (0, 0)) := hW6 ▸ World.alloc_heap_new _ _
          have hD6 : W6.heap[D]? = some (.deferred (some [])) := hW6 ▸ (Below.heap_alloc _ _ _ hDx).trans hmk
          have hz6 : W6.heap.size = Wx.heap.size + 1 := by rw [← hW6]; simp
          have HW6 := hidp hW6
          clear h1 h2 hmk hseq hW6
          go_wp2_with fail
          rw [HW6.out]
          refine (vars_any w.heap.size W6).mono ?_
          rintro e wq ⟨rfl, rfl⟩
          obtain ⟨W7, hW7⟩ : ∃ W7, W6.alloc (.cells #[.pointer (some ⟨w.heap.size, 0, none⟩)] 119) = W7 := ⟨_, rfl⟩
          have hs7 : ChkSt q w 0 W7 := hW7 ▸ hs6.later ((Below.refl _ _).alloc (Nat.le_refl _) _)
          have hb7 : W7.heap[W6.heap.size]? = some (.cells #[.pointer (some ⟨w.heap.size, 0, none⟩)] 119 (0, 0)) := hW7 ▸ World.alloc_heap_new _ _
          have g7 : W7.heap[Wx.heap.size]? = some (.cells #[.int .i64 0] 3 (0, 0)) := hW7 ▸ (Below.heap_alloc _ _ _ (by omega)).trans g6
          have hD7 : W7.heap[D]? = some (.deferred (some [])) := hW7 ▸ (Below.heap_alloc _ _ _ (by omega)).trans hD6
          have hz7 : W7.heap.size = W6.heap.size + 1 := by rw [← hW7]; simp
          have hseq := vars1_seq W6.heap.size w.heap.size w.heap.size q W7 (by rw [cell_of_heap hb7]; rfl) hs7.qu (HQu.out _ hs7.below).2.1 (HQu.out _ hs7.below).2.2.1 (HQu.out _ hs7.below).2.2.2 HBnd.out
          have HS7 := hidp hs7
          have HW7 := hidp hW7
          have HG7 := hidp g7
          have HD7 := hidp hD7
          have HVL : Hid ((varP q).length ≤ 100000) := by
           have h1 := congrArg List.length (varP_map q)
           have h2 := HBnd.out; have h3 := HLen.out
           have h4 := argVar_len (argP q)
           show _ ≤ _
           simp only [varP, argP, List.length_append, showsP_len, atomsP_len, testsP_len] at h4 ⊢
           omega
          clear hW7 hs7 hb7 g7 hD7 hs6 g6 hD6 x0 x1 x2 x3 y0 y1 l0 l1
          obtain ⟨x0, x1, x2, x3, y0, y1, l0, l1⟩ := HS7.out.cells
          go_wp2_with fail
          rw [HW7.out]
          rw [hz6] at hseq
          have hz8 : W7.heap.size = Wx.heap.size + 2 := by omega
          refine wp_rangeM (gf := 96) (lb := #[.pointer (some ⟨Wx.heap.size + 1, 0, none⟩)]) rfl (enters_of Tryz.func96 (by kernel_rfl) rfl) hseq (fun b => b = w.heap.size + 1 ∨ b = Wx.heap.size) ?S (fun _ => rfl) ?M
           (fun pre Wy => ChkSt q w 0 Wy ∧ Wy.heap[D]? = some (.deferred (some [])) ∧ ∃ z : Nat, (pre.map (·.2)).foldl (nextStep q.names.length) (some 0) = some (z : Int) ∧ z ≤ pre.length ∧ Wy.heap[Wx.heap.size]? = some (.cells #[.int .i64 z] 3 (0, 0)))
           (fun c Wy => c = .ret ∧ ChkSt q w 500 Wy ∧ Wy.heap[D]? = some (.deferred (some [])) ∧ checkJ wdJ q = false)
           ?hI ?hIx ?h0 (fun ll pre x a' Wy => (ChkSt q w 0 Wy ∧ Wy.heap[D]? = some (.deferred (some [])) ∧ ∃ z : Nat, (pre.map (·.2)).foldl (nextStep q.names.length) (some 0) = some (z : Int) ∧ z ≤ pre.length ∧ Wy.heap[Wx.heap.size]? = some (.cells #[.int .i64 z] 3 (0, 0))) ∧ a' = { tmps := #[.agg #[.slice q.nA q.nn q.nc, .slice q.sA q.sn q.sc, .slice q.aA q.an q.ac, .slice q.tA q.tn q.tc], .pointer (some ⟨w.heap.size, 0, none⟩), .pointer (some ⟨w.heap.size + 1, 0, none⟩), .map (some bm), u4, u5, u6, u7, undef, u9, undef, u11, undef, .pointer (some ⟨Wx.heap.size, 0, none⟩), .pointer (some x.1), .pointer (some ⟨w.heap.size, 0, none⟩), .slice q.nA q.nn q.nc, .int .i64 ↑q.nn, .bool false, .bool false, .pointer (some ⟨w.heap.size, 1, none⟩), .slice q.sA q.sn q.sc, .int .i64 ↑q.sn, .bool true, .bool false, .bool false, .bool false, .agg #[.slice q.nA q.nn q.nc, .slice q.sA q.sn q.sc, .slice q.aA q.an q.ac, .slice q.tA q.tn q.tc], .int .i64 (wrap64 (↑q.an + ↑q.tn)), .bool true, .bool false, .bool false, .map (some bm), .pointer (some ⟨w.heap.size, 0, none⟩), .slice q.nA q.nn q.nc, .int .i64 ↑q.nn, .int .i64 ↑q.nn, .bool false, u38, u39, u40, u41, u42, u43, u44, u45, u46, u47, u48, u49, u50, u51, u52, u53, u54, u55, u56, u57, u58, .pointer (some ⟨w.heap.size, 1, none⟩), .slice q.sA q.sn q.sc, .int .i64 ↑q.sn, .int .i64 ↑q.sn, .bool false, u64, u65, u66, u67, u68, u69, u70, u71, u72, u73, .pointer (some ⟨w.heap.size, 2, none⟩), .slice q.aA q.an q.ac, .int .i64 ↑q.an, .int .i64 ↑q.an, .bool false, u79, u80, u81, u82, u83, u84, u85, u86, u87, u88, u89, u90, u91, u92, u93, u94, u95, u96, u97, .pointer (some ⟨w.heap.size, 3, none⟩), .slice q.tA q.tn q.tc, .int .i64 ↑q.tn, .int .i64 ↑q.tn, .bool false, u103, u104, u105, u106, u107, u108, u109, .func (.func 95) #[] #[.pointer (some ⟨wc.heap.size, 0, none⟩)], undef, undef, undef, undef, undef, undef, undef, undef, undef, undef, undef, undef, undef, undef, .func (.func 96) #[] #[.pointer (some ⟨Wx.heap.size + 1, 0, none⟩)], .pointer (some x.1), undef, undef, undef, undef, undef, undef, undef, undef, undef, undef, undef, undef, undef, undef, undef, undef, undef, undef, undef, undef, undef, undef, undef, undef, undef, undef, undef, undef, undef, undef, undef, undef], defers := [] })
           ?hAx ?assign ?body ?done ?stop
          case S =>
           have hwz := HSX.out.below.size
           have hwz2 := lt_of_heap HSX.out.box
           rintro b (hb | rfl | rfl) <;> exact ⟨by omega, rfl, by omega⟩
          case M =>
           have hwz2 := lt_of_heap HSX.out.box
           rintro b (rfl | rfl) <;> omega
          case hI =>
           have hwz2 := lt_of_heap HSX.out.box
           rintro pre W1 W2 ⟨h1, hd, z, h2, h3, h4⟩ hk
           exact ⟨h1.keep (hk.block _ (lt_of_heap h1.qu) (by omega)) (hk.block _ (lt_of_heap h1.box) (by omega)) (hk.toBelow h1.below.size (by intro b hb; omega)), (hk.block _ (lt_of_heap hd) (by omega)).trans hd, z, h2, h3, (hk.block _ (lt_of_heap h4) (by omega)).trans h4⟩
          case hIx =>
           have hwz2 := lt_of_heap HSX.out.box
           rintro cd W1 W2 ⟨h0, h1, hd, h2⟩ hk
           exact ⟨h0, h1.keep (hk.block _ (lt_of_heap h1.qu) (by omega)) (hk.block _ (lt_of_heap h1.box) (by omega)) (hk.toBelow h1.below.size (by intro b hb; omega)), (hk.block _ (lt_of_heap hd) (by omega)).trans hd, h2⟩
          case h0 => exact ⟨HS7.out, HD7.out, 0, rfl, Nat.le_refl _, HG7.out⟩
          case hAx =>
           have hwz2 := lt_of_heap HSX.out.box
           rintro ll pre x a' W2 W3 hll ⟨⟨h1, hd, z, h2, h3, h4⟩, rfl⟩ _ hk
           exact ⟨⟨h1.keep (hk.block _ (lt_of_heap h1.qu) (by omega)) (hk.block _ (lt_of_heap h1.box) (by omega)) (hk.toBelow h1.below.size (by intro b hb; omega)), (hk.block _ (lt_of_heap hd) (by omega)).trans hd, z, h2, h3, (hk.block _ (lt_of_heap h4) (by omega)).trans h4⟩, rfl⟩
          case assign =>
           rintro ll m pre x suf W1 K hll hlt2 _ h1 hK
           have H1 := hidp h1
           clear h1 x0 x1 x2 x3 y0 y1 l0 l1
           gi_wp2
           exact hK _ _ (Kept.refl _ _) ⟨H1.out, rfl⟩
          case body =>
           rintro ll m pre x suf a' W2 hll hxs ⟨⟨h1, hd, z, hz, hzl, h4⟩, rfl⟩ _
           have hx : x ∈ varP q := by rw [hxs]; simp
           obtain ⟨b, off, hxa, hbn, c0⟩ := varP_cells (HQu.out _ h1.below).2.1 (HQu.out _ h1.below).2.2.1 (HQu.out _ h1.below).2.2.2 hx
           have hvs : varsJ q = pre.map (·.2) ++ x.2 :: suf.map (·.2) := by rw [← varP_map, hxs]; simp
           have hzb : z ≤ 100000 := by have := HVL.out; have := congrArg List.length hxs; simp at this; omega
           have HVS := hidp hvs
           have H1 := hidp h1
           have HD := hidp hd
           have HZ := hidp hz
           have HZL := hidp hzl
           have H4 := hidp h4
           clear x0 x1 x2 x3 y0 y1 l0 l1
           obtain ⟨x0, x1, x2, x3, y0, y1, l0, l1⟩ := h1.cells
           have d0 : W2.cell? ⟨Wx.heap.size, 0, none⟩ = some (.int .i64 z) := by rw [cell_of_heap h4]; rfl
           have d1 := frozen_of_heap (o := 0) h4
           have ld := lt_of_heap h4
           obtain ⟨xa, n⟩ := x
           obtain rfl : xa = ⟨b, off, none⟩ := hxa
           have lb := lt_of_cell c0
           have hMK : Kept (fun b => b = w.heap.size + 1 ∨ b = Wx.heap.size) W2 W2 := Kept.refl _ _
           have HMKK := hidp hMK
           have hwz2 := lt_of_heap HSX.out.box
           have herr : nextStep q.names.length (some (z : Int)) n = none → checkJ wdJ q = false := fun h => cj_next (by
            rw [HVS.out]
            unfold nextJ
            rw [List.foldl_append, HZ.out, List.foldl_cons]
            show (suf.map (·.2)).foldl _ (nextStep q.names.length (some (z : Int)) n) ≠ _
            rw [h, next_none]; simp)
           have HErr := hidp herr
           have HLn := hidp HLen.out.1
           clear hx hxs h1 hd hz hzl h4 hvs hMK herr hwz2
           dsimp only at c0 ⊢
           obtain ⟨b1, hb1⟩ : ∃ b, decide (n < 0) = b := ⟨_, rfl⟩
           obtain ⟨b2, hb2⟩ : ∃ b, decide ((z : Int) < n) = b := ⟨_, rfl⟩
           obtain ⟨b3, hb3⟩ : ∃ b, decide ((q.nn : Int) ≤ n) = b := ⟨_, rfl⟩
           have HB1 := hidp hb1
           have HB2 := hidp hb2
           have HB3 := hidp hb3
           clear hb1 hb2 hb3
           gi_wp2
           refine wpIn_region_SR W2.heap.size 20 (fun _ => false) (Nat.le_refl _) (by kernel_rfl) (by kernel_rfl) (by kernel_rfl) ?_
           dsimp only [List.take, List.drop]
           apply relS_det (mask := [])
           ·rfl
           ·kernel_rfl
           ·kernel_rfl
           ·dsimp only [oblS]
            rintro w9 h9
            go_simp
            exact ⟨Below.refl _ _, rfl⟩
           dsimp only [naL, caL]
           apply relS_det (mask := [true])
           ·rfl
           ·kernel_rfl
           ·kernel_rfl
           ·dsimp only [oblS]
            rintro w9 h9
            go_simp
            exact ⟨Below.refl _ _, rfl⟩
           dsimp only [naL, caL]
           apply relS_det (mask := [false, true]) (x := .int .i64 n)
           ·rfl
           ·kernel_rfl
           ·kernel_rfl
           ·dsimp only [oblS]
            rintro w9 h9
            have hc9 := (bcell h9).1
            go_simp
            exact ⟨Below.refl _ _, rfl⟩
           dsimp only [naL, caL]
           apply relS_det (mask := [false, false, true]) (x := .bool b1)
           ·rfl
           ·kernel_rfl
           ·kernel_rfl
           ·dsimp only [oblS]
            rintro w9 h9
            go_simp
            exact ⟨Below.refl _ _, by show _ = _; rw [← HB1.out]⟩
           dsimp only [naL, caL]
           apply relS_det (mask := [false, false, false, true]) (x := .bool b1)
           ·rfl
           ·kernel_rfl
           ·kernel_rfl
           ·dsimp only [oblS]
            rintro w9 h9
            go_simp
            exact ⟨Below.refl _ _, rfl⟩
           dsimp only [naL, caL]
           apply relS_if (mask := [false, false, false, false, true]) (t := 131) (want := false) (g := !b1)
           ·rfl
           ·kernel_rfl
           ·kernel_rfl
           ·dsimp only [oblS]
            refine ⟨⟨.bool b1, by rfl, (guard_free (by simp)).1, (guard_free (by simp)).2⟩, ?_⟩
            intro hg
            rintro w9 h9
            go_simp
            exact ⟨Below.refl _ _, rfl⟩
           dsimp only [naL, caL]
           apply relS_if (mask := [false, false, false, false, true, true]) (t := 131) (want := false) (g := !b1)
           ·rfl
           ·kernel_rfl
           ·kernel_rfl
           ·dsimp only [oblS]
            refine ⟨⟨.bool b1, by rfl, (guard_free (by simp)).1, (guard_free (by simp)).2⟩, ?_⟩
            intro hg
            rintro w9 h9
            go_simp
            exact ⟨Below.refl _ _, rfl⟩
           dsimp only [naL, caL]
           apply relS_if (mask := [false, false, false, false, true, false, true]) (t := 131) (want := false) (g := !b1) (x := .int .i64 n)
           ·rfl
           ·kernel_rfl
           ·kernel_rfl
           ·dsimp only [oblS]
            refine ⟨⟨.bool b1, by rfl, (guard_free (by simp)).1, (guard_free (by simp)).2⟩, ?_⟩
            intro hg
            rintro w9 h9
            have hc9 := (bcell h9).1
            go_simp
            exact ⟨Below.refl _ _, rfl⟩
           dsimp only [naL, caL]
           apply relS_if (mask := [false, false, false, false, true, false, false, false]) (t := 131) (want := false) (g := !b1) (x := .int .i64 z)
           ·rfl
           ·kernel_rfl
           ·kernel_rfl
           ·dsimp only [oblS]
            refine ⟨⟨.bool b1, by rfl, (guard_free (by simp)).1, (guard_free (by simp)).2⟩, ?_⟩
            intro hg
            rintro w9 h9
            have hc9 := (bcell h9).1
            go_simp
            exact ⟨Below.refl _ _, rfl⟩
           dsimp only [naL, caL]
           apply relS_if (mask := [false, false, false, false, true, false, false, true, true]) (t := 131) (want := false) (g := !b1) (x := .bool b2)
           ·rfl
           ·kernel_rfl
           ·kernel_rfl
           ·dsimp only [oblS]
            refine ⟨⟨.bool b1, by rfl, (guard_free (by simp)).1, (guard_free (by simp)).2⟩, ?_⟩
            intro hg
            rintro w9 h9
            go_simp
            exact ⟨Below.refl _ _, by show _ = _; rw [← HB2.out]⟩
           dsimp only [naL, caL]
           apply relS_det (mask := [false, false, false, false, true, false, false, false, false, true]) (x := .bool (b1 || b2))
           ·rfl
           ·kernel_rfl
           ·kernel_rfl
           ·dsimp only [oblS]
            rintro w9 h9
            cases b1
            ·go_simp
             exact ⟨Below.refl _ _, by simp [IsV]⟩
            ·go_simp
             exact ⟨Below.refl _ _, by simp [IsV]⟩
           dsimp only [naL, caL]
           apply relS_det (mask := [false, false, false, false, false, false, false, false, false, false, true]) (x := .bool (b1 || b2))
           ·rfl
           ·kernel_rfl
           ·kernel_rfl
           ·dsimp only [oblS]
            rintro w9 h9
            go_simp
            exact ⟨Below.refl _ _, rfl⟩
           dsimp only [naL, caL]
           apply relS_if (mask := [false, false, false, false, false, false, false, false, false, false, false, true]) (t := 138) (want := false) (g := !(b1 || b2))
           ·rfl
           ·kernel_rfl
           ·kernel_rfl
           ·dsimp only [oblS]
            refine ⟨⟨.bool (b1 || b2), by rfl, (guard_free (by simp)).1, (guard_free (by simp)).2⟩, ?_⟩
            intro hg
            rintro w9 h9
            go_simp
            exact ⟨Below.refl _ _, rfl⟩
           dsimp only [naL, caL]
           apply relS_if (mask := [false, false, false, false, false, false, false, false, false, false, false, true, true]) (t := 138) (want := false) (g := !(b1 || b2))
           ·rfl
           ·kernel_rfl
           ·kernel_rfl
           ·dsimp only [oblS]
            refine ⟨⟨.bool (b1 || b2), by rfl, (guard_free (by simp)).1, (guard_free (by simp)).2⟩, ?_⟩
            intro hg
            rintro w9 h9
            go_simp
            exact ⟨Below.refl _ _, rfl⟩
           dsimp only [naL, caL]
           apply relS_if (mask := [false, false, false, false, false, false, false, false, false, false, false, true, false, true]) (t := 138) (want := false) (g := !(b1 || b2)) (x := .int .i64 n)
           ·rfl
           ·kernel_rfl
           ·kernel_rfl
           ·dsimp only [oblS]
            refine ⟨⟨.bool (b1 || b2), by rfl, (guard_free (by simp)).1, (guard_free (by simp)).2⟩, ?_⟩
            intro hg
            rintro w9 h9
            have hc9 := (bcell h9).1
            go_simp
            exact ⟨Below.refl _ _, rfl⟩
           dsimp only [naL, caL]
           apply relS_if (mask := [false, false, false, false, false, false, false, false, false, false, false, true, false, false, false]) (t := 138) (want := false) (g := !(b1 || b2))
           ·rfl
           ·kernel_rfl
           ·kernel_rfl
           ·dsimp only [oblS]
            refine ⟨⟨.bool (b1 || b2), by rfl, (guard_free (by simp)).1, (guard_free (by simp)).2⟩, ?_⟩
            intro hg
            rintro w9 h9
            go_simp
            exact ⟨Below.refl _ _, rfl⟩
           dsimp only [naL, caL]
           apply relS_if (mask := [false, false, false, false, false, false, false, false, false, false, false, true, false, false, false, true]) (t := 138) (want := false) (g := !(b1 || b2)) (x := .slice q.nA q.nn q.nc)
           ·rfl
           ·kernel_rfl
           ·kernel_rfl
           ·dsimp only [oblS]
            refine ⟨⟨.bool (b1 || b2), by rfl, (guard_free (by simp)).1, (guard_free (by simp)).2⟩, ?_⟩
            intro hg
            rintro w9 h9
            have hc9 := (bcell h9).1
            go_simp
            exact ⟨Below.refl _ _, rfl⟩
           dsimp only [naL, caL]
           apply relS_if (mask := [false, false, false, false, false, false, false, false, false, false, false, true, false, false, false, false, true]) (t := 138) (want := false) (g := !(b1 || b2))
           ·rfl
           ·kernel_rfl
           ·kernel_rfl
           ·dsimp only [oblS]
            refine ⟨⟨.bool (b1 || b2), by rfl, (guard_free (by simp)).1, (guard_free (by simp)).2⟩, ?_⟩
            intro hg
            rintro w9 h9
            go_simp
            exact ⟨Below.refl _ _, rfl⟩
           dsimp only [naL, caL]
           apply relS_if (mask := [false, false, false, false, false, false, false, false, false, false, false, true, false, false, true, false, false, true]) (t := 138) (want := false) (g := !(b1 || b2)) (x := .bool b3)
           ·rfl
           ·kernel_rfl
           ·kernel_rfl
           ·dsimp only [oblS]
            refine ⟨⟨.bool (b1 || b2), by rfl, (guard_free (by simp)).1, (guard_free (by simp)).2⟩, ?_⟩
            intro hg
            rintro w9 h9
            go_simp
            exact ⟨Below.refl _ _, by show _ = _; rw [← HB3.out]⟩
           dsimp only [naL, caL]
           apply relS_det (mask := [false, false, false, false, false, false, false, false, false, false, false, true, false, false, false, false, false, false, true]) (x := .bool (b1 || b2 || b3))
           ·rfl
           ·kernel_rfl
           ·kernel_rfl
           ·dsimp only [oblS]
            rintro w9 h9
            obtain ⟨cc, hcc⟩ : ∃ cc, (b1 || b2) = cc := ⟨_, rfl⟩
            rw [hcc]
            clear hcc
            cases cc
            ·go_simp
             exact ⟨Below.refl _ _, by simp [IsV]⟩
            ·go_simp
             exact ⟨Below.refl _ _, by simp [IsV]⟩
           dsimp only [naL, caL]
           refine relS_endK [false, false, false, false, false, false, false, false, false, false, false, false, false, false, false, false, false, false, false, true] (by rfl) (by rfl) ?_
           dsimp only [finK]
           intro q0 q1 q2 q3 q4 q5 q6 q7 q8 q9 q10 q11 q12 q13 q14 q15 q16 q17 q18
           -- rintro  w8 hb
           rintro w8 hb8
           have hs8 := H1.out.later hb8
           have h48 := (hb8.block _ ld).trans H4.out
           have hD8 := (hb8.block _ (lt_of_heap HD.out)).trans HD.out
           have hk8 : Kept (fun b => b = w.heap.size + 1 ∨ b = Wx.heap.size) W2 w8 := kept_of_below hb8 (fun b h1 h2 => by omega)
           have c8 := ((bcell hb8).1 _ _ lb).trans c0
           have lb8 := lt_of_cell c8
           have HS8 := hidp hs8
           have H48 := hidp h48
           have HD8 := hidp hD8
           have HK8 := hidp hk8
           clear x0 x1 x2 x3 y0 y1 l0 l1 d0 d1 ld c0 lb hk8 hD8 hb8
           obtain ⟨x0, x1, x2, x3, y0, y1, l0, l1⟩ := hs8.cells
           have d0 : w8.cell? ⟨Wx.heap.size, 0, none⟩ = some (.int .i64 z) := by rw [cell_of_heap h48]; rfl
           have d1 := frozen_of_heap (o := 0) h48
           have ld := lt_of_heap h48
           clear hs8 h48
           go_simp
           obtain ⟨E, hE⟩ : ∃ E, (b1 || b2 || b3) = E := ⟨_, rfl⟩
           rw [hE]
           have HE3 := hidp hE
           clear hE
           cases E
           ·have hno : ¬ (n < 0 ∨ (z : Int) < n ∨ (q.names.length : Int) ≤ n) := by
             have h := HE3.out
             simp only [Bool.or_eq_false_iff] at h
             have g1 := HB1.out; have g2 := HB2.out; have g3 := HB3.out; have g4 := HLn.out
             rw [h.1.1] at g1; rw [h.1.2] at g2; rw [h.2] at g3
             simp at g1 g2 g3
             omega
            have HNo := hidp hno
            clear hno
            obtain ⟨e4, he4⟩ : ∃ e4, (n == (z : Int)) = e4 := ⟨_, rfl⟩
            have HE4 := hidp he4
            clear he4
            gi_wp2
            refine wpIn_region_SR w8.heap.size 5 (fun _ => false) (Nat.le_refl _) (by kernel_rfl) (by kernel_rfl) (by kernel_rfl) ?_
            dsimp only [List.take, List.drop]
            apply relS_det (mask := [])
            ·rfl
            ·kernel_rfl
            ·kernel_rfl
            ·dsimp only [oblS]
             rintro w9 h9
             go_simp
             exact ⟨Below.refl _ _, rfl⟩
            dsimp only [naL, caL]
            apply relS_det (mask := [true])
            ·rfl
            ·kernel_rfl
            ·kernel_rfl
            ·dsimp only [oblS]
             rintro w9 h9
             go_simp
             exact ⟨Below.refl _ _, rfl⟩
            dsimp only [naL, caL]
            apply relS_det (mask := [false, true]) (x := .int .i64 n)
            ·rfl
            ·kernel_rfl
            ·kernel_rfl
            ·dsimp only [oblS]
             rintro w9 h9
             have hc9 := (bcell h9).1
             go_simp
             exact ⟨Below.refl _ _, rfl⟩
            dsimp only [naL, caL]
            apply relS_det (mask := [false, false, false]) (x := .int .i64 z)
            ·rfl
            ·kernel_rfl
            ·kernel_rfl
            ·dsimp only [oblS]
             rintro w9 h9
             have hc9 := (bcell h9).1
             go_simp
             exact ⟨Below.refl _ _, rfl⟩
            dsimp only [naL, caL]
            apply relS_det (mask := [false, false, true, true]) (x := .bool e4)
            ·rfl
            ·kernel_rfl
            ·kernel_rfl
            ·dsimp only [oblS]
             rintro w9 h9
             go_simp
             exact ⟨Below.refl _ _, by show _ = _; rw [← HE4.out]⟩
            dsimp only [naL, caL]
            refine relS_endK [false, false, false, false, true] (by rfl) (by rfl) ?_
            dsimp only [finK]
            intro q0 q1 q2 q3
            -- rintro  w8 hb
            rintro wA hbA
            have hsA := HS8.out.later hbA
            have h4A := (hbA.block _ ld).trans H48.out
            have hDA := (hbA.block _ (lt_of_heap HD8.out)).trans HD8.out
            have hkA : Kept (fun b => b = w.heap.size + 1 ∨ b = Wx.heap.size) W2 wA := HK8.out.trans (kept_of_below hbA (fun b h1 h2 => by omega))
            have HSA := hidp hsA
            have H4A := hidp h4A
            have HDA := hidp hDA
            have HKA := hidp hkA
            clear x0 x1 x2 x3 y0 y1 l0 l1 d0 d1 ld hkA hDA hbA c8 lb8
            obtain ⟨x0, x1, x2, x3, y0, y1, l0, l1⟩ := hsA.cells
            have d0 : wA.cell? ⟨Wx.heap.size, 0, none⟩ = some (.int .i64 z) := by rw [cell_of_heap h4A]; rfl
            have d1 := frozen_of_heap (o := 0) h4A
            have ld := lt_of_heap h4A
            clear hsA h4A
            go_simp
            have hfold : (((pre ++ [((⟨b, off, none⟩ : Addr), n)]).map (·.2)).foldl (nextStep q.names.length) (some 0)) = if n = (z : Int) then some ((z : Int) + 1) else some (z : Int) := by
             rw [List.map_append, List.foldl_append, HZ.out]
             simp only [List.map_cons, List.map_nil, List.foldl_cons, List.foldl_nil, nextStep]
             rw [if_neg HNo.out]
            have HFold := hidp hfold
            clear hfold
            cases e4
            ·have hne : ¬ n = (z : Int) := by have := HE4.out; simpa using this
             have HNe := hidp hne
             clear hne
             gi_wp2
             exact ⟨HKA.out, HSA.out, HDA.out, z, by rw [HFold.out, if_neg HNe.out], by have := HZL.out; simp; omega, H4A.out⟩
            ·have heq : n = (z : Int) := by have := HE4.out; simpa using this
             have HEq := hidp heq
             clear heq
             gi_wp2
             refine ⟨HKA.out.setCell (p := ⟨Wx.heap.size, 0, none⟩) (.inl (.inr rfl)) _, ?_, heap_set_ne HDA.out (by omega) 0 _, z + 1, by rw [HFold.out, if_pos HEq.out]; simp, by have := HZL.out; simp; omega, ?_⟩
             ·exact HSA.out.keep (heap_set_ne rfl (by omega) 0 _) (heap_set_ne rfl (by omega) 0 _) ((Below.refl _ _).setCell (by show w.heap.size ≤ Wx.heap.size; omega) _)
             ·exact heap_set1 H4A.out _
           ·have HF : Hid (checkJ wdJ q = false) := HErr.out (by
             simp only [nextStep]
             rw [if_pos]
             have h := HE3.out
             simp only [Bool.or_eq_true] at h
             have g1 := HB1.out; have g2 := HB2.out; have g3 := HB3.out; have g4 := HLn.out
             rcases h with (h | h) | h
             ·rw [h] at g1; exact .inl (by simpa using g1)
             ·rw [h] at g2; exact .inr (.inl (by simpa using g2))
             ·rw [h] at g3; simp at g3; exact .inr (.inr (by omega)))
            gi_wp2
            exact ⟨HK8.out.setCell (p := ⟨w.heap.size + 1, 0, none⟩) (.inl (.inl rfl)) _, rfl, HS8.out.err 500, heap_set_ne HD8.out (by omega) 0 _, HF.out⟩
          case done =>
           rintro D2 Wy hD2 hlt2 ⟨h1, hd, z, hz, hzl, h4⟩ hmk
           have hwz2 := lt_of_heap HSX.out.box
           have hne : D2 ≠ D := by omega
           have HNe := hidp hne
           have H1 := hidp h1
           have HD := hidp hd
           have HMK2 := hidp hmk
           have hzq : nextJ q.names.length (varsJ q) = some (z : Int) := by rw [← varP_map]; exact hz
           have HZ := hidp hzq
           have HDD : Hid (D ≠ w.heap.size + 1 ∧ D2 ≠ w.heap.size + 1) := ⟨by omega, by omega⟩
           have HD22 : Hid (w.heap.size + 2 ≤ D ∧ w.heap.size + 2 ≤ D2) := ⟨by omega, by omega⟩
           clear x0 x1 x2 x3 y0 y1 l0 l1
           obtain ⟨x0, x1, x2, x3, y0, y1, l0, l1⟩ := h1.cells
           have d0 : Wy.cell? ⟨Wx.heap.size, 0, none⟩ = some (.int .i64 z) := by rw [cell_of_heap h4]; rfl
           have ld := lt_of_heap h4
           have HMs : Hid (∀ z', ChkSt q w z' (Wy.setCell ⟨w.heap.size + 1, 0, none⟩ (.int .i64 z')) ∧ Marks (w.heap.size + 2) [D2, D] (Wy.setCell ⟨w.heap.size + 1, 0, none⟩ (.int .i64 z'))) := fun z' =>
            ⟨H1.out.err z', Marks.cons (Marks.cons (Marks.nil _ _) HD22.out.1 (heap_set_ne HD.out HDD.out.1 0 _) (by simp)) HD22.out.2 (heap_set_ne HMK2.out HDD.out.2 0 _) (by simpa using HNe.out)⟩
           clear h1 hd hz hzl h4 hmk hseq hne hzq hwz2
           have HLn := hidp HLen.out.1
           by_cases hzn : z = q.nn
           ·have HF : Hid (checkJ wdJ q = true) := (cj_iff q).2 ⟨HSz.out, HOK1.out, HOK2.out, HOK3.out, HOK4.out, HOK5.out, by rw [HZ.out, hzn, HLn.out]⟩
            have hb9 : ((z : Int) != (q.nn : Int)) = false := by rw [hzn]; simp
            clear hzn
            go_wp2
            exact chk_leave (Ds := [D2, D]) rfl (HMs.out 0).1 (HMs.out 0).2 (by rw [HF.out]; rfl) (.inl rfl)
           ·have HF : Hid (checkJ wdJ q = false) := cj_next (by rw [HZ.out]; intro h; have := Option.some.inj h; have := HLn.out; omega)
            have hb9 : ((z : Int) != (q.nn : Int)) = true := by simp; omega
            clear hzn
            go_wp2
            exact chk_leave (Ds := [D2, D]) rfl (HMs.out 500).1 (HMs.out 500).2 (by rw [HF.out]; rfl) (.inl rfl)
          case stop =>
           rintro D2 c Wy hD2 hlt2 ⟨rfl, h1, hd, h2⟩ hmk
           have H1 := hidp h1
           have HMK2 := hidp hmk
           have HD := hidp hd
           have HF := hidp h2
           have hwz2 := lt_of_heap HSX.out.box
           have hne : D2 ≠ D := by omega
           have HNe := hidp hne
           clear h1 h2 hd hmk hseq hne x0 x1 x2 x3 y0 y1 l0 l1
           go_wp2
           exact chk_leave (Ds := [D2, D]) rfl H1.out (Marks.cons (Marks.cons (Marks.nil _ _) (by omega) HD.out (by simp)) (by omega) HMK2.out (by simpa using HNe.out)) (by rw [HF.out]; rfl) (.inl rfl)
end Go.Proofs.YtbegdcjofnfkiaaGreatDoor
