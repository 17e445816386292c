/- Few, few, read, the change of the examples. -/
import Derived.Test.YtologegkbcedhaaH9
namespace Go.Proofs.Ytologegkbcedhaa
open Go.RowKit Go.Shelf

def fewD (l : List De) : Bool := decide (l.length ≤ 12) && decide ((allTo (l.map (·.2)) l.length).length ≤ 60)
set_option maxRecDepth 100000 in
set_option maxHeartbeats 2000000 in
theorem qFew_any (A : Option Addr) (n c : Nat) (l : List De) (w : World) (hl : deSl w w.heap.size A n c l) (hB : ∀ x ∈ l, x.1.rn ≤ 70368744177664) :
    Calls Try.prog 11 #[.slice A n c] w fun e w' => e = .returned (.bool (fewD l)) ∧ Below w.heap.size w w' := by
  have HN := hidp hl.1
  have hcap := hl.2.2.1
  have hlen := hl.2.1
  have HB := hidp hB
  clear hB
  go_enter Try.func11, Try.ntmps11
  go_wp2_with fail
  go_loopw [3, 4] (fun s i wr => ∃ (k : Nat) (z : Int), k ≤ n ∧ i = .int .i64 k ∧ s = .int .i64 z ∧ (k ≤ 12 → z = ((allTo (l.map (·.2)) k).length : Int) ∧ z ≤ (k : Int) * 70368744177664) ∧ Below w.heap.size w wr) (fun _ i _ => n - (intOf i).toNat)
  case atStart => exact ⟨0, 0, by omega, rfl, rfl, fun _ => ⟨rfl, by omega⟩, Below.refl _ _⟩
  case round =>
    obtain ⟨k, z, hk, rfl, rfl, hz, hbe⟩ := hrel
    have HZ := hidp hz
    clear hz
    by_cases hlt : k < n
    · obtain ⟨b, off, x, rfl, hb, hzx, hrd, c0, c1, c2, c3, c4, c5, c6, c7, c8, c9⟩ := deSl.get (hl.below deStable hbe) hlt
      have lb := lt_of_cell c8
      have HX := hidp hzx
      have HR := hidp hrd.1
      have hx := HB.out x (List.mem_of_getElem? hzx)
      have hkn : (k : Int) < n := by omega
      obtain ⟨z', hz'⟩ : ∃ z', IntKind.i64.wrap (z + x.1.rn) = z' := ⟨_, rfl⟩
      have HZ' := hidp hz'
      clear hzx hrd c0 c1 c2 c3 c4 c5 c6 c7 c9
      go_wp2_with fail
      go_roundw
      case rel =>
        refine ⟨k + 1, z', by omega, by go_num, rfl, fun h12 => ?_, hbe⟩
        obtain ⟨h1, h2⟩ := HZ.out (by omega)
        have hw : IntKind.i64.wrap (z + x.1.rn) = z + x.1.rn := IntWalk.i64_in _ (by omega)
        have hzz : z' = z + x.1.rn := by rw [← HZ'.out, hw]
        have hle : (allTo (l.map (·.2)) (k + 1)).length = (allTo (l.map (·.2)) k).length + x.1.rn := by
          rw [allTo_step (de_reads HX.out), List.length_append, HR.out]; simp [linksOf]
        rw [hzz, hle]
        refine ⟨by omega, by push_cast; omega⟩
      case measure => simp [intOf]; omega
    · obtain rfl : k = n := by omega
      by_cases h12 : k ≤ 12
      · have hd1 : decide ((k : Int) ≤ 12) = true := by simpa using (by omega : (k : Int) ≤ 12)
        obtain ⟨h1, _⟩ := HZ.out h12
        have H1 := hidp h1
        have H12 := hidp h12
        obtain ⟨q, hq⟩ : ∃ q, decide (z ≤ 60) = q := ⟨_, rfl⟩
        have HQ := hidp hq
        clear h1 h12
        go_wp2_with fail
        go_ret
        refine ⟨ret_bool ?_, hbe⟩
        have h2 := H12.out
        have h3 := HN.out
        have h4 := H1.out
        rw [← HQ.out, fewD, ← h3, decide_eq_true h2, Bool.true_and, decide_eq_decide]
        omega
      · have hd1 : decide ((k : Int) ≤ 12) = false := by simpa using (by omega : ¬ (k : Int) ≤ 12)
        have H12 := hidp h12
        clear h12
        go_wp2_with fail
        go_ret
        refine ⟨ret_bool ?_, hbe⟩
        have h2 := H12.out
        have h3 := HN.out
        rw [fewD, ← h3, decide_eq_false h2, Bool.false_and]

def fewX (n m : Nat) (raw : List Cr) : Bool := (raw.all fun r => decide (r.2.2.1 ≤ 12)) && (decide (n ≤ 60) && decide (m ≤ 12))
theorem all_step {α : Type} {p : α → Bool} {l : List α} {k : Nat} {x : α} (h : l[k]? = some x) (h0 : (l.take k).all p = true) (hx : p x = true) : (l.take (k + 1)).all p = true := by
  rw [take_snoc h, List.all_append, h0]; simp [hx]
theorem all_bad {α : Type} {p : α → Bool} {l : List α} {k : Nat} {x : α} (h : l[k]? = some x) (hx : p x = false) : l.all p = false := by
  rw [List.all_eq_false]; exact ⟨x, List.mem_of_getElem? h, by simp [hx]⟩
def shortC (raw : List Cr) : Bool := raw.all fun r => decide (r.2.2.1 ≤ 12)
theorem short_step {raw : List Cr} {k : Nat} {r : Cr} (h : raw[k]? = some r) (h0 : shortC (raw.take k) = true) (hr : r.2.2.1 ≤ 12) : shortC (raw.take (k + 1)) = true := all_step (p := fun r : Cr => decide (r.2.2.1 ≤ 12)) h h0 (by simpa using hr)
theorem short_bad {raw : List Cr} {k : Nat} {r : Cr} (h : raw[k]? = some r) (hr : ¬ r.2.2.1 ≤ 12) : shortC raw = false := all_bad (p := fun r : Cr => decide (r.2.2.1 ≤ 12)) h (by simpa using hr)
set_option maxRecDepth 100000 in
set_option maxHeartbeats 2000000 in
theorem few35_any (A : Option Addr) (n c : Nat) (A' : Option Addr) (n' c' : Nat) (raw : List Cr) (w : World) (hc : cSl w w.heap.size A' n' c' raw) :
    Calls Try.prog 15 #[.agg #[.slice A n c], .slice A' n' c'] w fun e w' => e = .returned (.bool (fewX n n' raw)) ∧ Below w.heap.size w w' := by
  have HN := hidp hc.1
  have hcap := hc.2.2.1
  have hlen := hc.2.1
  obtain ⟨W0, hW0⟩ : ∃ W0, w.alloc (.cells #[.slice A n c] 28) = W0 := ⟨_, rfl⟩
  have hBW : Below w.heap.size w W0 := by rw [← hW0]; exact (Below.refl _ w).alloc (Nat.le_refl _) _
  have g0 : W0.heap[w.heap.size]? = some (.cells #[.slice A n c] 28 (0, 0)) := by rw [← hW0]; exact World.alloc_heap_new _ _
  have HW0 := hidp hW0
  have G0 := hidp g0
  have l0 := lt_of_heap g0
  have HBW := hidp hBW
  clear hW0 g0 hBW
  go_enter Try.func15, Try.ntmps15
  go_wp2_with fail
  rw [HW0.out]
  go_loopw [5] (fun i wr => ∃ k : Nat, k ≤ n' ∧ i = .int .i64 k ∧ shortC (raw.take k) = true ∧ Below W0.heap.size W0 wr) (fun i _ => n' - (intOf i).toNat)
  case atStart => exact ⟨0, by omega, rfl, rfl, Below.refl _ _⟩
  case round =>
    obtain ⟨k, hk, rfl, hok, hbe⟩ := hrel
    have HO := hidp hok
    have hbw := HBW.out.trans (hbe.mono (Nat.le_of_lt l0))
    clear hok
    by_cases hlt : k < n'
    · obtain ⟨b, off, r, rfl, hb, hzr, c0, c1, c2, c3⟩ := cSl.get (hc.keep cStable (Nat.le_refl _) hbw.block) hlt
      have lb := lt_of_cell c3
      have HX := hidp hzr
      have hkn : (k : Int) < n' := by omega
      clear hzr c0 c1 c2
      by_cases h12 : r.2.2.1 ≤ 12
      · have hd : decide ((12 : Int) < (r.2.2.1 : Int)) = false := by simpa using (by omega : (r.2.2.1 : Int) ≤ 12)
        have H12 := hidp h12
        clear h12
        go_wp2_with fail
        go_roundw
        case rel => exact ⟨k + 1, by omega, by go_num, short_step HX.out HO.out H12.out, hbe⟩
        case measure => simp [intOf]; omega
      · have hd : decide ((12 : Int) < (r.2.2.1 : Int)) = true := by simpa using (by omega : (12 : Int) < (r.2.2.1 : Int))
        have H12 := hidp h12
        clear h12
        go_wp2_with fail
        go_ret
        exact ⟨ret_bool (by rw [fewX, show (raw.all fun r => decide (r.2.2.1 ≤ 12)) = shortC raw from rfl, short_bad HX.out H12.out, Bool.false_and]), hbw⟩
    · obtain rfl : k = n' := by omega
      have hs : shortC raw = true := by
        have := HO.out
        rwa [List.take_of_length_le (by rw [HN.out]; exact Nat.le_refl _)] at this
      have HS := hidp hs
      have e0 := (hbe.block _ l0).trans G0.out
      have d0 := cell_of_heap (o := 0) e0
      simp only [List.getElem?_toArray, List.getElem?_cons_zero] at d0
      have l1 := lt_of_heap e0
      clear hs e0
      obtain ⟨z, hz⟩ : ∃ z, decide ((n : Int) ≤ 60) = z := ⟨_, rfl⟩
      obtain ⟨z2, hz2⟩ : ∃ z, decide ((k : Int) ≤ 12) = z := ⟨_, rfl⟩
      have HZ := hidp hz
      have HZ2 := hidp hz2
      cases z
      all_goals
        go_wp2_with fail
        go_ret
        refine ⟨ret_bool ?_, HBW.out.trans (hbe.mono (Nat.le_of_lt l0))⟩
        have h1 : decide (n ≤ 60) = decide ((n : Int) ≤ 60) := by rw [decide_eq_decide]; omega
        have h2 : decide (k ≤ 12) = decide ((k : Int) ≤ 12) := by rw [decide_eq_decide]; omega
        rw [fewX, show (raw.all fun r => decide (r.2.2.1 ≤ 12)) = shortC raw from rfl, HS.out, Bool.true_and, h1, h2, HZ.out]
        simp [HZ2.out]

set_option maxRecDepth 100000 in
set_option maxHeartbeats 1000000 in
theorem read35_any (o f t : Int) (w : World) : Calls Try.prog 26 #[.int .i64 o, .int .i64 f, .int .i64 t] w fun e w' => e = .returned (.agg #[.int .i64 5, .int .i64 4, .int .i64 o, .int .i64 f, .int .i64 t]) ∧ Below w.heap.size w w' := by
  go_enter Try.func26, Try.ntmps26
  go_wp2_with fail
  refine bodyPost_ret (v := .agg #[.int .i64 5, .int .i64 4, .int .i64 o, .int .i64 f, .int .i64 t]) ?_ rfl ⟨rfl, ?_⟩
  · simp [results, Try.f26, go_sem]
  · exact (Below.refl _ w).alloc (Nat.le_refl _) _
end Go.Proofs.Ytologegkbcedhaa
