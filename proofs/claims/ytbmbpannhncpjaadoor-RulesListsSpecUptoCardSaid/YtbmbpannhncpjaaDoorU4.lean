/- The table of kinds; formed (printed by tools/gen71.py). -/
import Derived.Test.YtbmbpannhncpjaaDoorU3
namespace Go.Proofs.YtbmbpannhncpjaaDoor
open Go.RowKit Go.Sort

/-- What the table holds. -/
def kindsV : Array Value := #[.bool false, .bool false, .bool false, .bool false, .nilFunc, .nilFunc, .bool false, .bool false, .bool false, .bool true, .func (.func 119) #[] #[], .func (.func 120) #[] #[], .bool false, .bool false, .bool false, .bool true, .func (.func 121) #[] #[], .func (.func 122) #[] #[], .bool false, .bool true, .bool false, .bool true, .func (.func 123) #[] #[], .func (.func 124) #[] #[], .bool false, .bool false, .bool false, .bool true, .func (.func 125) #[] #[], .func (.func 126) #[] #[], .bool true, .bool true, .bool false, .bool false, .func (.func 127) #[] #[], .func (.func 129) #[] #[], .bool true, .bool true, .bool false, .bool false, .func (.func 131) #[] #[], .func (.func 132) #[] #[], .bool false, .bool true, .bool false, .bool false, .func (.func 133) #[] #[], .func (.func 134) #[] #[], .bool false, .bool true, .bool true, .bool false, .func (.func 135) #[] #[], .func (.func 136) #[] #[], .bool true, .bool false, .bool false, .bool false, .func (.func 128) #[] #[], .func (.func 138) #[] #[]]
/-- The table in memory. -/
def KindsAt (W : World) : Prop := ∃ t fr, W.heap[0]? = some (.cells kindsV t fr)
theorem KindsAt.lt {W : World} (h : KindsAt W) : 0 < W.heap.size := by
  obtain ⟨t, fr, h⟩ := h; exact lt_of_heap h
theorem KindsAt.below {W W' : World} {n : Nat} (h : KindsAt W) (hb : Below n W W') (hn : 0 < n) : KindsAt W' := by
  obtain ⟨t, fr, h⟩ := h; exact ⟨t, fr, (hb.block 0 hn).trans h⟩
theorem KindsAt.keep {W W' : World} (h : KindsAt W) (hb : W'.heap[0]? = W.heap[0]?) : KindsAt W' := by
  obtain ⟨t, fr, h⟩ := h; exact ⟨t, fr, hb.trans h⟩
theorem KindsAt.cell {W : World} (h : KindsAt W) (i : Nat) : W.cell? ⟨0, i, none⟩ = kindsV[i]? := by
  obtain ⟨t, fr, h⟩ := h; exact cell_of_heap h

def formedV (op c n d : Int) (kn : Nat) : Bool := withinB op 1 9 && (useC op || decide (c = 0)) && (useN op || decide (n = 0)) && (useD op || decide (d = 0)) && (useK op || decide (kn = 0)) && rightB op c n d kn
theorem formedB_eq (x : Ru) : formedB x = formedV x.op x.course x.n x.d x.kids.length := rfl

set_option maxRecDepth 100000 in
set_option maxHeartbeats 2000000 in
theorem formed1_any (c n d : Int) (nm : ByteArray) (A : Option Addr) (kn kc : Nat) (w : World) (hk : KindsAt w) : Calls Tryd.prog 45 #[.agg #[.int .i64 1, .int .i64 c, .string nm, .int .i64 n, .int .i64 d, .slice A kn kc]] w fun e w' => e = .returned (.bool (formedV 1 c n d kn)) ∧ Below w.heap.size w w' := by
  obtain ⟨W0, hW0⟩ : ∃ W0, w.alloc (.cells #[.int .i64 1, .int .i64 c, .string nm, .int .i64 n, .int .i64 d, .slice A kn kc] 24) = W0 := ⟨_, rfl⟩
  have hBW : Below w.heap.size w W0 := hW0 ▸ (Below.refl _ w).alloc (Nat.le_refl _) _
  have g1 : W0.heap[w.heap.size]? = some (.cells #[.int .i64 1, .int .i64 c, .string nm, .int .i64 n, .int .i64 d, .slice A kn kc] 24 (0, 0)) := hW0 ▸ World.alloc_heap_new _ _
  have hk0 := hk.below hBW hk.lt
  have lz := lt_of_heap g1
  have lk := hk.lt
  have HW0 := hidp hW0
  have x0 := cell_of_heap (o := 0) g1
  have x1 := cell_of_heap (o := 1) g1
  have x2 := cell_of_heap (o := 2) g1
  have x3 := cell_of_heap (o := 3) g1
  have x4 := cell_of_heap (o := 4) g1
  have x5 := cell_of_heap (o := 5) g1
  simp only [List.getElem?_toArray, List.getElem?_cons_zero, List.getElem?_cons_succ] at x0 x1 x2 x3 x4 x5
  have q0 : W0.cell? ⟨0, 6, none⟩ = some (.bool false) := hk0.cell 6
  have q1 : W0.cell? ⟨0, 7, none⟩ = some (.bool false) := hk0.cell 7
  have q2 : W0.cell? ⟨0, 8, none⟩ = some (.bool false) := hk0.cell 8
  have q3 : W0.cell? ⟨0, 9, none⟩ = some (.bool true) := hk0.cell 9
  have q4 : W0.cell? ⟨0, 10, none⟩ = some (.func (.func 119) #[] #[]) := hk0.cell 10
  have q5 : W0.cell? ⟨0, 11, none⟩ = some (.func (.func 120) #[] #[]) := hk0.cell 11
  clear hW0 g1 hk0 hk
  by_cases hc : c = 0
  · have dc : (c != 0) = false := by simp [hc]
    by_cases hn : n = 0
    · have dn : (n != 0) = false := by simp [hn]
      by_cases hd : d = 0
      · have dd : (d != 0) = false := by simp [hd]
        have HR : Hid (formedV 1 c n d kn = (true)) := by show _ = _; simp [formedV, withinB, useC, useN, useD, useK, rightB, hc, hn, hd]
        clear hc hn hd
        go_enter Tryd.func45, Tryd.ntmps45
        go_wp2_with fail
        rw [HW0.out]
        refine (uwithin_any _ _ _ _).mono ?_
        rintro e w1 ⟨rfl, rfl⟩
        rw [show withinB 1 1 9 = true from rfl]
        go_wp2_with fail
        refine (k1_any _ _ _ _ _ _ _ _ _).mono ?_
        rintro e w2 ⟨rfl, hb2⟩
        go_wp2_with fail
        go_ret
        exact ⟨ret_bool HR.out.symm, hBW.trans (((Below.refl _ _).alloc (Nat.le_refl _) _).trans (hb2.mono (by simp)) |>.mono hBW.size)⟩
      · have dd : (d != 0) = true := by simp [hd]
        have HR : Hid (formedV 1 c n d kn = false) := by show _ = _; simp [formedV, withinB, useC, useN, useD, useK, hd]
        clear hc hn hd
        go_enter Tryd.func45, Tryd.ntmps45
        go_wp2_with fail
        rw [HW0.out]
        refine (uwithin_any _ _ _ _).mono ?_
        rintro e w1 ⟨rfl, rfl⟩
        rw [show withinB 1 1 9 = true from rfl]
        go_wp2_with fail
        go_ret
        exact ⟨ret_bool HR.out.symm, hBW.trans (((Below.refl _ _).alloc (Nat.le_refl _) _).mono hBW.size)⟩
    · have dn : (n != 0) = true := by simp [hn]
      have HR : Hid (formedV 1 c n d kn = false) := by show _ = _; simp [formedV, withinB, useC, useN, useD, useK, hn]
      clear hc hn
      go_enter Tryd.func45, Tryd.ntmps45
      go_wp2_with fail
      rw [HW0.out]
      refine (uwithin_any _ _ _ _).mono ?_
      rintro e w1 ⟨rfl, rfl⟩
      rw [show withinB 1 1 9 = true from rfl]
      go_wp2_with fail
      go_ret
      exact ⟨ret_bool HR.out.symm, hBW.trans (((Below.refl _ _).alloc (Nat.le_refl _) _).mono hBW.size)⟩
  · have dc : (c != 0) = true := by simp [hc]
    have HR : Hid (formedV 1 c n d kn = false) := by show _ = _; simp [formedV, withinB, useC, useN, useD, useK, hc]
    clear hc
    go_enter Tryd.func45, Tryd.ntmps45
    go_wp2_with fail
    rw [HW0.out]
    refine (uwithin_any _ _ _ _).mono ?_
    rintro e w1 ⟨rfl, rfl⟩
    rw [show withinB 1 1 9 = true from rfl]
    go_wp2_with fail
    go_ret
    exact ⟨ret_bool HR.out.symm, hBW.trans (((Below.refl _ _).alloc (Nat.le_refl _) _).mono hBW.size)⟩

set_option maxRecDepth 100000 in
set_option maxHeartbeats 2000000 in
theorem formed2_any (c n d : Int) (nm : ByteArray) (A : Option Addr) (kn kc : Nat) (w : World) (hk : KindsAt w) : Calls Tryd.prog 45 #[.agg #[.int .i64 2, .int .i64 c, .string nm, .int .i64 n, .int .i64 d, .slice A kn kc]] w fun e w' => e = .returned (.bool (formedV 2 c n d kn)) ∧ Below w.heap.size w w' := by
  obtain ⟨W0, hW0⟩ : ∃ W0, w.alloc (.cells #[.int .i64 2, .int .i64 c, .string nm, .int .i64 n, .int .i64 d, .slice A kn kc] 24) = W0 := ⟨_, rfl⟩
  have hBW : Below w.heap.size w W0 := hW0 ▸ (Below.refl _ w).alloc (Nat.le_refl _) _
  have g1 : W0.heap[w.heap.size]? = some (.cells #[.int .i64 2, .int .i64 c, .string nm, .int .i64 n, .int .i64 d, .slice A kn kc] 24 (0, 0)) := hW0 ▸ World.alloc_heap_new _ _
  have hk0 := hk.below hBW hk.lt
  have lz := lt_of_heap g1
  have lk := hk.lt
  have HW0 := hidp hW0
  have x0 := cell_of_heap (o := 0) g1
  have x1 := cell_of_heap (o := 1) g1
  have x2 := cell_of_heap (o := 2) g1
  have x3 := cell_of_heap (o := 3) g1
  have x4 := cell_of_heap (o := 4) g1
  have x5 := cell_of_heap (o := 5) g1
  simp only [List.getElem?_toArray, List.getElem?_cons_zero, List.getElem?_cons_succ] at x0 x1 x2 x3 x4 x5
  have q0 : W0.cell? ⟨0, 12, none⟩ = some (.bool false) := hk0.cell 12
  have q1 : W0.cell? ⟨0, 13, none⟩ = some (.bool false) := hk0.cell 13
  have q2 : W0.cell? ⟨0, 14, none⟩ = some (.bool false) := hk0.cell 14
  have q3 : W0.cell? ⟨0, 15, none⟩ = some (.bool true) := hk0.cell 15
  have q4 : W0.cell? ⟨0, 16, none⟩ = some (.func (.func 121) #[] #[]) := hk0.cell 16
  have q5 : W0.cell? ⟨0, 17, none⟩ = some (.func (.func 122) #[] #[]) := hk0.cell 17
  clear hW0 g1 hk0 hk
  by_cases hc : c = 0
  · have dc : (c != 0) = false := by simp [hc]
    by_cases hn : n = 0
    · have dn : (n != 0) = false := by simp [hn]
      by_cases hd : d = 0
      · have dd : (d != 0) = false := by simp [hd]
        have HR : Hid (formedV 2 c n d kn = (true)) := by show _ = _; simp [formedV, withinB, useC, useN, useD, useK, rightB, hc, hn, hd]
        clear hc hn hd
        go_enter Tryd.func45, Tryd.ntmps45
        go_wp2_with fail
        rw [HW0.out]
        refine (uwithin_any _ _ _ _).mono ?_
        rintro e w1 ⟨rfl, rfl⟩
        rw [show withinB 2 1 9 = true from rfl]
        go_wp2_with fail
        refine (k3_any _ _ _ _ _ _ _ _ _).mono ?_
        rintro e w2 ⟨rfl, hb2⟩
        go_wp2_with fail
        go_ret
        exact ⟨ret_bool HR.out.symm, hBW.trans (((Below.refl _ _).alloc (Nat.le_refl _) _).trans (hb2.mono (by simp)) |>.mono hBW.size)⟩
      · have dd : (d != 0) = true := by simp [hd]
        have HR : Hid (formedV 2 c n d kn = false) := by show _ = _; simp [formedV, withinB, useC, useN, useD, useK, hd]
        clear hc hn hd
        go_enter Tryd.func45, Tryd.ntmps45
        go_wp2_with fail
        rw [HW0.out]
        refine (uwithin_any _ _ _ _).mono ?_
        rintro e w1 ⟨rfl, rfl⟩
        rw [show withinB 2 1 9 = true from rfl]
        go_wp2_with fail
        go_ret
        exact ⟨ret_bool HR.out.symm, hBW.trans (((Below.refl _ _).alloc (Nat.le_refl _) _).mono hBW.size)⟩
    · have dn : (n != 0) = true := by simp [hn]
      have HR : Hid (formedV 2 c n d kn = false) := by show _ = _; simp [formedV, withinB, useC, useN, useD, useK, hn]
      clear hc hn
      go_enter Tryd.func45, Tryd.ntmps45
      go_wp2_with fail
      rw [HW0.out]
      refine (uwithin_any _ _ _ _).mono ?_
      rintro e w1 ⟨rfl, rfl⟩
      rw [show withinB 2 1 9 = true from rfl]
      go_wp2_with fail
      go_ret
      exact ⟨ret_bool HR.out.symm, hBW.trans (((Below.refl _ _).alloc (Nat.le_refl _) _).mono hBW.size)⟩
  · have dc : (c != 0) = true := by simp [hc]
    have HR : Hid (formedV 2 c n d kn = false) := by show _ = _; simp [formedV, withinB, useC, useN, useD, useK, hc]
    clear hc
    go_enter Tryd.func45, Tryd.ntmps45
    go_wp2_with fail
    rw [HW0.out]
    refine (uwithin_any _ _ _ _).mono ?_
    rintro e w1 ⟨rfl, rfl⟩
    rw [show withinB 2 1 9 = true from rfl]
    go_wp2_with fail
    go_ret
    exact ⟨ret_bool HR.out.symm, hBW.trans (((Below.refl _ _).alloc (Nat.le_refl _) _).mono hBW.size)⟩

set_option maxRecDepth 100000 in
set_option maxHeartbeats 2000000 in
theorem formed3_any (c n d : Int) (nm : ByteArray) (A : Option Addr) (kn kc : Nat) (w : World) (hk : KindsAt w) : Calls Tryd.prog 45 #[.agg #[.int .i64 3, .int .i64 c, .string nm, .int .i64 n, .int .i64 d, .slice A kn kc]] w fun e w' => e = .returned (.bool (formedV 3 c n d kn)) ∧ Below w.heap.size w w' := by
  obtain ⟨W0, hW0⟩ : ∃ W0, w.alloc (.cells #[.int .i64 3, .int .i64 c, .string nm, .int .i64 n, .int .i64 d, .slice A kn kc] 24) = W0 := ⟨_, rfl⟩
  have hBW : Below w.heap.size w W0 := hW0 ▸ (Below.refl _ w).alloc (Nat.le_refl _) _
  have g1 : W0.heap[w.heap.size]? = some (.cells #[.int .i64 3, .int .i64 c, .string nm, .int .i64 n, .int .i64 d, .slice A kn kc] 24 (0, 0)) := hW0 ▸ World.alloc_heap_new _ _
  have hk0 := hk.below hBW hk.lt
  have lz := lt_of_heap g1
  have lk := hk.lt
  have HW0 := hidp hW0
  have x0 := cell_of_heap (o := 0) g1
  have x1 := cell_of_heap (o := 1) g1
  have x2 := cell_of_heap (o := 2) g1
  have x3 := cell_of_heap (o := 3) g1
  have x4 := cell_of_heap (o := 4) g1
  have x5 := cell_of_heap (o := 5) g1
  simp only [List.getElem?_toArray, List.getElem?_cons_zero, List.getElem?_cons_succ] at x0 x1 x2 x3 x4 x5
  have q0 : W0.cell? ⟨0, 18, none⟩ = some (.bool false) := hk0.cell 18
  have q1 : W0.cell? ⟨0, 19, none⟩ = some (.bool true) := hk0.cell 19
  have q2 : W0.cell? ⟨0, 20, none⟩ = some (.bool false) := hk0.cell 20
  have q3 : W0.cell? ⟨0, 21, none⟩ = some (.bool true) := hk0.cell 21
  have q4 : W0.cell? ⟨0, 22, none⟩ = some (.func (.func 123) #[] #[]) := hk0.cell 22
  have q5 : W0.cell? ⟨0, 23, none⟩ = some (.func (.func 124) #[] #[]) := hk0.cell 23
  clear hW0 g1 hk0 hk
  by_cases hc : c = 0
  · have dc : (c != 0) = false := by simp [hc]
    by_cases hd : d = 0
    · have dd : (d != 0) = false := by simp [hd]
      have HR : Hid (formedV 3 c n d kn = (withinB n 0 200)) := by show _ = _; simp [formedV, withinB, useC, useN, useD, useK, rightB, hc, hd]
      clear hc hd
      go_enter Tryd.func45, Tryd.ntmps45
      go_wp2_with fail
      rw [HW0.out]
      refine (uwithin_any _ _ _ _).mono ?_
      rintro e w1 ⟨rfl, rfl⟩
      rw [show withinB 3 1 9 = true from rfl]
      go_wp2_with fail
      refine (k5_any _ _ _ _ _ _ _ _ _).mono ?_
      rintro e w2 ⟨rfl, hb2⟩
      go_wp2_with fail
      go_ret
      exact ⟨ret_bool HR.out.symm, hBW.trans (((Below.refl _ _).alloc (Nat.le_refl _) _).trans (hb2.mono (by simp)) |>.mono hBW.size)⟩
    · have dd : (d != 0) = true := by simp [hd]
      have HR : Hid (formedV 3 c n d kn = false) := by show _ = _; simp [formedV, withinB, useC, useN, useD, useK, hd]
      clear hc hd
      go_enter Tryd.func45, Tryd.ntmps45
      go_wp2_with fail
      rw [HW0.out]
      refine (uwithin_any _ _ _ _).mono ?_
      rintro e w1 ⟨rfl, rfl⟩
      rw [show withinB 3 1 9 = true from rfl]
      go_wp2_with fail
      go_ret
      exact ⟨ret_bool HR.out.symm, hBW.trans (((Below.refl _ _).alloc (Nat.le_refl _) _).mono hBW.size)⟩
  · have dc : (c != 0) = true := by simp [hc]
    have HR : Hid (formedV 3 c n d kn = false) := by show _ = _; simp [formedV, withinB, useC, useN, useD, useK, hc]
    clear hc
    go_enter Tryd.func45, Tryd.ntmps45
    go_wp2_with fail
    rw [HW0.out]
    refine (uwithin_any _ _ _ _).mono ?_
    rintro e w1 ⟨rfl, rfl⟩
    rw [show withinB 3 1 9 = true from rfl]
    go_wp2_with fail
    go_ret
    exact ⟨ret_bool HR.out.symm, hBW.trans (((Below.refl _ _).alloc (Nat.le_refl _) _).mono hBW.size)⟩

set_option maxRecDepth 100000 in
set_option maxHeartbeats 2000000 in
theorem formed4_any (c n d : Int) (nm : ByteArray) (A : Option Addr) (kn kc : Nat) (w : World) (hk : KindsAt w) : Calls Tryd.prog 45 #[.agg #[.int .i64 4, .int .i64 c, .string nm, .int .i64 n, .int .i64 d, .slice A kn kc]] w fun e w' => e = .returned (.bool (formedV 4 c n d kn)) ∧ Below w.heap.size w w' := by
  obtain ⟨W0, hW0⟩ : ∃ W0, w.alloc (.cells #[.int .i64 4, .int .i64 c, .string nm, .int .i64 n, .int .i64 d, .slice A kn kc] 24) = W0 := ⟨_, rfl⟩
  have hBW : Below w.heap.size w W0 := hW0 ▸ (Below.refl _ w).alloc (Nat.le_refl _) _
  have g1 : W0.heap[w.heap.size]? = some (.cells #[.int .i64 4, .int .i64 c, .string nm, .int .i64 n, .int .i64 d, .slice A kn kc] 24 (0, 0)) := hW0 ▸ World.alloc_heap_new _ _
  have hk0 := hk.below hBW hk.lt
  have lz := lt_of_heap g1
  have lk := hk.lt
  have HW0 := hidp hW0
  have x0 := cell_of_heap (o := 0) g1
  have x1 := cell_of_heap (o := 1) g1
  have x2 := cell_of_heap (o := 2) g1
  have x3 := cell_of_heap (o := 3) g1
  have x4 := cell_of_heap (o := 4) g1
  have x5 := cell_of_heap (o := 5) g1
  simp only [List.getElem?_toArray, List.getElem?_cons_zero, List.getElem?_cons_succ] at x0 x1 x2 x3 x4 x5
  have q0 : W0.cell? ⟨0, 24, none⟩ = some (.bool false) := hk0.cell 24
  have q1 : W0.cell? ⟨0, 25, none⟩ = some (.bool false) := hk0.cell 25
  have q2 : W0.cell? ⟨0, 26, none⟩ = some (.bool false) := hk0.cell 26
  have q3 : W0.cell? ⟨0, 27, none⟩ = some (.bool true) := hk0.cell 27
  have q4 : W0.cell? ⟨0, 28, none⟩ = some (.func (.func 125) #[] #[]) := hk0.cell 28
  have q5 : W0.cell? ⟨0, 29, none⟩ = some (.func (.func 126) #[] #[]) := hk0.cell 29
  clear hW0 g1 hk0 hk
  by_cases hc : c = 0
  · have dc : (c != 0) = false := by simp [hc]
    by_cases hn : n = 0
    · have dn : (n != 0) = false := by simp [hn]
      by_cases hd : d = 0
      · have dd : (d != 0) = false := by simp [hd]
        have HR : Hid (formedV 4 c n d kn = (decide (kn = 1))) := by show _ = _; simp [formedV, withinB, useC, useN, useD, useK, rightB, hc, hn, hd]
        clear hc hn hd
        go_enter Tryd.func45, Tryd.ntmps45
        go_wp2_with fail
        rw [HW0.out]
        refine (uwithin_any _ _ _ _).mono ?_
        rintro e w1 ⟨rfl, rfl⟩
        rw [show withinB 4 1 9 = true from rfl]
        go_wp2_with fail
        refine (k7_any _ _ _ _ _ _ _ _ _).mono ?_
        rintro e w2 ⟨rfl, hb2⟩
        go_wp2_with fail
        go_ret
        exact ⟨ret_bool HR.out.symm, hBW.trans (((Below.refl _ _).alloc (Nat.le_refl _) _).trans (hb2.mono (by simp)) |>.mono hBW.size)⟩
      · have dd : (d != 0) = true := by simp [hd]
        have HR : Hid (formedV 4 c n d kn = false) := by show _ = _; simp [formedV, withinB, useC, useN, useD, useK, hd]
        clear hc hn hd
        go_enter Tryd.func45, Tryd.ntmps45
        go_wp2_with fail
        rw [HW0.out]
        refine (uwithin_any _ _ _ _).mono ?_
        rintro e w1 ⟨rfl, rfl⟩
        rw [show withinB 4 1 9 = true from rfl]
        go_wp2_with fail
        go_ret
        exact ⟨ret_bool HR.out.symm, hBW.trans (((Below.refl _ _).alloc (Nat.le_refl _) _).mono hBW.size)⟩
    · have dn : (n != 0) = true := by simp [hn]
      have HR : Hid (formedV 4 c n d kn = false) := by show _ = _; simp [formedV, withinB, useC, useN, useD, useK, hn]
      clear hc hn
      go_enter Tryd.func45, Tryd.ntmps45
      go_wp2_with fail
      rw [HW0.out]
      refine (uwithin_any _ _ _ _).mono ?_
      rintro e w1 ⟨rfl, rfl⟩
      rw [show withinB 4 1 9 = true from rfl]
      go_wp2_with fail
      go_ret
      exact ⟨ret_bool HR.out.symm, hBW.trans (((Below.refl _ _).alloc (Nat.le_refl _) _).mono hBW.size)⟩
  · have dc : (c != 0) = true := by simp [hc]
    have HR : Hid (formedV 4 c n d kn = false) := by show _ = _; simp [formedV, withinB, useC, useN, useD, useK, hc]
    clear hc
    go_enter Tryd.func45, Tryd.ntmps45
    go_wp2_with fail
    rw [HW0.out]
    refine (uwithin_any _ _ _ _).mono ?_
    rintro e w1 ⟨rfl, rfl⟩
    rw [show withinB 4 1 9 = true from rfl]
    go_wp2_with fail
    go_ret
    exact ⟨ret_bool HR.out.symm, hBW.trans (((Below.refl _ _).alloc (Nat.le_refl _) _).mono hBW.size)⟩

set_option maxRecDepth 100000 in
set_option maxHeartbeats 2000000 in
theorem formed5_any (c n d : Int) (nm : ByteArray) (A : Option Addr) (kn kc : Nat) (w : World) (hk : KindsAt w) : Calls Tryd.prog 45 #[.agg #[.int .i64 5, .int .i64 c, .string nm, .int .i64 n, .int .i64 d, .slice A kn kc]] w fun e w' => e = .returned (.bool (formedV 5 c n d kn)) ∧ Below w.heap.size w w' := by
  obtain ⟨W0, hW0⟩ : ∃ W0, w.alloc (.cells #[.int .i64 5, .int .i64 c, .string nm, .int .i64 n, .int .i64 d, .slice A kn kc] 24) = W0 := ⟨_, rfl⟩
  have hBW : Below w.heap.size w W0 := hW0 ▸ (Below.refl _ w).alloc (Nat.le_refl _) _
  have g1 : W0.heap[w.heap.size]? = some (.cells #[.int .i64 5, .int .i64 c, .string nm, .int .i64 n, .int .i64 d, .slice A kn kc] 24 (0, 0)) := hW0 ▸ World.alloc_heap_new _ _
  have hk0 := hk.below hBW hk.lt
  have lz := lt_of_heap g1
  have lk := hk.lt
  have HW0 := hidp hW0
  have x0 := cell_of_heap (o := 0) g1
  have x1 := cell_of_heap (o := 1) g1
  have x2 := cell_of_heap (o := 2) g1
  have x3 := cell_of_heap (o := 3) g1
  have x4 := cell_of_heap (o := 4) g1
  have x5 := cell_of_heap (o := 5) g1
  simp only [List.getElem?_toArray, List.getElem?_cons_zero, List.getElem?_cons_succ] at x0 x1 x2 x3 x4 x5
  have q0 : W0.cell? ⟨0, 30, none⟩ = some (.bool true) := hk0.cell 30
  have q1 : W0.cell? ⟨0, 31, none⟩ = some (.bool true) := hk0.cell 31
  have q2 : W0.cell? ⟨0, 32, none⟩ = some (.bool false) := hk0.cell 32
  have q3 : W0.cell? ⟨0, 33, none⟩ = some (.bool false) := hk0.cell 33
  have q4 : W0.cell? ⟨0, 34, none⟩ = some (.func (.func 127) #[] #[]) := hk0.cell 34
  have q5 : W0.cell? ⟨0, 35, none⟩ = some (.func (.func 129) #[] #[]) := hk0.cell 35
  clear hW0 g1 hk0 hk
  by_cases hd : d = 0
  · have dd : (d != 0) = false := by simp [hd]
    by_cases hk : kn = 0
    · have dk : decide (0 < kn) = false := by simp [hk]
      have HR : Hid (formedV 5 c n d kn = (courseB c && withinB n 0 12)) := by show _ = _; simp [formedV, withinB, useC, useN, useD, useK, rightB, hd, hk]
      clear hd hk
      go_enter Tryd.func45, Tryd.ntmps45
      go_wp2_with fail
      rw [HW0.out]
      refine (uwithin_any _ _ _ _).mono ?_
      rintro e w1 ⟨rfl, rfl⟩
      rw [show withinB 5 1 9 = true from rfl]
      go_wp2_with fail
      refine (k9_any _ _ _ _ _ _ _ _ _).mono ?_
      rintro e w2 ⟨rfl, hb2⟩
      go_wp2_with fail
      go_ret
      exact ⟨ret_bool HR.out.symm, hBW.trans (((Below.refl _ _).alloc (Nat.le_refl _) _).trans (hb2.mono (by simp)) |>.mono hBW.size)⟩
    · have dk : decide (0 < kn) = true := by simp; omega
      have HR : Hid (formedV 5 c n d kn = false) := by show _ = _; simp [formedV, withinB, useC, useN, useD, useK, hk]
      clear hd hk
      go_enter Tryd.func45, Tryd.ntmps45
      go_wp2_with fail
      rw [HW0.out]
      refine (uwithin_any _ _ _ _).mono ?_
      rintro e w1 ⟨rfl, rfl⟩
      rw [show withinB 5 1 9 = true from rfl]
      go_wp2_with fail
      go_ret
      exact ⟨ret_bool HR.out.symm, hBW.trans (((Below.refl _ _).alloc (Nat.le_refl _) _).mono hBW.size)⟩
  · have dd : (d != 0) = true := by simp [hd]
    have HR : Hid (formedV 5 c n d kn = false) := by show _ = _; simp [formedV, withinB, useC, useN, useD, useK, hd]
    clear hd
    go_enter Tryd.func45, Tryd.ntmps45
    go_wp2_with fail
    rw [HW0.out]
    refine (uwithin_any _ _ _ _).mono ?_
    rintro e w1 ⟨rfl, rfl⟩
    rw [show withinB 5 1 9 = true from rfl]
    go_wp2_with fail
    go_ret
    exact ⟨ret_bool HR.out.symm, hBW.trans (((Below.refl _ _).alloc (Nat.le_refl _) _).mono hBW.size)⟩

set_option maxRecDepth 100000 in
set_option maxHeartbeats 2000000 in
theorem formed6_any (c n d : Int) (nm : ByteArray) (A : Option Addr) (kn kc : Nat) (w : World) (hk : KindsAt w) : Calls Tryd.prog 45 #[.agg #[.int .i64 6, .int .i64 c, .string nm, .int .i64 n, .int .i64 d, .slice A kn kc]] w fun e w' => e = .returned (.bool (formedV 6 c n d kn)) ∧ Below w.heap.size w w' := by
  obtain ⟨W0, hW0⟩ : ∃ W0, w.alloc (.cells #[.int .i64 6, .int .i64 c, .string nm, .int .i64 n, .int .i64 d, .slice A kn kc] 24) = W0 := ⟨_, rfl⟩
  have hBW : Below w.heap.size w W0 := hW0 ▸ (Below.refl _ w).alloc (Nat.le_refl _) _
  have g1 : W0.heap[w.heap.size]? = some (.cells #[.int .i64 6, .int .i64 c, .string nm, .int .i64 n, .int .i64 d, .slice A kn kc] 24 (0, 0)) := hW0 ▸ World.alloc_heap_new _ _
  have hk0 := hk.below hBW hk.lt
  have lz := lt_of_heap g1
  have lk := hk.lt
  have HW0 := hidp hW0
  have x0 := cell_of_heap (o := 0) g1
  have x1 := cell_of_heap (o := 1) g1
  have x2 := cell_of_heap (o := 2) g1
  have x3 := cell_of_heap (o := 3) g1
  have x4 := cell_of_heap (o := 4) g1
  have x5 := cell_of_heap (o := 5) g1
  simp only [List.getElem?_toArray, List.getElem?_cons_zero, List.getElem?_cons_succ] at x0 x1 x2 x3 x4 x5
  have q0 : W0.cell? ⟨0, 36, none⟩ = some (.bool true) := hk0.cell 36
  have q1 : W0.cell? ⟨0, 37, none⟩ = some (.bool true) := hk0.cell 37
  have q2 : W0.cell? ⟨0, 38, none⟩ = some (.bool false) := hk0.cell 38
  have q3 : W0.cell? ⟨0, 39, none⟩ = some (.bool false) := hk0.cell 39
  have q4 : W0.cell? ⟨0, 40, none⟩ = some (.func (.func 131) #[] #[]) := hk0.cell 40
  have q5 : W0.cell? ⟨0, 41, none⟩ = some (.func (.func 132) #[] #[]) := hk0.cell 41
  clear hW0 g1 hk0 hk
  by_cases hd : d = 0
  · have dd : (d != 0) = false := by simp [hd]
    by_cases hk : kn = 0
    · have dk : decide (0 < kn) = false := by simp [hk]
      have HR : Hid (formedV 6 c n d kn = (courseB c && withinB n 1 100)) := by show _ = _; simp [formedV, withinB, useC, useN, useD, useK, rightB, hd, hk]
      clear hd hk
      go_enter Tryd.func45, Tryd.ntmps45
      go_wp2_with fail
      rw [HW0.out]
      refine (uwithin_any _ _ _ _).mono ?_
      rintro e w1 ⟨rfl, rfl⟩
      rw [show withinB 6 1 9 = true from rfl]
      go_wp2_with fail
      refine (k11_any _ _ _ _ _ _ _ _ _).mono ?_
      rintro e w2 ⟨rfl, hb2⟩
      go_wp2_with fail
      go_ret
      exact ⟨ret_bool HR.out.symm, hBW.trans (((Below.refl _ _).alloc (Nat.le_refl _) _).trans (hb2.mono (by simp)) |>.mono hBW.size)⟩
    · have dk : decide (0 < kn) = true := by simp; omega
      have HR : Hid (formedV 6 c n d kn = false) := by show _ = _; simp [formedV, withinB, useC, useN, useD, useK, hk]
      clear hd hk
      go_enter Tryd.func45, Tryd.ntmps45
      go_wp2_with fail
      rw [HW0.out]
      refine (uwithin_any _ _ _ _).mono ?_
      rintro e w1 ⟨rfl, rfl⟩
      rw [show withinB 6 1 9 = true from rfl]
      go_wp2_with fail
      go_ret
      exact ⟨ret_bool HR.out.symm, hBW.trans (((Below.refl _ _).alloc (Nat.le_refl _) _).mono hBW.size)⟩
  · have dd : (d != 0) = true := by simp [hd]
    have HR : Hid (formedV 6 c n d kn = false) := by show _ = _; simp [formedV, withinB, useC, useN, useD, useK, hd]
    clear hd
    go_enter Tryd.func45, Tryd.ntmps45
    go_wp2_with fail
    rw [HW0.out]
    refine (uwithin_any _ _ _ _).mono ?_
    rintro e w1 ⟨rfl, rfl⟩
    rw [show withinB 6 1 9 = true from rfl]
    go_wp2_with fail
    go_ret
    exact ⟨ret_bool HR.out.symm, hBW.trans (((Below.refl _ _).alloc (Nat.le_refl _) _).mono hBW.size)⟩

set_option maxRecDepth 100000 in
set_option maxHeartbeats 2000000 in
theorem formed7_any (c n d : Int) (nm : ByteArray) (A : Option Addr) (kn kc : Nat) (w : World) (hk : KindsAt w) : Calls Tryd.prog 45 #[.agg #[.int .i64 7, .int .i64 c, .string nm, .int .i64 n, .int .i64 d, .slice A kn kc]] w fun e w' => e = .returned (.bool (formedV 7 c n d kn)) ∧ Below w.heap.size w w' := by
  obtain ⟨W0, hW0⟩ : ∃ W0, w.alloc (.cells #[.int .i64 7, .int .i64 c, .string nm, .int .i64 n, .int .i64 d, .slice A kn kc] 24) = W0 := ⟨_, rfl⟩
  have hBW : Below w.heap.size w W0 := hW0 ▸ (Below.refl _ w).alloc (Nat.le_refl _) _
  have g1 : W0.heap[w.heap.size]? = some (.cells #[.int .i64 7, .int .i64 c, .string nm, .int .i64 n, .int .i64 d, .slice A kn kc] 24 (0, 0)) := hW0 ▸ World.alloc_heap_new _ _
  have hk0 := hk.below hBW hk.lt
  have lz := lt_of_heap g1
  have lk := hk.lt
  have HW0 := hidp hW0
  have x0 := cell_of_heap (o := 0) g1
  have x1 := cell_of_heap (o := 1) g1
  have x2 := cell_of_heap (o := 2) g1
  have x3 := cell_of_heap (o := 3) g1
  have x4 := cell_of_heap (o := 4) g1
  have x5 := cell_of_heap (o := 5) g1
  simp only [List.getElem?_toArray, List.getElem?_cons_zero, List.getElem?_cons_succ] at x0 x1 x2 x3 x4 x5
  have q0 : W0.cell? ⟨0, 42, none⟩ = some (.bool false) := hk0.cell 42
  have q1 : W0.cell? ⟨0, 43, none⟩ = some (.bool true) := hk0.cell 43
  have q2 : W0.cell? ⟨0, 44, none⟩ = some (.bool false) := hk0.cell 44
  have q3 : W0.cell? ⟨0, 45, none⟩ = some (.bool false) := hk0.cell 45
  have q4 : W0.cell? ⟨0, 46, none⟩ = some (.func (.func 133) #[] #[]) := hk0.cell 46
  have q5 : W0.cell? ⟨0, 47, none⟩ = some (.func (.func 134) #[] #[]) := hk0.cell 47
  clear hW0 g1 hk0 hk
  by_cases hc : c = 0
  · have dc : (c != 0) = false := by simp [hc]
    by_cases hd : d = 0
    · have dd : (d != 0) = false := by simp [hd]
      by_cases hk : kn = 0
      · have dk : decide (0 < kn) = false := by simp [hk]
        have HR : Hid (formedV 7 c n d kn = (withinB n 0 10000)) := by show _ = _; simp [formedV, withinB, useC, useN, useD, useK, rightB, hc, hd, hk]
        clear hc hd hk
        go_enter Tryd.func45, Tryd.ntmps45
        go_wp2_with fail
        rw [HW0.out]
        refine (uwithin_any _ _ _ _).mono ?_
        rintro e w1 ⟨rfl, rfl⟩
        rw [show withinB 7 1 9 = true from rfl]
        go_wp2_with fail
        refine (k13_any _ _ _ _ _ _ _ _ _).mono ?_
        rintro e w2 ⟨rfl, hb2⟩
        go_wp2_with fail
        go_ret
        exact ⟨ret_bool HR.out.symm, hBW.trans (((Below.refl _ _).alloc (Nat.le_refl _) _).trans (hb2.mono (by simp)) |>.mono hBW.size)⟩
      · have dk : decide (0 < kn) = true := by simp; omega
        have HR : Hid (formedV 7 c n d kn = false) := by show _ = _; simp [formedV, withinB, useC, useN, useD, useK, hk]
        clear hc hd hk
        go_enter Tryd.func45, Tryd.ntmps45
        go_wp2_with fail
        rw [HW0.out]
        refine (uwithin_any _ _ _ _).mono ?_
        rintro e w1 ⟨rfl, rfl⟩
        rw [show withinB 7 1 9 = true from rfl]
        go_wp2_with fail
        go_ret
        exact ⟨ret_bool HR.out.symm, hBW.trans (((Below.refl _ _).alloc (Nat.le_refl _) _).mono hBW.size)⟩
    · have dd : (d != 0) = true := by simp [hd]
      have HR : Hid (formedV 7 c n d kn = false) := by show _ = _; simp [formedV, withinB, useC, useN, useD, useK, hd]
      clear hc hd
      go_enter Tryd.func45, Tryd.ntmps45
      go_wp2_with fail
      rw [HW0.out]
      refine (uwithin_any _ _ _ _).mono ?_
      rintro e w1 ⟨rfl, rfl⟩
      rw [show withinB 7 1 9 = true from rfl]
      go_wp2_with fail
      go_ret
      exact ⟨ret_bool HR.out.symm, hBW.trans (((Below.refl _ _).alloc (Nat.le_refl _) _).mono hBW.size)⟩
  · have dc : (c != 0) = true := by simp [hc]
    have HR : Hid (formedV 7 c n d kn = false) := by show _ = _; simp [formedV, withinB, useC, useN, useD, useK, hc]
    clear hc
    go_enter Tryd.func45, Tryd.ntmps45
    go_wp2_with fail
    rw [HW0.out]
    refine (uwithin_any _ _ _ _).mono ?_
    rintro e w1 ⟨rfl, rfl⟩
    rw [show withinB 7 1 9 = true from rfl]
    go_wp2_with fail
    go_ret
    exact ⟨ret_bool HR.out.symm, hBW.trans (((Below.refl _ _).alloc (Nat.le_refl _) _).mono hBW.size)⟩

set_option maxRecDepth 100000 in
set_option maxHeartbeats 2000000 in
theorem formed8_any (c n d : Int) (nm : ByteArray) (A : Option Addr) (kn kc : Nat) (w : World) (hk : KindsAt w) : Calls Tryd.prog 45 #[.agg #[.int .i64 8, .int .i64 c, .string nm, .int .i64 n, .int .i64 d, .slice A kn kc]] w fun e w' => e = .returned (.bool (formedV 8 c n d kn)) ∧ Below w.heap.size w w' := by
  obtain ⟨W0, hW0⟩ : ∃ W0, w.alloc (.cells #[.int .i64 8, .int .i64 c, .string nm, .int .i64 n, .int .i64 d, .slice A kn kc] 24) = W0 := ⟨_, rfl⟩
  have hBW : Below w.heap.size w W0 := hW0 ▸ (Below.refl _ w).alloc (Nat.le_refl _) _
  have g1 : W0.heap[w.heap.size]? = some (.cells #[.int .i64 8, .int .i64 c, .string nm, .int .i64 n, .int .i64 d, .slice A kn kc] 24 (0, 0)) := hW0 ▸ World.alloc_heap_new _ _
  have hk0 := hk.below hBW hk.lt
  have lz := lt_of_heap g1
  have lk := hk.lt
  have HW0 := hidp hW0
  have x0 := cell_of_heap (o := 0) g1
  have x1 := cell_of_heap (o := 1) g1
  have x2 := cell_of_heap (o := 2) g1
  have x3 := cell_of_heap (o := 3) g1
  have x4 := cell_of_heap (o := 4) g1
  have x5 := cell_of_heap (o := 5) g1
  simp only [List.getElem?_toArray, List.getElem?_cons_zero, List.getElem?_cons_succ] at x0 x1 x2 x3 x4 x5
  have q0 : W0.cell? ⟨0, 48, none⟩ = some (.bool false) := hk0.cell 48
  have q1 : W0.cell? ⟨0, 49, none⟩ = some (.bool true) := hk0.cell 49
  have q2 : W0.cell? ⟨0, 50, none⟩ = some (.bool true) := hk0.cell 50
  have q3 : W0.cell? ⟨0, 51, none⟩ = some (.bool false) := hk0.cell 51
  have q4 : W0.cell? ⟨0, 52, none⟩ = some (.func (.func 135) #[] #[]) := hk0.cell 52
  have q5 : W0.cell? ⟨0, 53, none⟩ = some (.func (.func 136) #[] #[]) := hk0.cell 53
  clear hW0 g1 hk0 hk
  by_cases hc : c = 0
  · have dc : (c != 0) = false := by simp [hc]
    by_cases hk : kn = 0
    · have dk : decide (0 < kn) = false := by simp [hk]
      have HR : Hid (formedV 8 c n d kn = (meanB n d)) := by show _ = _; simp [formedV, withinB, useC, useN, useD, useK, rightB, hc, hk]
      clear hc hk
      go_enter Tryd.func45, Tryd.ntmps45
      go_wp2_with fail
      rw [HW0.out]
      refine (uwithin_any _ _ _ _).mono ?_
      rintro e w1 ⟨rfl, rfl⟩
      rw [show withinB 8 1 9 = true from rfl]
      go_wp2_with fail
      refine (k15_any _ _ _ _ _ _ _ _ _).mono ?_
      rintro e w2 ⟨rfl, hb2⟩
      go_wp2_with fail
      go_ret
      exact ⟨ret_bool HR.out.symm, hBW.trans (((Below.refl _ _).alloc (Nat.le_refl _) _).trans (hb2.mono (by simp)) |>.mono hBW.size)⟩
    · have dk : decide (0 < kn) = true := by simp; omega
      have HR : Hid (formedV 8 c n d kn = false) := by show _ = _; simp [formedV, withinB, useC, useN, useD, useK, hk]
      clear hc hk
      go_enter Tryd.func45, Tryd.ntmps45
      go_wp2_with fail
      rw [HW0.out]
      refine (uwithin_any _ _ _ _).mono ?_
      rintro e w1 ⟨rfl, rfl⟩
      rw [show withinB 8 1 9 = true from rfl]
      go_wp2_with fail
      go_ret
      exact ⟨ret_bool HR.out.symm, hBW.trans (((Below.refl _ _).alloc (Nat.le_refl _) _).mono hBW.size)⟩
  · have dc : (c != 0) = true := by simp [hc]
    have HR : Hid (formedV 8 c n d kn = false) := by show _ = _; simp [formedV, withinB, useC, useN, useD, useK, hc]
    clear hc
    go_enter Tryd.func45, Tryd.ntmps45
    go_wp2_with fail
    rw [HW0.out]
    refine (uwithin_any _ _ _ _).mono ?_
    rintro e w1 ⟨rfl, rfl⟩
    rw [show withinB 8 1 9 = true from rfl]
    go_wp2_with fail
    go_ret
    exact ⟨ret_bool HR.out.symm, hBW.trans (((Below.refl _ _).alloc (Nat.le_refl _) _).mono hBW.size)⟩

set_option maxRecDepth 100000 in
set_option maxHeartbeats 2000000 in
theorem formed9_any (c n d : Int) (nm : ByteArray) (A : Option Addr) (kn kc : Nat) (w : World) (hk : KindsAt w) : Calls Tryd.prog 45 #[.agg #[.int .i64 9, .int .i64 c, .string nm, .int .i64 n, .int .i64 d, .slice A kn kc]] w fun e w' => e = .returned (.bool (formedV 9 c n d kn)) ∧ Below w.heap.size w w' := by
  obtain ⟨W0, hW0⟩ : ∃ W0, w.alloc (.cells #[.int .i64 9, .int .i64 c, .string nm, .int .i64 n, .int .i64 d, .slice A kn kc] 24) = W0 := ⟨_, rfl⟩
  have hBW : Below w.heap.size w W0 := hW0 ▸ (Below.refl _ w).alloc (Nat.le_refl _) _
  have g1 : W0.heap[w.heap.size]? = some (.cells #[.int .i64 9, .int .i64 c, .string nm, .int .i64 n, .int .i64 d, .slice A kn kc] 24 (0, 0)) := hW0 ▸ World.alloc_heap_new _ _
  have hk0 := hk.below hBW hk.lt
  have lz := lt_of_heap g1
  have lk := hk.lt
  have HW0 := hidp hW0
  have x0 := cell_of_heap (o := 0) g1
  have x1 := cell_of_heap (o := 1) g1
  have x2 := cell_of_heap (o := 2) g1
  have x3 := cell_of_heap (o := 3) g1
  have x4 := cell_of_heap (o := 4) g1
  have x5 := cell_of_heap (o := 5) g1
  simp only [List.getElem?_toArray, List.getElem?_cons_zero, List.getElem?_cons_succ] at x0 x1 x2 x3 x4 x5
  have q0 : W0.cell? ⟨0, 54, none⟩ = some (.bool true) := hk0.cell 54
  have q1 : W0.cell? ⟨0, 55, none⟩ = some (.bool false) := hk0.cell 55
  have q2 : W0.cell? ⟨0, 56, none⟩ = some (.bool false) := hk0.cell 56
  have q3 : W0.cell? ⟨0, 57, none⟩ = some (.bool false) := hk0.cell 57
  have q4 : W0.cell? ⟨0, 58, none⟩ = some (.func (.func 128) #[] #[]) := hk0.cell 58
  have q5 : W0.cell? ⟨0, 59, none⟩ = some (.func (.func 138) #[] #[]) := hk0.cell 59
  clear hW0 g1 hk0 hk
  by_cases hn : n = 0
  · have dn : (n != 0) = false := by simp [hn]
    by_cases hd : d = 0
    · have dd : (d != 0) = false := by simp [hd]
      by_cases hk : kn = 0
      · have dk : decide (0 < kn) = false := by simp [hk]
        have HR : Hid (formedV 9 c n d kn = (courseB c)) := by show _ = _; simp [formedV, withinB, useC, useN, useD, useK, rightB, hn, hd, hk]
        clear hn hd hk
        go_enter Tryd.func45, Tryd.ntmps45
        go_wp2_with fail
        rw [HW0.out]
        refine (uwithin_any _ _ _ _).mono ?_
        rintro e w1 ⟨rfl, rfl⟩
        rw [show withinB 9 1 9 = true from rfl]
        go_wp2_with fail
        refine (ucourse_any _ _ _ _ _ _ _ _ _).mono ?_
        rintro e w2 ⟨rfl, hb2⟩
        go_wp2_with fail
        go_ret
        exact ⟨ret_bool HR.out.symm, hBW.trans (((Below.refl _ _).alloc (Nat.le_refl _) _).trans (hb2.mono (by simp)) |>.mono hBW.size)⟩
      · have dk : decide (0 < kn) = true := by simp; omega
        have HR : Hid (formedV 9 c n d kn = false) := by show _ = _; simp [formedV, withinB, useC, useN, useD, useK, hk]
        clear hn hd hk
        go_enter Tryd.func45, Tryd.ntmps45
        go_wp2_with fail
        rw [HW0.out]
        refine (uwithin_any _ _ _ _).mono ?_
        rintro e w1 ⟨rfl, rfl⟩
        rw [show withinB 9 1 9 = true from rfl]
        go_wp2_with fail
        go_ret
        exact ⟨ret_bool HR.out.symm, hBW.trans (((Below.refl _ _).alloc (Nat.le_refl _) _).mono hBW.size)⟩
    · have dd : (d != 0) = true := by simp [hd]
      have HR : Hid (formedV 9 c n d kn = false) := by show _ = _; simp [formedV, withinB, useC, useN, useD, useK, hd]
      clear hn hd
      go_enter Tryd.func45, Tryd.ntmps45
      go_wp2_with fail
      rw [HW0.out]
      refine (uwithin_any _ _ _ _).mono ?_
      rintro e w1 ⟨rfl, rfl⟩
      rw [show withinB 9 1 9 = true from rfl]
      go_wp2_with fail
      go_ret
      exact ⟨ret_bool HR.out.symm, hBW.trans (((Below.refl _ _).alloc (Nat.le_refl _) _).mono hBW.size)⟩
  · have dn : (n != 0) = true := by simp [hn]
    have HR : Hid (formedV 9 c n d kn = false) := by show _ = _; simp [formedV, withinB, useC, useN, useD, useK, hn]
    clear hn
    go_enter Tryd.func45, Tryd.ntmps45
    go_wp2_with fail
    rw [HW0.out]
    refine (uwithin_any _ _ _ _).mono ?_
    rintro e w1 ⟨rfl, rfl⟩
    rw [show withinB 9 1 9 = true from rfl]
    go_wp2_with fail
    go_ret
    exact ⟨ret_bool HR.out.symm, hBW.trans (((Below.refl _ _).alloc (Nat.le_refl _) _).mono hBW.size)⟩

set_option maxRecDepth 100000 in
set_option maxHeartbeats 2000000 in
theorem formed0_any (op c n d : Int) (nm : ByteArray) (A : Option Addr) (kn kc : Nat) (w : World) (hop : withinB op 1 9 = false) : Calls Tryd.prog 45 #[.agg #[.int .i64 op, .int .i64 c, .string nm, .int .i64 n, .int .i64 d, .slice A kn kc]] w fun e w' => e = .returned (.bool (formedV op c n d kn)) ∧ Below w.heap.size w w' := by
  have HB := hidp ((Below.refl w.heap.size w).alloc (Nat.le_refl _) (.cells #[.int .i64 op, .int .i64 c, .string nm, .int .i64 n, .int .i64 d, .slice A kn kc] 24))
  have HR : Hid (formedV op c n d kn = false) := by show _ = _; simp [formedV, hop]
  have HO := hidp hop
  clear hop
  go_enter Tryd.func45, Tryd.ntmps45
  go_wp2_with fail
  refine (uwithin_any _ _ _ _).mono ?_
  rintro e w1 ⟨rfl, rfl⟩
  rw [HO.out]
  go_wp2_with fail
  go_ret
  exact ⟨ret_bool HR.out.symm, HB.out⟩

theorem uformed_any (op c n d : Int) (nm : ByteArray) (A : Option Addr) (kn kc : Nat) (w : World) (hk : KindsAt w) : Calls Tryd.prog 45 #[.agg #[.int .i64 op, .int .i64 c, .string nm, .int .i64 n, .int .i64 d, .slice A kn kc]] w fun e w' => e = .returned (.bool (formedV op c n d kn)) ∧ Below w.heap.size w w' := by
  cases h : withinB op 1 9 with
  | false => exact formed0_any op c n d nm A kn kc w h
  | true =>
    simp [withinB] at h
    have : op = 1 ∨ op = 2 ∨ op = 3 ∨ op = 4 ∨ op = 5 ∨ op = 6 ∨ op = 7 ∨ op = 8 ∨ op = 9 := by omega
    rcases this with rfl | rfl | rfl | rfl | rfl | rfl | rfl | rfl | rfl
    · exact formed1_any c n d nm A kn kc w hk
    · exact formed2_any c n d nm A kn kc w hk
    · exact formed3_any c n d nm A kn kc w hk
    · exact formed4_any c n d nm A kn kc w hk
    · exact formed5_any c n d nm A kn kc w hk
    · exact formed6_any c n d nm A kn kc w hk
    · exact formed7_any c n d nm A kn kc w hk
    · exact formed8_any c n d nm A kn kc w hk
    · exact formed9_any c n d nm A kn kc w hk
end Go.Proofs.YtbmbpannhncpjaaDoor
