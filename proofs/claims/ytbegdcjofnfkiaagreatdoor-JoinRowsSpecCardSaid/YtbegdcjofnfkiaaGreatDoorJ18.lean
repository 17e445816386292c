/- The reference's SameInts; rows in memory; the law's in. -/
import Derived.Test.YtbegdcjofnfkiaaGreatDoorJ16
namespace Go.Proofs.YtbegdcjofnfkiaaGreatDoor
open Go.RowKit Go.Shelf Go.Sort

set_option maxRecDepth 100000 in
set_option maxHeartbeats 2000000 in
theorem r51SameInts_any (A B : Option Addr) (n m ca cb : Nat) (a b : List Int) (w : World) (ha : iSl w w.heap.size A n ca a) (hb : iSl w w.heap.size B m cb b) :
    Calls Tryz.prog 10 #[.slice A n ca, .slice B m cb] w fun e w' => e = .returned (.bool (decide (a = b))) ∧ Below w.heap.size w w' := by
  have HN := hidp ha.1
  have HM := hidp hb.1
  have hcap := ha.2.2.1
  have hlen := ha.2.1
  have hcap2 := hb.2.2.1
  have hlen2 := hb.2.1
  by_cases hnm : n = m
  · subst hnm
    go_enter Tryz.func10, Tryz.ntmps10
    go_wp2_with fail
    go_loopw [5] (fun i wr => ∃ k : Nat, k ≤ n ∧ i = .int .i64 k ∧ a.take k = b.take k ∧ Below w.heap.size w wr) (fun i _ => n - (intOf i).toNat)
    case atStart => exact ⟨0, by omega, rfl, rfl, Below.refl _ _⟩
    case round =>
      obtain ⟨k, hk, rfl, hab, hbe⟩ := hrel
      have HA := hidp hab
      clear hab
      by_cases hlt : k < n
      · obtain ⟨b1, o1, x, rfl, hb1, hzx, c0⟩ := iSl.get (ha.below iStable hbe) hlt
        obtain ⟨b2, o2, y, rfl, hb2, hzy, d0⟩ := iSl.get (hb.below iStable hbe) hlt
        have l1 := lt_of_cell c0
        have l2 := lt_of_cell d0
        have HX := hidp hzx
        have HY := hidp hzy
        obtain ⟨bo, hbo⟩ : ∃ bo, (!(x == y)) = bo := ⟨_, rfl⟩
        have hbo' : (x != y) = bo := by rw [← hbo]; rfl
        have HB := hidp hbo
        have hkn : (k : Int) < n := by omega
        clear hzx hzy hbo
        go_wp2_with fail
        refine wp_region_below wr.heap.size (by kernel_rfl) (by kernel_rfl) ?_
        repeat
          refine q_step (by rfl) ?_
          apply Exists.intro
          refine ⟨fun w9 h9 => ?_, ?_⟩
          · have hc9 := (bcell h9).1
            go_simp
            first | done | rfl
          go_simp
        refine wpQuiet_nil ?_
        intro w9 hb9
        have hbz := hbe.trans (hb9.mono hbe.size)
        cases bo
        · go_wp2_with fail
          go_roundw
          case rel => exact ⟨k + 1, by omega, by go_num, take_eq_step HA.out HX.out HY.out (by have := HB.out; simpa using this), hbz⟩
          case measure => simp [intOf]; omega
        · go_wp2_with fail
          go_ret
          refine ⟨ret_bool ?_, hbz⟩
          symm
          rw [decide_eq_false_iff_not]
          rintro rfl
          have := HX.out.symm.trans HY.out
          injection this with this
          subst this
          have := HB.out
          simp at this
      · obtain rfl : k = n := by omega
        go_wp2_with fail
        go_ret
        refine ⟨ret_bool ?_, hbe⟩
        have h1 := HA.out
        rw [List.take_of_length_le (by rw [← HN.out]; omega), List.take_of_length_le (by rw [← HM.out]; omega)] at h1
        simp [h1]
  · have hne : ((n : Int) != (m : Int)) = true := by simp; omega
    go_enter Tryz.func10, Tryz.ntmps10
    go_wp2_with fail
    go_ret
    refine ⟨ret_bool ?_, Below.refl _ _⟩
    symm
    rw [decide_eq_false_iff_not]
    rintro rfl
    exact hnm (HN.out.trans HM.out.symm)


theorem any_step {α : Type} {p : α → Bool} {l : List α} {k : Nat} {x : α} (h : l[k]? = some x) (h0 : (l.take k).any p = false) (hx : p x = false) : (l.take (k + 1)).any p = false := by
  rw [take_snoc h, List.any_append, h0]; simp [hx]
theorem any_hit {α : Type} {p : α → Bool} {l : List α} {k : Nat} {x : α} (h : l[k]? = some x) (hx : p x = true) : l.any p = true := by
  rw [List.any_eq_true]; exact ⟨x, List.mem_of_getElem? h, hx⟩

def rwEnc (r : Rw) : List Value := [rwV r]
theorem rwEnc_len (r : Rw) : (rwEnc r).length = 1 := rfl
/-- Rows in memory. -/
def RowsIn (w : World) (A : Option Addr) (n c : Nat) (ls : List (List Int)) : Prop := ∃ rs : List Rw, rs.map (·.l) = ls ∧ Rows 1 (Rep.flat rwEnc) w w.heap.size A n c rs ∧ ∀ r ∈ rs, iSl w w.heap.size r.A r.l.length r.c r.l
theorem RowsIn.keep {w w' : World} {A : Option Addr} {n c : Nat} {ls : List (List Int)} (h : RowsIn w A n c ls) (hb : Below w.heap.size w w') : RowsIn w' A n c ls := by
  obtain ⟨rs, h1, h2, h3⟩ := h
  exact ⟨rs, h1, h2.keep (Rep.flat_stable _) hb.size hb.block, fun r hr => (h3 r hr).keep (Rep.flat_stable _) hb.size hb.block⟩
theorem RowsIn.len {w : World} {A : Option Addr} {n c : Nat} {ls : List (List Int)} (h : RowsIn w A n c ls) : n = ls.length ∧ n ≤ c ∧ c ≤ 9223372036854775807 := by
  obtain ⟨rs, h1, h2, h3⟩ := h
  exact ⟨by rw [← h1, List.length_map]; exact h2.1, h2.2.1, h2.2.2.1⟩
theorem RowsIn.get {w : World} {A : Option Addr} {n c k : Nat} {ls : List (List Int)} (h : RowsIn w A n c ls) (hk : k < n) : ∃ b off B m l, A = some ⟨b, off, none⟩ ∧ ls[k]? = some l ∧ w.cell? ⟨b, off + k, none⟩ = some (.slice B l.length m) ∧ iSl w w.heap.size B l.length m l := by
  obtain ⟨rs, h1, h2, h3⟩ := h
  obtain ⟨b, off, x, cs, hA, hb, hs, hr, hc⟩ := Rows.get h2 hk
  obtain rfl := hr
  have c0 := hc 0 _ rfl
  rw [Nat.add_zero, Nat.mul_one] at c0
  exact ⟨b, off, x.A, x.c, x.l, hA, by rw [← h1, List.getElem?_map, hs]; rfl, c0, h3 x (List.mem_of_getElem? hs)⟩
theorem ix_intss {A : Option Addr} {n c k b off : Nat} (hA : A = some ⟨b, off, none⟩) (hk : k < n) (W : World) : (Instr.indexAt 37 (.slice A n c) (.int .i64 k)).run Tryz.prog W = .ok (.pointer (some ⟨b, off + k, none⟩)) W := by
  subst hA
  have hk' : (k : Int) < n := by omega
  simp [go_sem, hk']
end Go.Proofs.YtbegdcjofnfkiaaGreatDoor
