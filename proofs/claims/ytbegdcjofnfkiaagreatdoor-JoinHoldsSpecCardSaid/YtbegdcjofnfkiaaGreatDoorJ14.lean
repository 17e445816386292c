/- join's rows as keys of a map. -/
import Derived.Test.YtbegdcjofnfkiaaGreatDoorM6
import Derived.Test.YtbegdcjofnfkiaaGreatDoorJ13
namespace Go.Proofs.YtbegdcjofnfkiaaGreatDoor
open Go.RowKit Go.Shelf Go.Sort

/-- A row as an array. -/
structure R8 where
  a0 : Int
  a1 : Int
  a2 : Int
  a3 : Int
  a4 : Int
  a5 : Int
  a6 : Int
  a7 : Int
deriving DecidableEq
def r8V (r : R8) : Value := .agg #[.int .i64 r.a0, .int .i64 r.a1, .int .i64 r.a2, .int .i64 r.a3, .int .i64 r.a4, .int .i64 r.a5, .int .i64 r.a6, .int .i64 r.a7]
/-- A row of at most eight values, with nothings behind. -/
def r8 (l : List Int) : R8 := ⟨l.getD 0 0, l.getD 1 0, l.getD 2 0, l.getD 3 0, l.getD 4 0, l.getD 5 0, l.getD 6 0, l.getD 7 0⟩
theorem r8_inj {x y : List Int} (hl : x.length = y.length) (h8 : x.length ≤ 8) (h : r8 x = r8 y) : x = y := by
  injection h with h0 h1 h2 h3 h4 h5 h6 h7
  refine List.ext_getElem? fun i => ?_
  rcases Nat.lt_or_ge i x.length with hi | hi
  · have hg : x.getD i 0 = y.getD i 0 := by
      have : i = 0 ∨ i = 1 ∨ i = 2 ∨ i = 3 ∨ i = 4 ∨ i = 5 ∨ i = 6 ∨ i = 7 := by omega
      rcases this with rfl | rfl | rfl | rfl | rfl | rfl | rfl | rfl <;> assumption
    rw [List.getD_eq_getElem?_getD, List.getD_eq_getElem?_getD, List.getElem?_eq_getElem hi, List.getElem?_eq_getElem (by omega)] at hg
    rw [List.getElem?_eq_getElem hi, List.getElem?_eq_getElem (by omega)]
    simpa using hg
  · rw [List.getElem?_eq_none hi, List.getElem?_eq_none (by omega)]
set_option maxRecDepth 100000 in
set_option maxHeartbeats 4000000 in
theorem r8_in (d : Nat) (a b : R8) (w : World) : (Op.equalIn (d + 2) 81 (r8V a) (r8V b)).run Tryz.prog w = .ok (decide (a = b)) w := by
  have u3 := Tryz.underlying3
  have a3 := Tryz.isAgg3
  have z3 := Tryz.sizeOf3
  have ur := Tryz.underlying81
  unfold r8V
  rw [show d + 2 = (d + 1) + 1 from rfl]
  unfold Op.equalIn
  go_simp
  have he : ∀ x y, (Op.equalIn (d + 1) 3 (.int .i64 x) (.int .i64 y)).run Tryz.prog w = .ok (x == y) w := fun x y => run_equalIn_int w d 3 .i64 .i64 x y u3
  simp [List.range', a3, z3, he]
  by_cases h0 : a.a0 = b.a0
  case neg => simp [h0]; intro e; exact h0 (by rw [e])
  simp only [h0, if_true]
  by_cases h1 : a.a1 = b.a1
  case neg => simp [h1]; intro e; exact h1 (by rw [e])
  simp only [h1, if_true]
  by_cases h2 : a.a2 = b.a2
  case neg => simp [h2]; intro e; exact h2 (by rw [e])
  simp only [h2, if_true]
  by_cases h3 : a.a3 = b.a3
  case neg => simp [h3]; intro e; exact h3 (by rw [e])
  simp only [h3, if_true]
  by_cases h4 : a.a4 = b.a4
  case neg => simp [h4]; intro e; exact h4 (by rw [e])
  simp only [h4, if_true]
  by_cases h5 : a.a5 = b.a5
  case neg => simp [h5]; intro e; exact h5 (by rw [e])
  simp only [h5, if_true]
  by_cases h6 : a.a6 = b.a6
  case neg => simp [h6]; intro e; exact h6 (by rw [e])
  simp only [h6, if_true]
  by_cases h7 : a.a7 = b.a7
  case neg => simp [h7]; intro e; exact h7 (by rw [e])
  simp only [h7, if_true]
  rw [decide_eq_true]
  cases a; cases b
  simp_all
theorem r_ops : KeyOps Tryz.prog 81 76 r8V := by
  refine KeyOps.of_array Tryz.underlying76 Tryz.underlying81 ?_ ?_ ?_ ?_
  · intro a b h
    simp [r8V] at h
    obtain ⟨h0, h1, h2, h3, h4, h5, h6, h7⟩ := h
    cases a; cases b
    simp_all
  · intro a em w
    have u3 := Tryz.underlying3
    have uk := Tryz.underlying81
    have z3 := Tryz.sizeOf3
    have a3 := Tryz.isAgg3
    show (Instr.checkKey em (9999 + 1) 81 (r8V a)).run Tryz.prog w = .ok () w
    unfold Instr.checkKey r8V
    have hi : ∀ x, (Instr.checkKey em 9999 3 (.int .i64 x)).run Tryz.prog w = .ok () w := fun x => by
      show (Instr.checkKey em (9998 + 1) 3 (.int .i64 x)).run Tryz.prog w = .ok () w
      unfold Instr.checkKey
      go_simp
    go_simp
    simp [List.range', hi, a3, z3]
  · intro a w
    have : Instr.sameBits 10000 (r8V a) (r8V a) = true := by
      show Instr.sameBits (9999 + 1) (.agg _) (.agg _) = true
      simp [Instr.sameBits]
    unfold Instr.keyThatStays
    rw [if_pos this]
    rfl
  · intro a b w
    exact r8_in 9998 a b w
end Go.Proofs.YtbegdcjofnfkiaaGreatDoor
