/- Decisions laid in memory; the change of the examples; the examples plainly. -/
import Derived.Test.YtologegkbcedhaaH10
import Derived.Test.YtologegkbcedhaaH6
import Derived.Test.YtologegkbcedhaaH2
namespace Go.Proofs.Ytologegkbcedhaa
open Go.RowKit Go.Shelf

theorem deEnc_len (x : DeV) : x.enc.length = 10 := rfl
theorem deEnc_one (x : DeV) : ∀ u ∈ x.enc, u.oneCell' = true := by
  intro u hu; simp [DeV.enc] at hu; rcases hu with rfl | rfl | rfl | rfl | rfl | rfl | rfl | rfl | rfl | rfl <;> rfl
theorem deSl_of_flat {W : World} {n₀ n c : Nat} {A : Option Addr} {l : List De} (h : Rows 10 (Rep.flat DeV.enc) W n₀ A n c (l.map (·.1))) (hr : ∀ x ∈ l, RdSl W n₀ x.1.rA x.1.rn x.1.rc x.2) : deSl W n₀ A n c l := by
  refine ⟨by simpa using h.1, h.2.1, h.2.2.1, fun hn => ?_⟩
  obtain ⟨b, off, e, hlt, hx⟩ := h.2.2.2 hn
  refine ⟨b, off, e, hlt, fun i x hi => ?_⟩
  obtain ⟨cs, rfl, h2⟩ := hx i x.1 (by simp [hi])
  exact ⟨_, ⟨rfl, hr x (List.mem_of_getElem? hi)⟩, h2⟩
theorem deSl.flat {W : World} {n₀ n c : Nat} {A : Option Addr} {l : List De} (h : deSl W n₀ A n c l) : Rows 10 (Rep.flat DeV.enc) W n₀ A n c (l.map (·.1)) ∧ ∀ x ∈ l, RdSl W n₀ x.1.rA x.1.rn x.1.rc x.2 := by
  refine ⟨⟨by simpa using h.1, h.2.1, h.2.2.1, fun hn => ?_⟩, fun x hx => ?_⟩
  · obtain ⟨b, off, e, hlt, hx⟩ := h.2.2.2 hn
    refine ⟨b, off, e, hlt, fun i v hi => ?_⟩
    rw [List.getElem?_map] at hi
    cases hl : l[i]? with
    | none => rw [hl] at hi; cases hi
    | some y =>
      rw [hl] at hi
      simp at hi
      subst hi
      obtain ⟨cs, ⟨rfl, _⟩, h2⟩ := hx i y hl
      exact ⟨_, rfl, h2⟩
  · obtain ⟨i, hi⟩ := List.mem_iff_getElem?.1 hx
    have hn : 0 < n := by
      have := (List.getElem?_eq_some_iff.1 hi).1
      rw [h.1]; omega
    obtain ⟨b, off, e, hlt, hx'⟩ := h.2.2.2 hn
    obtain ⟨cs, ⟨_, hr⟩, _⟩ := hx' i x hi
    exact hr

theorem field_read (a b c d e : Value) (w : World) : (Instr.field 47 (.agg #[a, b, c, d, e]) 0).run Try.prog w = .ok (.agg #[a, b, c]) w := by
  have h1 := Try.underlying47
  have h2 := Try.isAgg45
  have h3 := Try.sizeOf45
  simp [Instr.field, run_underlying h1, part, h2, h3, asAgg]
theorem field_index (a : Value) (w : World) : (Instr.field 28 (.agg #[a]) 0).run Try.prog w = .ok a w := by
  have h1 := Try.underlying28
  have h2 := Try.isAgg26
  simp [Instr.field, run_underlying h1, part, h2, asAgg]
/-- What sane's closure hands back. -/
def ChgPost (chs : List Ch) (w : World) (e : Ending) (w' : World) : Prop := ∃ A n c raw, e = .returned (.slice A n c) ∧ cSl w' w'.heap.size A n c raw ∧ ChOks w' raw chs ∧ Below w.heap.size w w'
set_option maxRecDepth 100000 in
set_option maxHeartbeats 2000000 in
theorem sane35a_any (t : Int) (w : World) (hw : IntKind.i64.wrap (t + 1) = t + 1) : Calls Try.prog 27 #[.int .i64 t] w (ChgPost [(⟨5, 4, 7⟩, [(t, t + 1)])] w) := by
  have hfl := field_read
  go_enter Try.func27, Try.ntmps27
  go_wp2_with fail
  refine (read35_any _ _ _ _).mono ?_
  rintro e w1 ⟨rfl, hb1⟩
  go_wp2_with fail
  go_ret
  have g1 := World.alloc_heap_new w1 (.cells #[.int .i64 t, .int .i64 (t + 1)] 60)
  have g2 := World.alloc_heap_new (w1.alloc (.cells #[.int .i64 t, .int .i64 (t + 1)] 60)) (.cells #[.int .i64 5, .int .i64 4, .int .i64 7, .slice (some ⟨w1.heap.size, 0, none⟩) 1 1] 63)
  have g1' := (Below.heap_alloc (w1.alloc (.cells #[.int .i64 t, .int .i64 (t + 1)] 60)) (.cells #[.int .i64 5, .int .i64 4, .int .i64 7, .slice (some ⟨w1.heap.size, 0, none⟩) 1 1] 63) _ (by simp)).trans g1
  rw [World.size_alloc] at g2
  refine ⟨_, 1, _, [(⟨5, 4, 7⟩, some ⟨w1.heap.size, 0, none⟩, 1, 1)], rfl, rows_of_heap (l := [((⟨5, 4, 7⟩, some ⟨w1.heap.size, 0, none⟩, 1, 1) : Cr)]) cEnc_len g2 (Nat.le_refl _) (by decide) rfl, (ChOks.nil _).snoc ⟨rfl, rows_of_heap (l := [(t, t + 1)]) pEnc_len g1' (Nat.le_refl _) (by simp) rfl⟩, ?_⟩
  exact (hb1.alloc hb1.size _).alloc (Nat.le_trans hb1.size (by simp)) _

def exR (o f t : Int) : Rd := (⟨5, 4, o⟩, f, t)
def exDs : List (List Rd) := [[exR 7 0 5, exR 7 0 5], [exR 6 0 9]]
def exW : List Lk := [(exR 6 0 9, 1), (exR 7 0 5, 0)]
theorem ex_build : buildL exDs = exW := by decide +kernel
theorem ex_repl : replL exW 0 [] = [(exR 6 0 9, 1)] := by decide +kernel
theorem ex_build0 : buildL [] = [] := by decide +kernel
theorem ex_check2 : checkL exW 2 = 0 := by decide +kernel
theorem ex_check1 : checkL exW 1 = 350 := by decide +kernel
theorem ex_check0 : checkL [] 0 = 0 := by decide +kernel
theorem ex_aff5 : affL exW [(⟨5, 4, 7⟩, [(5, 6)])] = [] := by decide +kernel
theorem ex_aff4 : affL exW [(⟨5, 4, 7⟩, [(4, 5)])] = [0] := by decide +kernel
theorem ex_aff0 : affL [] [(⟨5, 4, 7⟩, [(4, 5)])] = [] := by decide +kernel
end Go.Proofs.Ytologegkbcedhaa
