/- Pages as an argument, opened. -/
import Derived.Test.YtpnfpdkoeednhaaA27
import Derived.Test.YtpnfpdkoeednhaaM9
import Derived.ProofKit
namespace Go.Proofs.Ytpnfpdkoeednhaa
open Go.RowKit Go.ChangeShapes Go.WideShapes Go.Deep

theorem Try.own : ownKnob Try.prog.godebug = none := by kernel_rfl
theorem Try.laidOut : laidOutB Try.prog = true := by kernel_rfl
def fDecP : List Int → Fc
  | [a, b, c, d, e, f, g, h] => ⟨⟨a, b, c⟩, d, e, f, g, h⟩
  | _ => ⟨⟨0, 0, 0⟩, 0, 0, 0, 0, 0⟩
theorem fDecP_enc (z : List Int) (h : z.length = 8) : fEnc (fDecP z) = z.map (.int .i64) := by
  match z, h with
  | [_, _, _, _, _, _, _, _], _ => rfl
def iDecP : List Int → Int
  | [z] => z
  | _ => 0
theorem iDecP_enc (z : List Int) (h : z.length = 1) : iEnc (iDecP z) = z.map (.int .i64) := by
  match z, h with
  | [_], _ => rfl
theorem twoP {α : Type} {l : List α} (h : l.length = 2) : ∃ a b, l = [a, b] := by
  match l, h with
  | [a, b], _ => exact ⟨a, b, rfl⟩
/-- A page's cells, and what they point at. -/
def pgRep : Rep Pq := fun w n g cs => cs = pgEnc g ∧ PgIn g w n
theorem pgRep_rows {w : World} {n₀ n c : Nat} {A : Option Addr} {l : List Pq} (h : Rows 2 pgRep w n₀ A n c l) : pgSl w n₀ A n c l ∧ ∀ g ∈ l, PgIn g w n₀ := by
  refine ⟨⟨h.1, h.2.1, h.2.2.1, fun hn => ?_⟩, fun g hg => ?_⟩
  · obtain ⟨b, off, e, hlt, hx⟩ := h.2.2.2 hn
    refine ⟨b, off, e, hlt, fun i x hi => ?_⟩
    obtain ⟨cs, h1, h2⟩ := hx i x hi
    exact ⟨cs, h1.1, h2⟩
  · obtain ⟨i, hi⟩ := List.mem_iff_getElem?.1 hg
    have hlt := (List.getElem?_eq_some_iff.1 hi).1
    obtain ⟨b, off, e, _, hx⟩ := h.2.2.2 (by have := h.1; omega)
    obtain ⟨cs, h1, _⟩ := hx i g hi
    exact h1.2
section
variable {H : Type} {enc : TypeId × Value → H} {w : World} {base : Nat} {spare : Nat → Bool} {held : Bool}
set_option maxRecDepth 100000 in
theorem pg_elP {fuel : Nat} {cs : List Value} {x : DataW H × List MemPlace} (h : DataW.trod enc Try.prog w base spare held fuel 66 cs = some x) (hw : Light Try.prog 66 x.1) : ∃ g : Pq, pgRep w w.heap.size g cs := by
  obtain ⟨xs, n, rfl, hx, hlen, hxl, hf'⟩ := DataW.trod_struct Try.underlying66 h
  subst hx
  have hl2 : cs.length = 2 := hlen.trans (by kernel_rfl)
  have hx2 : xs.length = 2 := hxl.trans (by kernel_rfl)
  obtain ⟨c0, c1, rfl⟩ := twoP hl2
  obtain ⟨x0, x1, rfl⟩ := twoP hx2
  have z0 : Try.prog.cellsOf 41 = 1 := by kernel_rfl
  have z1 : Try.prog.cellsOf 23 = 1 := by kernel_rfl
  have h0 : DataW.trod enc Try.prog w base spare held n 41 (List.take (Try.prog.cellsOf 41) [c0, c1]) = some x0 := hf' 0 _ rfl
  have h1 : DataW.trod enc Try.prog w base spare held n 23 (List.take (Try.prog.cellsOf 23) [c1]) = some x1 := hf' 1 _ rfl
  rw [z0] at h0
  rw [z1] at h1
  simp only [List.take_succ_cons, List.take_zero] at h0 h1
  obtain ⟨A0, n0, c0', l0, e0, r0, _⟩ := open_cells (r := Rep.flat fEnc) (k := 8) Try.underlying41 (by kernel_rfl) (by decide) (fun _ _ _ ht _ => flat_el (d := 4) fDecP (by kernel_rfl) (by kernel_rfl) fDecP_enc ht) h0 (light_field (j := 0) Try.underlying66 hw rfl rfl)
  obtain ⟨A1, n1, c1', l1, e1, r1, _⟩ := open_cells (r := Rep.flat iEnc) (k := 1) Try.underlying23 (by kernel_rfl) (by decide) (fun _ _ _ ht _ => flat_el (d := 4) iDecP (by kernel_rfl) (by kernel_rfl) iDecP_enc ht) h1 (light_field (j := 1) Try.underlying66 hw rfl rfl)
  simp only [List.cons.injEq, and_true] at e0 e1
  subst e0 e1
  exact ⟨⟨A0, n0, c0', l0, A1, n1, c1', l1⟩, rfl, r0, r1⟩
set_option maxRecDepth 100000 in
theorem open_pages {b0 : Nat} {rr : Reach} {v : Value} {dt : DataW H} {pl : List MemPlace} (hv : Value.okWide Try.prog w rr b0 25 v) (h : DataW.Trod enc Try.prog w base spare held 25 v dt pl) (hw : Light Try.prog 25 dt) :
    ∃ s : Ps, v = psVal s ∧ PsIn s w w.heap.size := by
  obtain ⟨cs, rfl, hs⟩ := okWide_struct Try.underlying25 hv
  obtain ⟨fuel, hf⟩ := h
  obtain ⟨xs, n, rfl, hx, hlen, hxl, hf'⟩ := DataW.trod_struct Try.underlying25 hf
  simp only [Prod.mk.injEq] at hx
  obtain ⟨rfl, rfl⟩ := hx
  have hl2 : cs.toList.length = 2 := hlen.trans (by kernel_rfl)
  have hx2 : xs.length = 2 := hxl.trans (by kernel_rfl)
  obtain ⟨cl⟩ := cs
  obtain ⟨c0, c1, hc⟩ := twoP hl2
  simp only at hc
  subst hc
  obtain ⟨x0, x1, rfl⟩ := twoP hx2
  have z0 : Try.prog.cellsOf 22 = 1 := by kernel_rfl
  have z1 : Try.prog.cellsOf 23 = 1 := by kernel_rfl
  have h0 : DataW.trod enc Try.prog w base spare held n 22 (List.take (Try.prog.cellsOf 22) [c0, c1]) = some x0 := hf' 0 _ rfl
  have h1 : DataW.trod enc Try.prog w base spare held n 23 (List.take (Try.prog.cellsOf 23) [c1]) = some x1 := hf' 1 _ rfl
  rw [z0] at h0
  rw [z1] at h1
  simp only [List.take_succ_cons, List.take_zero] at h0 h1
  obtain ⟨A0, n0, c0', l0, e0, r0, _⟩ := open_cells (r := pgRep) (k := 2) Try.underlying22 (by kernel_rfl) (by decide) (fun _ _ _ ht hl => pg_elP ht hl) h0 (light_field (j := 0) Try.underlying25 hw rfl rfl)
  obtain ⟨A1, n1, c1', l1, e1, r1, _⟩ := open_cells (r := Rep.flat iEnc) (k := 1) Try.underlying23 (by kernel_rfl) (by decide) (fun _ _ _ ht _ => flat_el (d := 4) iDecP (by kernel_rfl) (by kernel_rfl) iDecP_enc ht) h1 (light_field (j := 1) Try.underlying25 hw rfl rfl)
  simp only [List.cons.injEq, and_true] at e0 e1
  subst e0 e1
  exact ⟨⟨A0, n0, c0', l0, A1, n1, c1', l1⟩, rfl, (pgRep_rows r0).1, (pgRep_rows r0).2, r1⟩
end
end Go.Proofs.Ytpnfpdkoeednhaa

