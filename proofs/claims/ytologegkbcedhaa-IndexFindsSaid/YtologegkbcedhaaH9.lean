/- Decisions, changes, an index as arguments, opened. -/
import Derived.Test.YtologegkbcedhaaH0
import Derived.Test.YtologegkbcedhaaC0
import Derived.Test.YtologegkbcedhaaDoorR
namespace Go.Proofs.Ytologegkbcedhaa
open Go.RowKit Go.ChangeShapes Go.WideShapes Go.Deep

theorem Try.own : ownKnob Try.prog.godebug = none := by kernel_rfl
theorem Try.laidOut : laidOutB Try.prog = true := by kernel_rfl
def rdDec : List Int → Rd
  | [a, b, c, d, e] => (⟨a, b, c⟩, d, e)
  | _ => (⟨0, 0, 0⟩, 0, 0)
theorem rdDec_enc (z : List Int) (h : z.length = 5) : rdEnc (rdDec z) = z.map (.int .i64) := by
  match z, h with
  | [a, b, c, d, e], _ => rfl
def lDec : List Int → Lk
  | [a, b, c, d, e, f] => ((⟨a, b, c⟩, d, e), f)
  | _ => ((⟨0, 0, 0⟩, 0, 0), 0)
theorem lDec_enc (z : List Int) (h : z.length = 6) : lEnc (lDec z) = z.map (.int .i64) := by
  match z, h with
  | [a, b, c, d, e, f], _ => rfl
def spDec : List Int → Int × Int
  | [a, b] => (a, b)
  | _ => (0, 0)
theorem spDec_enc (z : List Int) (h : z.length = 2) : pEnc (spDec z) = z.map (.int .i64) := by
  match z, h with
  | [a, b], _ => rfl

theorem len1 {α : Type} {l : List α} (h : l.length = 1) : ∃ a, l = [a] := by
  match l, h with
  | [a], _ => exact ⟨a, rfl⟩
theorem len2 {α : Type} {l : List α} (h : l.length = 2) : ∃ a b, l = [a, b] := by
  match l, h with
  | [a, b], _ => exact ⟨a, b, rfl⟩
theorem len4 {α : Type} {l : List α} (h : l.length = 4) : ∃ a b c d, l = [a, b, c, d] := by
  match l, h with
  | [a, b, c, d], _ => exact ⟨a, b, c, d, rfl⟩
theorem len7 {α : Type} {l : List α} (h : l.length = 7) : ∃ a b c d e f g, l = [a, b, c, d, e, f, g] := by
  match l, h with
  | [a, b, c, d, e, f, g], _ => exact ⟨a, b, c, d, e, f, g, rfl⟩
theorem len10 {α : Type} {l : List α} (h : l.length = 10) : ∃ a b c d e f g i j k, l = [a, b, c, d, e, f, g, i, j, k] := by
  match l, h with
  | [a, b, c, d, e, f, g, i, j, k], _ => exact ⟨a, b, c, d, e, f, g, i, j, k, rfl⟩
section
variable {H : Type} {enc : TypeId × Value → H} {w : World} {base : Nat} {spare : Nat → Bool} {held : Bool}
set_option maxRecDepth 100000 in
theorem int_el {fuel : Nat} {cs : List Value} {x : DataW H × List MemPlace} (h : DataW.trod enc Try.prog w base spare held fuel 3 cs = some x) : ∃ z, cs = [.int .i64 z] := by
  obtain ⟨n, rfl, _, _⟩ := DataW.trod_int Try.underlying3 h
  exact ⟨n, rfl⟩
set_option maxRecDepth 100000 in
theorem ints_el {fuel : Nat} {cs : List Value} {x : DataW H × List MemPlace} (h : DataW.trod enc Try.prog w base spare held fuel 32 cs = some x) : ∃ A n c, cs = [.slice A n c] := by
  rcases open_slice Try.underlying32 h with ⟨hcs, _⟩ | ⟨a, len, cap, m, n, D, Pl, hcs, _⟩
  · exact ⟨_, _, _, hcs⟩
  · exact ⟨_, _, _, hcs⟩
set_option maxRecDepth 100000 in
theorem reads_el {fuel : Nat} {cs : List Value} {x : DataW H × List MemPlace} (h : DataW.trod enc Try.prog w base spare held fuel 33 cs = some x) (hw : Light Try.prog 33 x.1) : ∃ A n c l, cs = [.slice A n c] ∧ RdSl w w.heap.size A n c l ∧ n * 40 ≤ reachBytes := by
  obtain ⟨A, n, c, l, h1, h2, h3⟩ := open_cells (r := Rep.flat rdEnc) (k := 5) Try.underlying33 (by kernel_rfl) (by decide) (fun _ _ _ ht _ => flat_el (d := 4) rdDec (by kernel_rfl) (by kernel_rfl) rdDec_enc ht) h hw
  exact ⟨A, n, c, l, h1, h2, by rwa [show Try.prog.bytesOf 47 = 40 by kernel_rfl] at h3⟩
set_option maxRecDepth 100000 in
theorem spans_el {fuel : Nat} {cs : List Value} {x : DataW H × List MemPlace} (h : DataW.trod enc Try.prog w base spare held fuel 61 cs = some x) (hw : Light Try.prog 61 x.1) : ∃ A n c l, cs = [.slice A n c] ∧ Rows 2 (Rep.flat pEnc) w w.heap.size A n c l := by
  obtain ⟨A, n, c, l, h1, h2, _⟩ := open_cells (r := Rep.flat pEnc) (k := 2) Try.underlying61 (by kernel_rfl) (by decide) (fun _ _ _ ht _ => flat_el (d := 3) spDec (by kernel_rfl) (by kernel_rfl) spDec_enc ht) h hw
  exact ⟨A, n, c, l, h1, h2⟩
set_option maxRecDepth 100000 in
theorem links_el {fuel : Nat} {cs : List Value} {x : DataW H × List MemPlace} (h : DataW.trod enc Try.prog w base spare held fuel 26 cs = some x) (hw : Light Try.prog 26 x.1) : ∃ A n c l, cs = [.slice A n c] ∧ lSl w w.heap.size A n c l := by
  obtain ⟨A, n, c, l, h1, h2, _⟩ := open_cells (r := Rep.flat lEnc) (k := 6) Try.underlying26 (by kernel_rfl) (by decide) (fun _ _ _ ht _ => flat_el (d := 5) lDec (by kernel_rfl) (by kernel_rfl) lDec_enc ht) h hw
  exact ⟨A, n, c, l, h1, h2⟩

/-- A decision whose reads are no more than memory holds. -/
def deRepB : Rep De := fun W n₀ x cs => deRep W n₀ x cs ∧ x.1.rn * 40 ≤ reachBytes
set_option maxRecDepth 100000 in
theorem de_el {fuel : Nat} {cs : List Value} {x : DataW H × List MemPlace} (h : DataW.trod enc Try.prog w base spare held fuel 35 cs = some x) (hw : Light Try.prog 35 x.1) : ∃ d : De, deRepB w w.heap.size d cs := by
  obtain ⟨xs, n, rfl, rfl, hlen, hxl, hf⟩ := DataW.trod_struct Try.underlying35 h
  have hl10 : cs.length = 10 := hlen.trans (by kernel_rfl)
  have hx7 : xs.length = 7 := hxl.trans (by kernel_rfl)
  have q33 : Try.prog.cellsOf 31 = 4 := by kernel_rfl
  have q3 : Try.prog.cellsOf 3 = 1 := by kernel_rfl
  have qi : Try.prog.cellsOf 32 = 1 := by kernel_rfl
  have qr : Try.prog.cellsOf 33 = 1 := by kernel_rfl
  obtain ⟨c0, c1, c2, c3, c4, c5, c6, c7, c8, c9, rfl⟩ := len10 hl10
  obtain ⟨x0, x1, x2, x3, x4, x5, x6, rfl⟩ := len7 hx7
  have h0 : DataW.trod enc Try.prog w base spare held n 31 (List.take (Try.prog.cellsOf 31) [c0, c1, c2, c3, c4, c5, c6, c7, c8, c9]) = some x0 := hf 0 _ rfl
  rw [q33] at h0
  have h1 : DataW.trod enc Try.prog w base spare held n 3 (List.take (Try.prog.cellsOf 3) [c4, c5, c6, c7, c8, c9]) = some x1 := hf 1 _ rfl
  rw [q3] at h1
  have h2 : DataW.trod enc Try.prog w base spare held n 3 (List.take (Try.prog.cellsOf 3) [c5, c6, c7, c8, c9]) = some x2 := hf 2 _ rfl
  rw [q3] at h2
  have h3 : DataW.trod enc Try.prog w base spare held n 3 (List.take (Try.prog.cellsOf 3) [c6, c7, c8, c9]) = some x3 := hf 3 _ rfl
  rw [q3] at h3
  have h4 : DataW.trod enc Try.prog w base spare held n 32 (List.take (Try.prog.cellsOf 32) [c7, c8, c9]) = some x4 := hf 4 _ rfl
  rw [qi] at h4
  have h5 : DataW.trod enc Try.prog w base spare held n 33 (List.take (Try.prog.cellsOf 33) [c8, c9]) = some x5 := hf 5 _ rfl
  rw [qr] at h5
  have h6 : DataW.trod enc Try.prog w base spare held n 32 (List.take (Try.prog.cellsOf 32) [c9]) = some x6 := hf 6 _ rfl
  rw [qi] at h6
  simp only [List.take_succ_cons, List.take_zero] at h0 h1 h2 h3 h4 h5 h6
  have l5 : Light Try.prog 33 x5.1 := light_field (j := 5) Try.underlying35 hw rfl rfl
  obtain ⟨_, hints⟩ := flat_cells 4 31 n _ _ (by kernel_rfl) h0
  obtain ⟨z0, rfl, _⟩ := hints c0 (by simp)
  obtain ⟨z1, rfl, _⟩ := hints c1 (by simp)
  obtain ⟨z2, rfl, _⟩ := hints c2 (by simp)
  obtain ⟨z3, rfl, _⟩ := hints c3 (by simp)
  obtain ⟨z4, e4⟩ := int_el h1
  obtain ⟨z5, e5⟩ := int_el h2
  obtain ⟨z6, e6⟩ := int_el h3
  obtain ⟨A7, n7, c7', e7⟩ := ints_el h4
  obtain ⟨A8, n8, c8', l8, e8, r8, b8⟩ := reads_el h5 l5
  obtain ⟨A9, n9, c9', e9⟩ := ints_el h6
  simp only [List.cons.injEq, and_true] at e4 e5 e6 e7 e8 e9
  subst e4 e5 e6 e7 e8 e9
  exact ⟨(⟨z0, z1, z2, z3, z4, z5, z6, A7, n7, c7', A8, n8, c8', A9, n9, c9'⟩, l8), ⟨rfl, r8⟩, b8⟩
/-- A change, raw and read. -/
def crRep : Rep (Cr × List (Int × Int)) := fun W n₀ x cs => cs = cEnc x.1 ∧ Rows 2 (Rep.flat pEnc) W n₀ x.1.2.1 x.1.2.2.1 x.1.2.2.2 x.2
set_option maxRecDepth 100000 in
theorem cr_el {fuel : Nat} {cs : List Value} {x : DataW H × List MemPlace} (h : DataW.trod enc Try.prog w base spare held fuel 63 cs = some x) (hw : Light Try.prog 63 x.1) : ∃ d, crRep w w.heap.size d cs := by
  obtain ⟨xs, n, rfl, rfl, hlen, hxl, hf⟩ := DataW.trod_struct Try.underlying63 h
  have hl4 : cs.length = 4 := hlen.trans (by kernel_rfl)
  have hx2 : xs.length = 2 := hxl.trans (by kernel_rfl)
  have q45 : Try.prog.cellsOf 45 = 3 := by kernel_rfl
  have qs : Try.prog.cellsOf 61 = 1 := by kernel_rfl
  obtain ⟨c0, c1, c2, c3, rfl⟩ := len4 hl4
  obtain ⟨x0, x1, rfl⟩ := len2 hx2
  have h0 : DataW.trod enc Try.prog w base spare held n 45 (List.take (Try.prog.cellsOf 45) [c0, c1, c2, c3]) = some x0 := hf 0 _ rfl
  rw [q45] at h0
  have h1 : DataW.trod enc Try.prog w base spare held n 61 (List.take (Try.prog.cellsOf 61) [c3]) = some x1 := hf 1 _ rfl
  rw [qs] at h1
  simp only [List.take_succ_cons, List.take_zero] at h0 h1
  have l1 : Light Try.prog 61 x1.1 := light_field (j := 1) Try.underlying63 hw rfl rfl
  obtain ⟨_, hints⟩ := flat_cells 4 45 n _ _ (by kernel_rfl) h0
  obtain ⟨z0, rfl, _⟩ := hints c0 (by simp)
  obtain ⟨z1, rfl, _⟩ := hints c1 (by simp)
  obtain ⟨z2, rfl, _⟩ := hints c2 (by simp)
  obtain ⟨A3, n3, c3', l3, e3, r3⟩ := spans_el h1 l1
  simp only [List.cons.injEq, and_true] at e3
  subst e3
  exact ⟨((⟨z0, z1, z2⟩, A3, n3, c3'), l3), rfl, r3⟩
theorem changes_of {A : Option Addr} {n c : Nat} {l : List (Cr × List (Int × Int))} (h : Rows 4 crRep w w.heap.size A n c l) : cSl w w.heap.size A n c (l.map (·.1)) ∧ ChOks w (l.map (·.1)) (l.map fun x => (x.1.1, x.2)) := by
  refine ⟨⟨by simp [h.1], h.2.1, h.2.2.1, fun hn => ?_⟩, by simp, fun i r ch h1 h2 => ?_⟩
  · obtain ⟨b, off, e, hlt, hx⟩ := h.2.2.2 hn
    refine ⟨b, off, e, hlt, fun i x hi => ?_⟩
    rw [List.getElem?_map] at hi
    cases hl : l[i]? with
    | none => rw [hl] at hi; cases hi
    | some y =>
      rw [hl] at hi
      simp at hi
      subst hi
      obtain ⟨cs, ⟨rfl, _⟩, h2⟩ := hx i y hl
      exact ⟨_, rfl, h2⟩
  · rw [List.getElem?_map] at h1 h2
    cases hl : l[i]? with
    | none => rw [hl] at h1; cases h1
    | some y =>
      rw [hl] at h1 h2
      simp at h1 h2
      subst h1 h2
      have hn : 0 < n := by
        have := (List.getElem?_eq_some_iff.1 hl).1
        rw [h.1]; omega
      obtain ⟨b, off, e, hlt, hx⟩ := h.2.2.2 hn
      obtain ⟨cs, ⟨_, hr⟩, _⟩ := hx i y hl
      exact ⟨rfl, hr⟩
set_option maxRecDepth 100000 in
theorem open_decisions {b0 : Nat} {rr : Reach} {v : Value} {dt : DataW H} {pl : List MemPlace} (hv : Value.okWide Try.prog w rr b0 22 v) (h : DataW.Trod enc Try.prog w base spare held 22 v dt pl) (hw : Light Try.prog 22 dt) :
    ∃ A n c l, v = .slice A n c ∧ deSl w w.heap.size A n c l ∧ (∀ x ∈ l, x.1.rn * 40 ≤ reachBytes) ∧ n * 128 ≤ reachBytes := by
  obtain ⟨A, n, c, l, h1, h2, h3⟩ := open_arg (r := deRepB) (k := 10) Try.underlying22 (by kernel_rfl) (by decide) (fun _ _ _ ht hl => de_el ht hl) hv h hw
  refine ⟨A, n, c, l, h1, ⟨h2.1, h2.2.1, h2.2.2.1, fun hn => ?_⟩, fun x hx => ?_, by rwa [show Try.prog.bytesOf 35 = 128 by kernel_rfl] at h3⟩
  · obtain ⟨b, off, e, hlt, hx⟩ := h2.2.2.2 hn
    exact ⟨b, off, e, hlt, fun i x hi => by obtain ⟨cs, ⟨q1, _⟩, q2⟩ := hx i x hi; exact ⟨cs, q1, q2⟩⟩
  · obtain ⟨i, hi⟩ := List.mem_iff_getElem?.1 hx
    have hn : 0 < n := by
      have := (List.getElem?_eq_some_iff.1 hi).1
      rw [h2.1]; omega
    obtain ⟨b, off, e, hlt, hx'⟩ := h2.2.2.2 hn
    obtain ⟨cs, ⟨_, q⟩, _⟩ := hx' i x hi
    exact q
set_option maxRecDepth 100000 in
theorem open_decision {b0 : Nat} {rr : Reach} {v : Value} {dt : DataW H} {pl : List MemPlace} (hv : Value.okWide Try.prog w rr b0 35 v) (h : DataW.Trod enc Try.prog w base spare held 35 v dt pl) (hw : Light Try.prog 35 dt) :
    ∃ d : De, v = .agg d.1.enc.toArray ∧ RdSl w w.heap.size d.1.rA d.1.rn d.1.rc d.2 := by
  obtain ⟨cs, rfl, hs⟩ := okWide_struct Try.underlying35 hv
  obtain ⟨fuel, hf⟩ := h
  obtain ⟨d, ⟨h1, h2⟩, _⟩ := de_el hf hw
  simp only [Value.cells] at h1
  exact ⟨d, by rw [← h1], h2⟩
set_option maxRecDepth 100000 in
theorem open_changes {b0 : Nat} {rr : Reach} {v : Value} {dt : DataW H} {pl : List MemPlace} (hv : Value.okWide Try.prog w rr b0 41 v) (h : DataW.Trod enc Try.prog w base spare held 41 v dt pl) (hw : Light Try.prog 41 dt) :
    ∃ A n c raw cs, v = .slice A n c ∧ cSl w w.heap.size A n c raw ∧ ChOks w raw cs := by
  obtain ⟨A, n, c, l, h1, h2, _⟩ := open_arg (r := crRep) (k := 4) Try.underlying41 (by kernel_rfl) (by decide) (fun _ _ _ ht hl => cr_el ht hl) hv h hw
  obtain ⟨q1, q2⟩ := changes_of h2
  exact ⟨A, n, c, _, _, h1, q1, q2⟩
set_option maxRecDepth 100000 in
theorem open_index {b0 : Nat} {rr : Reach} {v : Value} {dt : DataW H} {pl : List MemPlace} (hv : Value.okWide Try.prog w rr b0 28 v) (h : DataW.Trod enc Try.prog w base spare held 28 v dt pl) (hw : Light Try.prog 28 dt) :
    ∃ A n c l, v = .agg #[.slice A n c] ∧ lSl w w.heap.size A n c l := by
  obtain ⟨cs, rfl, hs⟩ := okWide_struct Try.underlying28 hv
  obtain ⟨fuel, hf⟩ := h
  obtain ⟨xs, n, rfl, hx, hlen, hxl, hf'⟩ := DataW.trod_struct Try.underlying28 hf
  simp only [Prod.mk.injEq] at hx
  obtain ⟨rfl, rfl⟩ := hx
  have hl1 : cs.toList.length = 1 := hlen.trans (by kernel_rfl)
  have hx1 : xs.length = 1 := hxl.trans (by kernel_rfl)
  have q26 : Try.prog.cellsOf 26 = 1 := by kernel_rfl
  obtain ⟨cl⟩ := cs
  obtain ⟨c0, hc0⟩ := len1 hl1
  simp only at hc0
  subst hc0
  obtain ⟨x0, rfl⟩ := len1 hx1
  have h0 : DataW.trod enc Try.prog w base spare held n 26 (List.take (Try.prog.cellsOf 26) [c0]) = some x0 := hf' 0 _ rfl
  rw [q26] at h0
  simp only [List.take_succ_cons, List.take_zero] at h0
  obtain ⟨A, n, c, l, e, r⟩ := links_el h0 (light_field (j := 0) Try.underlying28 hw rfl rfl)
  simp only [List.cons.injEq, and_true] at e
  subst e
  exact ⟨A, n, c, l, rfl, r⟩
end
end Go.Proofs.Ytologegkbcedhaa
