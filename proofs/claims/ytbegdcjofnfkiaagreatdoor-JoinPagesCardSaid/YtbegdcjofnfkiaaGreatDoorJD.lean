import Derived.Test.YtbegdcjofnfkiaaGreatDoorJ6
import Derived.Test.YtbegdcjofnfkiaaGreatDoorQ7
import Derived.Test.YtbegdcjofnfkiaaGreatDoorQ25
import Derived.LaidMore
import Derived.LaidSub
import Derived.ProofKit
namespace Go.Proofs.YtbegdcjofnfkiaaGreatDoor
open Go.RowKit Go.ChangeShapes Go.WideShapes Go.Deep
theorem Tryz.own : ownKnob Tryz.prog.godebug = none := by kernel_rfl
theorem Tryz.laidOut : laidOutB Tryz.prog = true := by kernel_rfl
theorem fourJ {α : Type} {l : List α} (h : l.length = 4) : ∃ a b c d, l = [a, b, c, d] := by
 match l, h with
 | [a, b, c, d], _ => exact ⟨a, b, c, d, rfl⟩
theorem twoJ {α : Type} {l : List α} (h : l.length = 2) : ∃ a b, l = [a, b] := by
 match l, h with
 | [a, b], _ => exact ⟨a, b, rfl⟩
theorem threeJ {α : Type} {l : List α} (h : l.length = 3) : ∃ a b c, l = [a, b, c] := by
 match l, h with
 | [a, b, c], _ => exact ⟨a, b, c, rfl⟩
theorem fiveJ {α : Type} {l : List α} (h : l.length = 5) : ∃ a b c d e, l = [a, b, c, d, e] := by
 match l, h with
 | [a, b, c, d, e], _ => exact ⟨a, b, c, d, e, rfl⟩
theorem sixJ {α : Type} {l : List α} (h : l.length = 6) : ∃ a b c d e f, l = [a, b, c, d, e, f] := by
 match l, h with
 | [a, b, c, d, e, f], _ => exact ⟨a, b, c, d, e, f, rfl⟩
theorem nineJ {α : Type} {l : List α} (h : l.length = 9) : ∃ a b c d e f g i j, l = [a, b, c, d, e, f, g, i, j] := by
 match l, h with
 | [a, b, c, d, e, f, g, i, j], _ => exact ⟨a, b, c, d, e, f, g, i, j, rfl⟩
section
variable {H : Type} {enc : TypeId × Value → H} {w : World} {base : Nat} {spare : Nat → Bool} {held : Bool}
theorem int_elJ {fuel : Nat} {cs : List Value} {x : DataW H × List MemPlace} (h : DataW.trod enc Tryz.prog w base spare held fuel 3 cs = some x) : ∃ z : Int, cs = [.int .i64 z] := by
 obtain ⟨hl, hints⟩ := flat_cells 4 3 fuel cs x (by kernel_rfl) h
 obtain ⟨zs, rfl, _⟩ := ints_of cs hints
 have h1 : zs.length = 1 := by simpa using hl.trans (by kernel_rfl)
 match zs, h1 with
 | [z], _ => exact ⟨z, rfl⟩
set_option maxRecDepth 100000 in
theorem arg_elJ {fuel : Nat} {cs : List Value} {x : DataW H × List MemPlace} (h : DataW.trod enc Tryz.prog w base spare held fuel 62 cs = some x) : ∃ a : Ar, cs = arEnc a := by
 obtain ⟨xs, n, rfl, hx, hlen, hxl, hf⟩ := DataW.trod_struct Tryz.underlying62 h
 have hl2 : cs.length = 2 := hlen.trans (by kernel_rfl)
 have hx2 : xs.length = 2 := hxl.trans (by kernel_rfl)
 obtain ⟨c0, c1, rfl⟩ := twoJ hl2
 obtain ⟨x0, x1, rfl⟩ := twoJ hx2
 have zi : Tryz.prog.cellsOf 3 = 1 := by kernel_rfl
 have zb : Tryz.prog.cellsOf 4 = 1 := by kernel_rfl
 have h0 : DataW.trod enc Tryz.prog w base spare held n 4 (List.take (Tryz.prog.cellsOf 4) [c0, c1]) = some x0 := hf 0 _ rfl
 have h1 : DataW.trod enc Tryz.prog w base spare held n 3 (List.take (Tryz.prog.cellsOf 3) [c1]) = some x1 := hf 1 _ rfl
 rw [zb] at h0
 rw [zi] at h1
 simp only [List.take_succ_cons, List.take_zero] at h0 h1
 obtain ⟨b, e0, _⟩ := DataW.trod_bool Tryz.underlying4 h0
 obtain ⟨z, e1⟩ := int_elJ h1
 simp only [List.cons.injEq, and_true] at e0 e1
 subst e0 e1
 exact ⟨⟨b, z⟩, rfl⟩
set_option maxRecDepth 100000 in
theorem am_elJ {fuel : Nat} {cs : List Value} {x : DataW H × List MemPlace} (h : DataW.trod enc Tryz.prog w base spare held fuel 64 cs = some x) : ∃ a : Am, Rep.flat amEnc w w.heap.size a cs := by
 obtain ⟨xs, n, rfl, hx, hlen, hxl, hf⟩ := DataW.trod_struct Tryz.underlying64 h
 have hl9 : cs.length = 9 := hlen.trans (by kernel_rfl)
 have hx6 : xs.length = 6 := hxl.trans (by kernel_rfl)
 obtain ⟨c0, c1, c2, c3, c4, c5, c6, c7, c8, rfl⟩ := nineJ hl9
 obtain ⟨x0, x1, x2, x3, x4, x5, rfl⟩ := sixJ hx6
 have zi : Tryz.prog.cellsOf 3 = 1 := by kernel_rfl
 have za : Tryz.prog.cellsOf 62 = 2 := by kernel_rfl
 have h0 : DataW.trod enc Tryz.prog w base spare held n 3 (List.take (Tryz.prog.cellsOf 3) [c0, c1, c2, c3, c4, c5, c6, c7, c8]) = some x0 := hf 0 _ rfl
 have h1 : DataW.trod enc Tryz.prog w base spare held n 62 (List.take (Tryz.prog.cellsOf 62) [c1, c2, c3, c4, c5, c6, c7, c8]) = some x1 := hf 1 _ rfl
 have h2 : DataW.trod enc Tryz.prog w base spare held n 62 (List.take (Tryz.prog.cellsOf 62) [c3, c4, c5, c6, c7, c8]) = some x2 := hf 2 _ rfl
 have h3 : DataW.trod enc Tryz.prog w base spare held n 62 (List.take (Tryz.prog.cellsOf 62) [c5, c6, c7, c8]) = some x3 := hf 3 _ rfl
 have h4 : DataW.trod enc Tryz.prog w base spare held n 3 (List.take (Tryz.prog.cellsOf 3) [c7, c8]) = some x4 := hf 4 _ rfl
 have h5 : DataW.trod enc Tryz.prog w base spare held n 3 (List.take (Tryz.prog.cellsOf 3) [c8]) = some x5 := hf 5 _ rfl
 rw [zi] at h0 h4 h5
 rw [za] at h1 h2 h3
 simp only [List.take_succ_cons, List.take_zero] at h0 h1 h2 h3 h4 h5
 obtain ⟨z0, e0⟩ := int_elJ h0
 obtain ⟨a1, e1⟩ := arg_elJ h1
 obtain ⟨a2, e2⟩ := arg_elJ h2
 obtain ⟨a3, e3⟩ := arg_elJ h3
 obtain ⟨z4, e4⟩ := int_elJ h4
 obtain ⟨z5, e5⟩ := int_elJ h5
 simp only [arEnc, List.cons.injEq, and_true] at e0 e1 e2 e3 e4 e5
 obtain ⟨rfl, rfl⟩ := e1
 obtain ⟨rfl, rfl⟩ := e2
 obtain ⟨rfl, rfl⟩ := e3
 subst e0 e4 e5
 exact ⟨⟨z0, a1, a2, a3, z4, z5⟩, rfl⟩
set_option maxRecDepth 100000 in
theorem te_elJ {fuel : Nat} {cs : List Value} {x : DataW H × List MemPlace} (h : DataW.trod enc Tryz.prog w base spare held fuel 67 cs = some x) : ∃ a : Te, Rep.flat teEnc w w.heap.size a cs := by
 obtain ⟨xs, n, rfl, hx, hlen, hxl, hf⟩ := DataW.trod_struct Tryz.underlying67 h
 have hl5 : cs.length = 5 := hlen.trans (by kernel_rfl)
 have hx3 : xs.length = 3 := hxl.trans (by kernel_rfl)
 obtain ⟨c0, c1, c2, c3, c4, rfl⟩ := fiveJ hl5
 obtain ⟨x0, x1, x2, rfl⟩ := threeJ hx3
 have zi : Tryz.prog.cellsOf 3 = 1 := by kernel_rfl
 have za : Tryz.prog.cellsOf 62 = 2 := by kernel_rfl
 have h0 : DataW.trod enc Tryz.prog w base spare held n 3 (List.take (Tryz.prog.cellsOf 3) [c0, c1, c2, c3, c4]) = some x0 := hf 0 _ rfl
 have h1 : DataW.trod enc Tryz.prog w base spare held n 62 (List.take (Tryz.prog.cellsOf 62) [c1, c2, c3, c4]) = some x1 := hf 1 _ rfl
 have h2 : DataW.trod enc Tryz.prog w base spare held n 62 (List.take (Tryz.prog.cellsOf 62) [c3, c4]) = some x2 := hf 2 _ rfl
 rw [zi] at h0
 rw [za] at h1 h2
 simp only [List.take_succ_cons, List.take_zero] at h0 h1 h2
 obtain ⟨z0, e0⟩ := int_elJ h0
 obtain ⟨a1, e1⟩ := arg_elJ h1
 obtain ⟨a2, e2⟩ := arg_elJ h2
 simp only [arEnc, List.cons.injEq, and_true] at e0 e1 e2
 obtain ⟨rfl, rfl⟩ := e1
 obtain ⟨rfl, rfl⟩ := e2
 subst e0
 exact ⟨⟨z0, a1, a2⟩, rfl⟩
set_option maxRecDepth 100000 in
theorem open_query {b0 : Nat} {rr : Reach} {v : Value} {dt : DataW H} {pl : List MemPlace} (hv : Value.okWide Tryz.prog w rr b0 27 v) (h : DataW.Trod enc Tryz.prog w base spare held 27 v dt pl) (hw : Light Tryz.prog 27 dt) :
  ∃ q : Qu, v = .agg #[.slice q.nA q.nn q.nc, .slice q.sA q.sn q.sc, .slice q.aA q.an q.ac, .slice q.tA q.tn q.tc] ∧ QuIn q w w.heap.size := by
 obtain ⟨cs, rfl, hs⟩ := okWide_struct Tryz.underlying27 hv
 obtain ⟨fuel, hf⟩ := h
 obtain ⟨xs, n, rfl, hx, hlen, hxl, hf'⟩ := DataW.trod_struct Tryz.underlying27 hf
 simp only [Prod.mk.injEq] at hx
 obtain ⟨rfl, rfl⟩ := hx
 have hl4 : cs.toList.length = 4 := hlen.trans (by kernel_rfl)
 have hx4 : xs.length = 4 := hxl.trans (by kernel_rfl)
 obtain ⟨cl⟩ := cs
 obtain ⟨c0, c1, c2, c3, hc⟩ := fourJ hl4
 simp only at hc
 subst hc
 obtain ⟨x0, x1, x2, x3, rfl⟩ := fourJ hx4
 have z0 : Tryz.prog.cellsOf 22 = 1 := by kernel_rfl
 have z1 : Tryz.prog.cellsOf 23 = 1 := by kernel_rfl
 have z2 : Tryz.prog.cellsOf 24 = 1 := by kernel_rfl
 have z3 : Tryz.prog.cellsOf 25 = 1 := by kernel_rfl
 have h0 : DataW.trod enc Tryz.prog w base spare held n 22 (List.take (Tryz.prog.cellsOf 22) [c0, c1, c2, c3]) = some x0 := hf' 0 _ rfl
 have h1 : DataW.trod enc Tryz.prog w base spare held n 23 (List.take (Tryz.prog.cellsOf 23) [c1, c2, c3]) = some x1 := hf' 1 _ rfl
 have h2 : DataW.trod enc Tryz.prog w base spare held n 24 (List.take (Tryz.prog.cellsOf 24) [c2, c3]) = some x2 := hf' 2 _ rfl
 have h3 : DataW.trod enc Tryz.prog w base spare held n 25 (List.take (Tryz.prog.cellsOf 25) [c3]) = some x3 := hf' 3 _ rfl
 rw [z0] at h0
 rw [z1] at h1
 rw [z2] at h2
 rw [z3] at h3
 simp only [List.take_succ_cons, List.take_zero] at h0 h1 h2 h3
 obtain ⟨A0, n0, c0', l0, e0, r0, _⟩ := open_cells (r := Rep.flat sEnc) (k := 1) Tryz.underlying22 (by kernel_rfl) (by decide) (fun _ _ _ ht _ => by obtain ⟨s, hs, _⟩ := DataW.trod_string Tryz.underlying9 ht; exact ⟨s, hs.symm ▸ rfl⟩) h0 (light_field (j := 0) Tryz.underlying27 hw rfl rfl)
 obtain ⟨A1, n1, c1', l1, e1, r1, _⟩ := open_cells (r := Rep.flat iEnc) (k := 1) Tryz.underlying23 (by kernel_rfl) (by decide) (fun _ _ _ ht _ => by obtain ⟨s, hs⟩ := int_elJ ht; exact ⟨s, hs.symm ▸ rfl⟩) h1 (light_field (j := 1) Tryz.underlying27 hw rfl rfl)
 obtain ⟨A2, n2, c2', l2, e2, r2, _⟩ := open_cells (r := Rep.flat amEnc) (k := 9) Tryz.underlying24 (by kernel_rfl) (by decide) (fun _ _ _ ht _ => am_elJ ht) h2 (light_field (j := 2) Tryz.underlying27 hw rfl rfl)
 obtain ⟨A3, n3, c3', l3, e3, r3, _⟩ := open_cells (r := Rep.flat teEnc) (k := 5) Tryz.underlying25 (by kernel_rfl) (by decide) (fun _ _ _ ht _ => te_elJ ht) h3 (light_field (j := 3) Tryz.underlying27 hw rfl rfl)
 simp only [List.cons.injEq, and_true] at e0 e1 e2 e3
 subst e0 e1 e2 e3
 exact ⟨⟨A0, n0, c0', l0, A1, n1, c1', l1, A2, n2, c2', l2, A3, n3, c3', l3⟩, rfl, r0, r1, r2, r3⟩
end
theorem gWords : Tryz.prog.globalNamed "sizar/query.kindWords" = some 0 := by kernel_rfl
theorem tWords : (Tryz.prog.globals[0]?).map (·.type) = some 22 := by kernel_rfl
set_option maxRecDepth 100000 in
set_option maxHeartbeats 4000000 in
theorem words_of_laid {W : World} (h : laidMetH Tryz.prog [("sizar/query.kindWords", Rows.laid_sizar_query_kindWords)] W) : WordsAt W := by
  have h1 : laidMet Tryz.prog [("sizar/query.kindWords", Rows.laid_sizar_query_kindWords)] W := (laidMetH_iff.1 h).1
  obtain ⟨ps, ⟨g, t, cs, fuel, p, q, hg, ht, hv, hd, hr, hps⟩, hnd, hrows⟩ := h1
  obtain rfl := Option.some.inj (gWords.symm.trans hg)
  obtain rfl := Option.some.inj (tWords.symm.trans ht)
  have hh : ∃ t fr, W.heap[0]? = some (.cells cs t fr) := by
    unfold World.var? at hv
    rw [gWords] at hv
    simp only [Option.bind_some] at hv
    split at hv
    · rename_i cs' t' fr' ho
      have := Option.some.inj hv
      subst this
      exact ⟨t', fr', ho⟩
    · cases hv
  obtain ⟨ty, fr, hh⟩ := hh
  rcases open_slice1 Tryz.underlying22 (by kernel_rfl) hd with ⟨_, hx⟩ | ⟨a, len, cap, m, n, V, D, Pl, hcs, hb, hl, hm, hmm, hx, hc⟩
  · simp [Rows.laid_sizar_query_kindWords] at hx
  · simp only [if_true] at hmm
    subst hmm
    simp only [Rows.laid_sizar_query_kindWords, Prod.mk.injEq, DataW.slice.injEq] at hx
    obtain ⟨⟨hx1, hx2⟩, _⟩ := hx
    have hlen : len = 12 := by have := congrArg List.length hx1; simpa using this.symm
    subst hlen
    obtain ⟨b, off, sp⟩ := a
    have hel : ∀ i, i < 12 → ∃ s : ByteArray, wordsJ[i]? = some s ∧ W.cell? ((⟨b, off, sp⟩ : Addr).add i) = some (.string s) := by
      intro i hi
      obtain ⟨h2, h3⟩ := hc i (by omega)
      obtain ⟨s, hs, hds, _⟩ := DataW.trod_string Tryz.underlying9 h3
      have hV : V i = .string s := by simpa using hs
      have hDi : (List.map D (List.range 12))[i]? = some (.lit (.string s.data.toList)) := by
        rw [List.getElem?_map, List.getElem?_range hi]
        simp only [Option.map_some]
        have := congrArg Prod.fst hds
        simpa using this
      rw [← hx1] at hDi
      refine ⟨s, ?_, by rw [← hV]; exact h2⟩
      have hi2 : i = 0 ∨ i = 1 ∨ i = 2 ∨ i = 3 ∨ i = 4 ∨ i = 5 ∨ i = 6 ∨ i = 7 ∨ i = 8 ∨ i = 9 ∨ i = 10 ∨ i = 11 := by omega
      have hsd : ∀ l : List UInt8, s.data.toList = l → s = ⟨l.toArray⟩ := fun l h => by obtain ⟨d⟩ := s; simp only at h; rw [← h, Array.toArray_toList]
      rcases hi2 with rfl | rfl | rfl | rfl | rfl | rfl | rfl | rfl | rfl | rfl | rfl | rfl <;>
        (simp only [List.getElem?_cons_zero, List.getElem?_cons_succ, Option.some.injEq, DataW.lit.injEq, Lit.string.injEq] at hDi
         rw [hsd _ hDi.symm]; rfl)
    obtain ⟨s0, _, hc0⟩ := hel 0 (by omega)
    have hsp : sp = none ∧ b < W.heap.size := by
      unfold World.cell? at hc0
      split at hc0
      · rename_i ho
        split at hc0
        · cases hc0
        · rename_i hs
          have h5 : ((⟨b, off, sp⟩ : Addr).add 0).spot = none := by simpa using hs
          exact ⟨h5, lt_of_heap ho⟩
      · cases hc0
    obtain ⟨rfl, hlt⟩ := hsp
    obtain ⟨cl⟩ := cs
    simp only at hcs
    subst hcs
    refine ⟨some ⟨b, off, none⟩, m, ty, fr, hh, rfl, hl, by unfold maxLen at hm; omega, fun _ => ⟨b, off, rfl, hlt, fun i x hx3 => ?_⟩⟩
    have hi : i < 12 := (List.getElem?_eq_some_iff.1 hx3).1
    obtain ⟨s, hs1, hs2⟩ := hel i hi
    rw [hs1] at hx3
    obtain rfl := Option.some.inj hx3
    refine ⟨sEnc s, rfl, fun j u hj => ?_⟩
    cases j with
    | zero =>
      simp [sEnc] at hj
      subst hj
      rw [addr_add] at hs2
      simpa using hs2
    | succ j => simp [sEnc] at hj
def fDecJ : List Int → Fc
 | [a, b, c, d, e, f, g, h] => ⟨⟨a, b, c⟩, d, e, f, g, h⟩
 | _ => default
theorem fDecJ_enc (z : List Int) (h : z.length = 8) : fEnc (fDecJ z) = z.map (.int .i64) := by
 match z, h with
 | [a, b, c, d, e, f, g, i], _ => rfl
set_option maxRecDepth 100000 in
theorem open_facts {H : Type} {enc : TypeId × Value → H} {w : World} {base : Nat} {spare : Nat → Bool} {held : Bool} {b0 : Nat} {rr : Reach} {v : Value} {dt : DataW H} {pl : List MemPlace} (hv : Value.okWide Tryz.prog w rr b0 28 v) (h : DataW.Trod enc Tryz.prog w base spare held 28 v dt pl) (hw : Light Tryz.prog 28 dt) :
  ∃ A n c l, v = .slice A n c ∧ fSl w w.heap.size A n c l ∧ n * 64 ≤ reachBytes := by
 obtain ⟨A, n, c, l, h1, h2, h3⟩ := open_arg (r := Rep.flat fEnc) (k := 8) (e := 54) Tryz.underlying28 (by kernel_rfl) (by decide) (fun _ _ _ ht _ => flat_el (d := 4) fDecJ (by kernel_rfl) (by kernel_rfl) fDecJ_enc ht) hv h hw
 rw [show Tryz.prog.bytesOf 54 = 64 by kernel_rfl] at h3
 exact ⟨A, n, c, l, h1, h2, h3⟩
end Go.Proofs.YtbegdcjofnfkiaaGreatDoor
