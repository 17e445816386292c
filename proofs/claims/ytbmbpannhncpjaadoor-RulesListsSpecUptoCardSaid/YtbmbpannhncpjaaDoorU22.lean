/- Rules and situations as arguments, opened; the table of kinds as it is laid (printed by tools/gen84.py). -/
import Derived.Test.YtbmbpannhncpjaaDoorU4
import Derived.Test.YtbmbpannhncpjaaDoorDoorR
import Derived.LaidMore
import Derived.ProofKit
namespace Go.Proofs.YtbmbpannhncpjaaDoor
open Go.RowKit Go.ChangeShapes Go.WideShapes Go.Deep

theorem Tryd.own : ownKnob Tryd.prog.godebug = none := by kernel_rfl
theorem Tryd.laidOut : laidOutB Tryd.prog = true := by kernel_rfl
theorem gKinds : Tryd.prog.globalNamed "sizar/rules.kinds" = some 0 := by kernel_rfl
theorem tKinds : (Tryd.prog.globals[0]?).map (·.type) = some 81 := by kernel_rfl
theorem nil_of_trod {P : Program} {w : World} {base : Nat} {sp : Nat → Bool} {fuel : Nat} {t : TypeId} {ps rs : Array TypeId} {va : Bool} {v : Value} {q : List MemPlace} (ht : P.underlying t = some (.func ps rs va))
    (h : DataW.trod (funcToken P) P w base sp true fuel t [v] = some (.nil, q)) : v = .nilFunc := by
  cases fuel with
  | zero => simp [DataW.trod] at h
  | succ n => cases v <;> simp [DataW.trod, ht] at h <;> rfl
theorem flatMap_congrU {α β : Type} {f g : α → List β} : ∀ {l : List α}, (∀ x ∈ l, f x = g x) → l.flatMap f = l.flatMap g
  | [], _ => rfl
  | x :: l, h => by
    rw [List.flatMap_cons, List.flatMap_cons, h x (by simp), flatMap_congrU fun y hy => h y (by simp [hy])]
theorem six {α : Type} {l : List α} (h : l.length = 6) : ∃ a b c d e f, l = [a, b, c, d, e, f] := by
  match l, h with
  | [a, b, c, d, e, f], _ => exact ⟨a, b, c, d, e, f, rfl⟩
theorem four {α : Type} {l : List α} (h : l.length = 4) : ∃ a b c d, l = [a, b, c, d] := by
  match l, h with
  | [a, b, c, d], _ => exact ⟨a, b, c, d, rfl⟩
theorem three {α : Type} {l : List α} (h : l.length = 3) : ∃ a b c, l = [a, b, c] := by
  match l, h with
  | [a, b, c], _ => exact ⟨a, b, c, rfl⟩
section
variable {W : World} {base : Nat} {sp : Nat → Bool}
set_option maxRecDepth 100000 in
theorem kind_fields {m : Nat} {cs : List Value} {d0 d1 d2 d3 d4 d5 : DataW (List UInt8)} {q : List MemPlace} (h : DataW.trod (funcToken Tryd.prog) Tryd.prog W base sp true m 80 cs = some (.agg [d0, d1, d2, d3, d4, d5], q)) :
    ∃ n c0 c1 c2 c3 c4 c5 q0 q1 q2 q3 q4 q5, cs = [c0, c1, c2, c3, c4, c5] ∧ DataW.trod (funcToken Tryd.prog) Tryd.prog W base sp true n 4 [c0] = some (d0, q0) ∧ DataW.trod (funcToken Tryd.prog) Tryd.prog W base sp true n 4 [c1] = some (d1, q1) ∧ DataW.trod (funcToken Tryd.prog) Tryd.prog W base sp true n 4 [c2] = some (d2, q2) ∧
      DataW.trod (funcToken Tryd.prog) Tryd.prog W base sp true n 4 [c3] = some (d3, q3) ∧ DataW.trod (funcToken Tryd.prog) Tryd.prog W base sp true n 31 [c4] = some (d4, q4) ∧ DataW.trod (funcToken Tryd.prog) Tryd.prog W base sp true n 78 [c5] = some (d5, q5) := by
  obtain ⟨xs, n, rfl, hx, hlen, hxl, hf⟩ := DataW.trod_struct Tryd.underlying80 h
  have hl6 : cs.length = 6 := hlen.trans (by kernel_rfl)
  have hx6 : xs.length = 6 := hxl.trans (by kernel_rfl)
  obtain ⟨c0, c1, c2, c3, c4, c5, rfl⟩ := six hl6
  obtain ⟨x0, x1, x2, x3, x4, x5, rfl⟩ := six hx6
  have z4 : Tryd.prog.cellsOf 4 = 1 := by kernel_rfl
  have zr : Tryd.prog.cellsOf 31 = 1 := by kernel_rfl
  have zh : Tryd.prog.cellsOf 78 = 1 := by kernel_rfl
  simp only [Prod.mk.injEq, DataW.agg.injEq, List.map_cons, List.map_nil, List.cons.injEq, and_true] at hx
  obtain ⟨⟨rfl, rfl, rfl, rfl, rfl, rfl⟩, _⟩ := hx
  have h0 : DataW.trod (funcToken Tryd.prog) Tryd.prog W base sp true n 4 (List.take (Tryd.prog.cellsOf 4) [c0, c1, c2, c3, c4, c5]) = some x0 := hf 0 _ rfl
  have h1 : DataW.trod (funcToken Tryd.prog) Tryd.prog W base sp true n 4 (List.take (Tryd.prog.cellsOf 4) [c1, c2, c3, c4, c5]) = some x1 := hf 1 _ rfl
  have h2 : DataW.trod (funcToken Tryd.prog) Tryd.prog W base sp true n 4 (List.take (Tryd.prog.cellsOf 4) [c2, c3, c4, c5]) = some x2 := hf 2 _ rfl
  have h3 : DataW.trod (funcToken Tryd.prog) Tryd.prog W base sp true n 4 (List.take (Tryd.prog.cellsOf 4) [c3, c4, c5]) = some x3 := hf 3 _ rfl
  have h4 : DataW.trod (funcToken Tryd.prog) Tryd.prog W base sp true n 31 (List.take (Tryd.prog.cellsOf 31) [c4, c5]) = some x4 := hf 4 _ rfl
  have h5 : DataW.trod (funcToken Tryd.prog) Tryd.prog W base sp true n 78 (List.take (Tryd.prog.cellsOf 78) [c5]) = some x5 := hf 5 _ rfl
  rw [z4] at h0 h1 h2 h3
  rw [zr] at h4
  rw [zh] at h5
  simp only [List.take_succ_cons, List.take_zero] at h0 h1 h2 h3 h4 h5
  exact ⟨n, c0, c1, c2, c3, c4, c5, x0.2, x1.2, x2.2, x3.2, x4.2, x5.2, rfl, h0, h1, h2, h3, h4, h5⟩
theorem bool_cell {n : Nat} {c : Value} {b : Bool} {q : List MemPlace} (h : DataW.trod (funcToken Tryd.prog) Tryd.prog W base sp true n 4 [c] = some (.lit (.bool b), q)) : c = .bool b := by
  obtain ⟨b', h1, h2⟩ := DataW.trod_bool Tryd.underlying4 h
  simp only [Prod.mk.injEq, DataW.lit.injEq, Lit.bool.injEq] at h2
  simp only [List.cons.injEq, and_true] at h1
  rw [h1, h2.1]
end

set_option maxRecDepth 100000 in
set_option maxHeartbeats 4000000 in
theorem kinds_of_laid {W : World} (h : laidMetH Tryd.prog [("sizar/rules.kinds", Rows.laid_sizar_rules_kinds)] W) : KindsAt W := by
  obtain ⟨g, t, cs, fuel, p, hg, ht, hv, hd⟩ := h.funcs (List.mem_singleton.2 rfl)
  obtain rfl := Option.some.inj (gKinds.symm.trans hg)
  obtain rfl := Option.some.inj (tKinds.symm.trans ht)
  have hd' : DataW.trod (funcToken Tryd.prog) Tryd.prog W 0 (fun _ => true) true fuel 81 cs.toList = some (.agg [.agg [.lit (.bool false), .lit (.bool false), .lit (.bool false), .lit (.bool false), .nil, .nil], .agg [.lit (.bool false), .lit (.bool false), .lit (.bool false), .lit (.bool true), .held [115, 105, 122, 97, 114, 47, 114, 117, 108, 101, 115, 46, 107, 105, 110, 100, 115, 36, 49], .held [115, 105, 122, 97, 114, 47, 114, 117, 108, 101, 115, 46, 107, 105, 110, 100, 115, 36, 50]], .agg [.lit (.bool false), .lit (.bool false), .lit (.bool false), .lit (.bool true), .held [115, 105, 122, 97, 114, 47, 114, 117, 108, 101, 115, 46, 107, 105, 110, 100, 115, 36, 51], .held [115, 105, 122, 97, 114, 47, 114, 117, 108, 101, 115, 46, 107, 105, 110, 100, 115, 36, 52]], .agg [.lit (.bool false), .lit (.bool true), .lit (.bool false), .lit (.bool true), .held [115, 105, 122, 97, 114, 47, 114, 117, 108, 101, 115, 46, 107, 105, 110, 100, 115, 36, 53], .held [115, 105, 122, 97, 114, 47, 114, 117, 108, 101, 115, 46, 107, 105, 110, 100, 115, 36, 54]], .agg [.lit (.bool false), .lit (.bool false), .lit (.bool false), .lit (.bool true), .held [115, 105, 122, 97, 114, 47, 114, 117, 108, 101, 115, 46, 107, 105, 110, 100, 115, 36, 55], .held [115, 105, 122, 97, 114, 47, 114, 117, 108, 101, 115, 46, 107, 105, 110, 100, 115, 36, 56]], .agg [.lit (.bool true), .lit (.bool true), .lit (.bool false), .lit (.bool false), .held [115, 105, 122, 97, 114, 47, 114, 117, 108, 101, 115, 46, 107, 105, 110, 100, 115, 36, 57], .held [115, 105, 122, 97, 114, 47, 114, 117, 108, 101, 115, 46, 107, 105, 110, 100, 115, 36, 49, 48]], .agg [.lit (.bool true), .lit (.bool true), .lit (.bool false), .lit (.bool false), .held [115, 105, 122, 97, 114, 47, 114, 117, 108, 101, 115, 46, 107, 105, 110, 100, 115, 36, 49, 49], .held [115, 105, 122, 97, 114, 47, 114, 117, 108, 101, 115, 46, 107, 105, 110, 100, 115, 36, 49, 50]], .agg [.lit (.bool false), .lit (.bool true), .lit (.bool false), .lit (.bool false), .held [115, 105, 122, 97, 114, 47, 114, 117, 108, 101, 115, 46, 107, 105, 110, 100, 115, 36, 49, 51], .held [115, 105, 122, 97, 114, 47, 114, 117, 108, 101, 115, 46, 107, 105, 110, 100, 115, 36, 49, 52]], .agg [.lit (.bool false), .lit (.bool true), .lit (.bool true), .lit (.bool false), .held [115, 105, 122, 97, 114, 47, 114, 117, 108, 101, 115, 46, 107, 105, 110, 100, 115, 36, 49, 53], .held [115, 105, 122, 97, 114, 47, 114, 117, 108, 101, 115, 46, 107, 105, 110, 100, 115, 36, 49, 54]], .agg [.lit (.bool true), .lit (.bool false), .lit (.bool false), .lit (.bool false), .held [115, 105, 122, 97, 114, 47, 114, 117, 108, 101, 115, 46, 99, 111, 117, 114, 115, 101], .held [115, 105, 122, 97, 114, 47, 114, 117, 108, 101, 115, 46, 107, 105, 110, 100, 115, 36, 49, 55]]], p) := hd
  obtain ⟨xs, m, rfl, hx, hlen, hxl, hf⟩ := DataW.trod_array Tryd.underlying81 hd'
  have z80 : Tryd.prog.cellsOf 80 = 6 := by kernel_rfl
  have hl60 : cs.toList.length = 60 := hlen.trans (by kernel_rfl)
  rw [z80] at hf
  simp only [Prod.mk.injEq, DataW.agg.injEq] at hx
  have hxi : ∀ (i : Nat) (d : DataW (List UInt8)), (xs.map (·.1))[i]? = some d → ∃ q, xs[i]? = some (d, q) := by
    intro i d hi
    rw [List.getElem?_map] at hi
    cases hq : xs[i]? with
    | none => rw [hq] at hi; cases hi
    | some y => rw [hq] at hi; simp at hi; exact ⟨y.2, by rw [← hi]⟩
  rw [← hx.1] at hxi
  obtain ⟨q0, e0⟩ := hxi 0 _ rfl
  have r0 := (hf 0 (by omega)).trans e0
  obtain ⟨n0, a00, a01, a02, a03, a04, a05, _, _, _, _, _, _, f0, p00, p01, p02, p03, p04, p05⟩ := kind_fields r0
  obtain rfl := bool_cell p00
  obtain rfl := bool_cell p01
  obtain rfl := bool_cell p02
  obtain rfl := bool_cell p03
  obtain rfl := nil_of_trod Tryd.underlying31 p04
  obtain rfl := nil_of_trod Tryd.underlying78 p05
  clear r0 p00 p01 p02 p03 p04 p05 e0
  obtain ⟨q1, e1⟩ := hxi 1 _ rfl
  have r1 := (hf 1 (by omega)).trans e1
  obtain ⟨n1, a10, a11, a12, a13, a14, a15, _, _, _, _, _, _, f1, p10, p11, p12, p13, p14, p15⟩ := kind_fields r1
  obtain rfl := bool_cell p10
  obtain rfl := bool_cell p11
  obtain rfl := bool_cell p12
  obtain rfl := bool_cell p13
  obtain rfl := func_of_trod (f0 := 119) Tryd.underlying31 (by kernel_rfl) p14
  obtain rfl := func_of_trod (f0 := 120) Tryd.underlying78 (by kernel_rfl) p15
  clear r1 p10 p11 p12 p13 p14 p15 e1
  obtain ⟨q2, e2⟩ := hxi 2 _ rfl
  have r2 := (hf 2 (by omega)).trans e2
  obtain ⟨n2, a20, a21, a22, a23, a24, a25, _, _, _, _, _, _, f2, p20, p21, p22, p23, p24, p25⟩ := kind_fields r2
  obtain rfl := bool_cell p20
  obtain rfl := bool_cell p21
  obtain rfl := bool_cell p22
  obtain rfl := bool_cell p23
  obtain rfl := func_of_trod (f0 := 121) Tryd.underlying31 (by kernel_rfl) p24
  obtain rfl := func_of_trod (f0 := 122) Tryd.underlying78 (by kernel_rfl) p25
  clear r2 p20 p21 p22 p23 p24 p25 e2
  obtain ⟨q3, e3⟩ := hxi 3 _ rfl
  have r3 := (hf 3 (by omega)).trans e3
  obtain ⟨n3, a30, a31, a32, a33, a34, a35, _, _, _, _, _, _, f3, p30, p31, p32, p33, p34, p35⟩ := kind_fields r3
  obtain rfl := bool_cell p30
  obtain rfl := bool_cell p31
  obtain rfl := bool_cell p32
  obtain rfl := bool_cell p33
  obtain rfl := func_of_trod (f0 := 123) Tryd.underlying31 (by kernel_rfl) p34
  obtain rfl := func_of_trod (f0 := 124) Tryd.underlying78 (by kernel_rfl) p35
  clear r3 p30 p31 p32 p33 p34 p35 e3
  obtain ⟨q4, e4⟩ := hxi 4 _ rfl
  have r4 := (hf 4 (by omega)).trans e4
  obtain ⟨n4, a40, a41, a42, a43, a44, a45, _, _, _, _, _, _, f4, p40, p41, p42, p43, p44, p45⟩ := kind_fields r4
  obtain rfl := bool_cell p40
  obtain rfl := bool_cell p41
  obtain rfl := bool_cell p42
  obtain rfl := bool_cell p43
  obtain rfl := func_of_trod (f0 := 125) Tryd.underlying31 (by kernel_rfl) p44
  obtain rfl := func_of_trod (f0 := 126) Tryd.underlying78 (by kernel_rfl) p45
  clear r4 p40 p41 p42 p43 p44 p45 e4
  obtain ⟨q5, e5⟩ := hxi 5 _ rfl
  have r5 := (hf 5 (by omega)).trans e5
  obtain ⟨n5, a50, a51, a52, a53, a54, a55, _, _, _, _, _, _, f5, p50, p51, p52, p53, p54, p55⟩ := kind_fields r5
  obtain rfl := bool_cell p50
  obtain rfl := bool_cell p51
  obtain rfl := bool_cell p52
  obtain rfl := bool_cell p53
  obtain rfl := func_of_trod (f0 := 127) Tryd.underlying31 (by kernel_rfl) p54
  obtain rfl := func_of_trod (f0 := 129) Tryd.underlying78 (by kernel_rfl) p55
  clear r5 p50 p51 p52 p53 p54 p55 e5
  obtain ⟨q6, e6⟩ := hxi 6 _ rfl
  have r6 := (hf 6 (by omega)).trans e6
  obtain ⟨n6, a60, a61, a62, a63, a64, a65, _, _, _, _, _, _, f6, p60, p61, p62, p63, p64, p65⟩ := kind_fields r6
  obtain rfl := bool_cell p60
  obtain rfl := bool_cell p61
  obtain rfl := bool_cell p62
  obtain rfl := bool_cell p63
  obtain rfl := func_of_trod (f0 := 131) Tryd.underlying31 (by kernel_rfl) p64
  obtain rfl := func_of_trod (f0 := 132) Tryd.underlying78 (by kernel_rfl) p65
  clear r6 p60 p61 p62 p63 p64 p65 e6
  obtain ⟨q7, e7⟩ := hxi 7 _ rfl
  have r7 := (hf 7 (by omega)).trans e7
  obtain ⟨n7, a70, a71, a72, a73, a74, a75, _, _, _, _, _, _, f7, p70, p71, p72, p73, p74, p75⟩ := kind_fields r7
  obtain rfl := bool_cell p70
  obtain rfl := bool_cell p71
  obtain rfl := bool_cell p72
  obtain rfl := bool_cell p73
  obtain rfl := func_of_trod (f0 := 133) Tryd.underlying31 (by kernel_rfl) p74
  obtain rfl := func_of_trod (f0 := 134) Tryd.underlying78 (by kernel_rfl) p75
  clear r7 p70 p71 p72 p73 p74 p75 e7
  obtain ⟨q8, e8⟩ := hxi 8 _ rfl
  have r8 := (hf 8 (by omega)).trans e8
  obtain ⟨n8, a80, a81, a82, a83, a84, a85, _, _, _, _, _, _, f8, p80, p81, p82, p83, p84, p85⟩ := kind_fields r8
  obtain rfl := bool_cell p80
  obtain rfl := bool_cell p81
  obtain rfl := bool_cell p82
  obtain rfl := bool_cell p83
  obtain rfl := func_of_trod (f0 := 135) Tryd.underlying31 (by kernel_rfl) p84
  obtain rfl := func_of_trod (f0 := 136) Tryd.underlying78 (by kernel_rfl) p85
  clear r8 p80 p81 p82 p83 p84 p85 e8
  obtain ⟨q9, e9⟩ := hxi 9 _ rfl
  have r9 := (hf 9 (by omega)).trans e9
  obtain ⟨n9, a90, a91, a92, a93, a94, a95, _, _, _, _, _, _, f9, p90, p91, p92, p93, p94, p95⟩ := kind_fields r9
  obtain rfl := bool_cell p90
  obtain rfl := bool_cell p91
  obtain rfl := bool_cell p92
  obtain rfl := bool_cell p93
  obtain rfl := func_of_trod (f0 := 128) Tryd.underlying31 (by kernel_rfl) p94
  obtain rfl := func_of_trod (f0 := 138) Tryd.underlying78 (by kernel_rfl) p95
  clear r9 p90 p91 p92 p93 p94 p95 e9
  have hcs : cs = kindsV := by
    have hsplit : ∀ (k : Nat) (l : List Value), l.length = 6 * k → l = (List.range k).flatMap fun i => (l.drop (i * 6)).take 6 := by
      intro k
      induction k with
      | zero => intro l hl; simp at hl; subst hl; rfl
      | succ k ih =>
        intro l hl
        have h1 := ih (l.take (6 * k)) (by simp; omega)
        rw [List.range_succ, List.flatMap_append]
        have h2 : (List.range k).flatMap (fun i => (l.drop (i * 6)).take 6) = l.take (6 * k) := by
          conv => rhs; rw [h1]
          refine flatMap_congrU fun i hi => ?_
          have hik := List.mem_range.1 hi
          rw [List.drop_take, List.take_take, Nat.min_eq_left (by omega)]
        rw [h2]
        simp only [List.flatMap_cons, List.flatMap_nil, List.append_nil]
        rw [List.take_of_length_le (i := 6) (by simp; omega), Nat.mul_comm k 6, List.take_append_drop]
    have := hsplit 10 cs.toList (by omega)
    simp only [show List.range 10 = [0, 1, 2, 3, 4, 5, 6, 7, 8, 9] from rfl, List.flatMap_cons, List.flatMap_nil, f0, f1, f2, f3, f4, f5, f6, f7, f8, f9] at this
    apply Array.ext'
    rw [this]
    rfl
  have hh : ∃ t fr, W.heap[0]? = some (.cells cs t fr) := by
    unfold World.var? at hv
    rw [gKinds] at hv
    simp only [Option.bind_some] at hv
    split at hv
    · rename_i cs' el fr he
      cases hv
      exact ⟨_, _, he⟩
    · cases hv
  obtain ⟨t, fr, hh⟩ := hh
  exact ⟨t, fr, by rw [hh, hcs]⟩

section
variable {H : Type} {enc : TypeId × Value → H} {P : Program} {w : World} {base : Nat} {spare : Nat → Bool} {held : Bool}
/-- As open_cells, where of the elements alone something is known that are parts of the whole. -/
theorem open_cellsS {α : Type} {r : Rep α} {k : Nat} {t e : TypeId} {fuel : Nat} {cs : List Value} {x : DataW H × List MemPlace} (ht : P.underlying t = some (.slice e)) (hC : P.cellsOf e = k) (hk0 : 0 < k)
    (hel : ∀ fuel cs (y : DataW H × List MemPlace), DataW.trod enc P w base spare held fuel e cs = some y → SizeOf.sizeOf y.1 < SizeOf.sizeOf x.1 → Light P e y.1 → ∃ a : α, r w w.heap.size a cs)
    (h : DataW.trod enc P w base spare held fuel t cs = some x) (hw : Light P t x.1) : ∃ A n c l, cs = [.slice A n c] ∧ Rows k r w w.heap.size A n c l ∧ n * P.bytesOf e ≤ reachBytes := by
  rcases open_slice ht h with ⟨hcs, _⟩ | ⟨a, len, cap, m, n, D, Pl, hcs, hb, hl, hm, hmm, hx, hi⟩
  · exact ⟨none, 0, 0, [], hcs, Rows.nil (by decide), by simp⟩
  · subst hx
    have hlm : len ≤ m := by rw [hmm]; split <;> omega
    have hwl : len * P.bytesOf e ≤ reachBytes := by
      have := hw ((len + (m - len)) * P.bytesOf e) (by simp [DataW.weights, ht])
      exact Nat.le_trans (Nat.mul_le_mul_right _ (by omega)) this
    have hel' : ∀ i, i < len → ∃ (y : α) (cs' : List Value), r w w.heap.size y cs' ∧ cs'.length = k ∧ ∀ j u, cs'[j]? = some u → w.cell? (a.add (i * k + j)) = some u := by
      intro i hil
      obtain ⟨cs', hc, htr⟩ := hi i (by omega)
      rw [hC] at hc
      obtain ⟨_, hlc, hcell⟩ := World.cells?_some hc
      have hmem : D i ∈ (List.range len).map D := List.mem_map.2 ⟨i, List.mem_range.2 hil, rfl⟩
      have hsz := List.sizeOf_lt_of_mem hmem
      obtain ⟨y, hy⟩ := hel n cs' _ htr (by simp only [DataW.slice.sizeOf_spec]; omega) fun q hq => hw q (by
        simp only [DataW.weights, ht]
        exact List.mem_cons_of_mem _ (List.mem_append_left _ (weightsAll_mem (d := D i) hmem hq)))
      refine ⟨y, cs', hy, hlc, fun j u hj => ?_⟩
      have hjk : j < k := by rw [← hlc]; exact (List.getElem?_eq_some_iff.1 hj).1
      have := hcell j hjk
      rw [hj] at this
      rw [← Go.Deep.add_add]
      exact this
    rcases Nat.eq_zero_or_pos len with h0 | h0
    · subst h0
      exact ⟨some a, 0, cap, [], hcs, Rows.nil (by unfold maxLen at hm; omega), by simp⟩
    · obtain ⟨y0, cs0, hr0, hl0, hc0⟩ := hel' 0 h0
      have ha : a.spot = none ∧ a.block < w.heap.size := by
        have := hc0 0 _ (List.getElem?_eq_getElem (by omega))
        simp only [Nat.zero_mul, Nat.add_zero] at this
        have ha0 : a.add 0 = a := by simp [Addr.add]
        rw [ha0] at this
        unfold World.cell? at this
        split at this
        · rename_i ho
          split at this
          · cases this
          · rename_i hs
            exact ⟨by simpa using hs, lt_of_heap ho⟩
        · cases this
      obtain ⟨b, off, sp⟩ := a
      obtain ⟨rfl, hlt⟩ := ha
      obtain ⟨f, hf⟩ : ∃ f : Nat → α, ∀ i, i < len → ∃ cs', r w w.heap.size (f i) cs' ∧ cs'.length = k ∧ ∀ j u, cs'[j]? = some u → w.cell? ((⟨b, off, none⟩ : Addr).add (i * k + j)) = some u := by
        refine ⟨fun i => if h : i < len then Classical.choose (hel' i h) else y0, fun i h => ?_⟩
        simp only [dif_pos h]
        exact Classical.choose_spec (hel' i h)
      refine ⟨_, len, cap, (List.range len).map f, hcs, ⟨by simp, hl, by unfold maxLen at hm; omega, fun _ => ⟨b, off, rfl, hlt, fun i x hx => ?_⟩⟩, hwl⟩
      rw [List.getElem?_map] at hx
      have hil : i < len := by
        rcases Nat.lt_or_ge i len with h | h
        · exact h
        · rw [List.getElem?_eq_none (by simpa using h)] at hx
          cases hx
      rw [List.getElem?_range hil] at hx
      simp at hx
      subst hx
      obtain ⟨cs', h1, _, h3⟩ := hf i hil
      refine ⟨cs', h1, fun j u hj => ?_⟩
      have := h3 j u hj
      rw [addr_add, ← Nat.add_assoc] at this
      exact this
end
theorem ruRep_mono {h h' : Nat} (hh : h ≤ h') : ∀ {W : World} {n₀ : Nat} {x : Ru} {cs : List Value}, ruRep h W n₀ x cs → ruRep h' W n₀ x cs := by
  induction h generalizing h' with
  | zero => intro W n₀ x cs k; exact k.elim
  | succ h ih =>
    intro W n₀ x cs k
    obtain ⟨h'', rfl⟩ : ∃ h'', h' = h'' + 1 := ⟨h' - 1, by omega⟩
    refine ⟨k.1, k.2.1, k.2.2.1, k.2.2.2.1, fun hn => ?_⟩
    obtain ⟨b, off, e, hlt, hx⟩ := k.2.2.2.2 hn
    exact ⟨b, off, e, hlt, fun i x hi => by obtain ⟨cs, h1, h2⟩ := hx i x hi; exact ⟨cs, ih (by omega) h1, h2⟩⟩
/-- A rule of whatever height. -/
def ruEx : Rep Ru := fun W n₀ x cs => ∃ h, ruRep h W n₀ x cs
theorem rows_ex {W : World} {n₀ n c : Nat} {A : Option Addr} {l : List Ru} (h : Rows 6 ruEx W n₀ A n c l) : ∃ H, ruSl H W n₀ A n c l := by
  have hb : ∃ H : Nat, ∀ (i : Nat) (x : Ru), l[i]? = some x → ∀ cs, (∃ h, ruRep h W n₀ x cs) → cs = x.enc → ruRep H W n₀ x x.enc := by
    clear h
    induction l with
    | nil => exact ⟨0, fun i x hi => by simp at hi⟩
    | cons y l ih =>
      obtain ⟨H, hH⟩ := ih
      by_cases hy : ∃ h, ruRep h W n₀ y y.enc
      · obtain ⟨h0, hy⟩ := hy
        refine ⟨max H h0, fun i x hi cs hx he => ?_⟩
        cases i with
        | zero => simp at hi; subst hi; exact ruRep_mono (Nat.le_max_right _ _) hy
        | succ i => exact ruRep_mono (Nat.le_max_left _ _) (hH i x (by simpa using hi) cs hx he)
      · refine ⟨H, fun i x hi cs hx he => ?_⟩
        cases i with
        | zero => simp at hi; subst hi; obtain ⟨h, hx⟩ := hx; exact absurd ⟨h, he ▸ hx⟩ hy
        | succ i => exact hH i x (by simpa using hi) cs hx he
  obtain ⟨H, hH⟩ := hb
  refine ⟨H, h.1, h.2.1, h.2.2.1, fun hn => ?_⟩
  obtain ⟨b, off, e, hlt, hx⟩ := h.2.2.2 hn
  refine ⟨b, off, e, hlt, fun i x hi => ?_⟩
  obtain ⟨cs, ⟨h1, h2⟩, h3⟩ := hx i x hi
  have he : cs = x.enc := by
    cases h1 with
    | zero => exact h2.elim
    | succ h1 => exact h2.1
  exact ⟨x.enc, hH i x hi cs ⟨h1, h2⟩ he, by rw [← he]; exact h3⟩
section
variable {H : Type} {enc : TypeId × Value → H} {w : World} {base : Nat} {spare : Nat → Bool} {held : Bool}
theorem int_elU {fuel : Nat} {cs : List Value} {x : DataW H × List MemPlace} (h : DataW.trod enc Tryd.prog w base spare held fuel 3 cs = some x) : ∃ z, cs = [.int .i64 z] := by
  obtain ⟨n, rfl, _, _⟩ := DataW.trod_int Tryd.underlying3 h
  exact ⟨n, rfl⟩
set_option maxRecDepth 100000 in
set_option maxHeartbeats 1000000 in
theorem ru_el : ∀ (s : Nat) (fuel : Nat) (cs : List Value) (x : DataW H × List MemPlace), SizeOf.sizeOf x.1 ≤ s → DataW.trod enc Tryd.prog w base spare held fuel 24 cs = some x → Light Tryd.prog 24 x.1 → ∃ a : Ru, ruEx w w.heap.size a cs := by
  intro s
  induction s with
  | zero =>
    intro fuel cs x hs
    have : 0 < SizeOf.sizeOf x.1 := by cases x.1 <;> simp <;> omega
    omega
  | succ s ih =>
    intro fuel cs x hs h hw
    obtain ⟨xs, n, rfl, hx, hlen, hxl, hf⟩ := DataW.trod_struct Tryd.underlying24 h
    have hl6 : cs.length = 6 := hlen.trans (by kernel_rfl)
    have hx6 : xs.length = 6 := hxl.trans (by kernel_rfl)
    obtain ⟨c0, c1, c2, c3, c4, c5, rfl⟩ := six hl6
    obtain ⟨x0, x1, x2, x3, x4, x5, rfl⟩ := six hx6
    have zi : Tryd.prog.cellsOf 3 = 1 := by kernel_rfl
    have zs : Tryd.prog.cellsOf 9 = 1 := by kernel_rfl
    have zl : Tryd.prog.cellsOf 22 = 1 := by kernel_rfl
    have h0 : DataW.trod enc Tryd.prog w base spare held n 3 (List.take (Tryd.prog.cellsOf 3) [c0, c1, c2, c3, c4, c5]) = some x0 := hf 0 _ rfl
    have h1 : DataW.trod enc Tryd.prog w base spare held n 3 (List.take (Tryd.prog.cellsOf 3) [c1, c2, c3, c4, c5]) = some x1 := hf 1 _ rfl
    have h2 : DataW.trod enc Tryd.prog w base spare held n 9 (List.take (Tryd.prog.cellsOf 9) [c2, c3, c4, c5]) = some x2 := hf 2 _ rfl
    have h3 : DataW.trod enc Tryd.prog w base spare held n 3 (List.take (Tryd.prog.cellsOf 3) [c3, c4, c5]) = some x3 := hf 3 _ rfl
    have h4 : DataW.trod enc Tryd.prog w base spare held n 3 (List.take (Tryd.prog.cellsOf 3) [c4, c5]) = some x4 := hf 4 _ rfl
    have h5 : DataW.trod enc Tryd.prog w base spare held n 22 (List.take (Tryd.prog.cellsOf 22) [c5]) = some x5 := hf 5 _ rfl
    rw [zi] at h0 h1 h3 h4
    rw [zs] at h2
    rw [zl] at h5
    simp only [List.take_succ_cons, List.take_zero] at h0 h1 h2 h3 h4 h5
    have l5 : Light Tryd.prog 22 x5.1 := light_field (xs := [x0, x1, x2, x3, x4, x5]) (j := 5) Tryd.underlying24 (by rw [hx] at hw; exact hw) rfl rfl
    obtain ⟨z0, e0⟩ := int_elU h0
    obtain ⟨z1, e1⟩ := int_elU h1
    obtain ⟨s2, e2, _, _⟩ := DataW.trod_string Tryd.underlying9 h2
    obtain ⟨z3, e3⟩ := int_elU h3
    obtain ⟨z4, e4⟩ := int_elU h4
    have hs5 : SizeOf.sizeOf x5.1 < SizeOf.sizeOf x.1 := by rw [hx]; simp only [List.map_cons, List.map_nil, DataW.agg.sizeOf_spec, List.cons.sizeOf_spec]; omega
    obtain ⟨A, n', c', l, e5, hrow, _⟩ := open_cellsS (r := ruEx) (k := 6) Tryd.underlying22 (by kernel_rfl) (by decide) (fun fuel' cs' y hy hsz hly => ih fuel' cs' y (by omega) hy hly) h5 l5
    obtain ⟨hh, hrow'⟩ := rows_ex hrow
    simp only [List.cons.injEq, and_true] at e0 e1 e2 e3 e4 e5
    subst e0 e1 e2 e3 e4 e5
    exact ⟨.mk z0 z1 s2 z3 z4 A n' c' l, hh + 1, rfl, hrow'⟩
set_option maxRecDepth 100000 in
theorem open_rule {b0 : Nat} {rr : Reach} {v : Value} {dt : DataW H} {pl : List MemPlace} (hv : Value.okWide Tryd.prog w rr b0 24 v) (h : DataW.Trod enc Tryd.prog w base spare held 24 v dt pl) (hw : Light Tryd.prog 24 dt) :
    ∃ (hh : Nat) (x : Ru), v = .agg #[.int .i64 x.op, .int .i64 x.course, .string x.name, .int .i64 x.n, .int .i64 x.d, .slice x.kA x.kn x.kc] ∧ RuIn hh w w.heap.size x := by
  obtain ⟨cs, rfl, hs⟩ := okWide_struct Tryd.underlying24 hv
  obtain ⟨fuel, hf⟩ := h
  obtain ⟨x, hh, hr⟩ := ru_el _ _ _ _ (Nat.le_refl _) hf hw
  cases hh with
  | zero => exact hr.elim
  | succ hh =>
    obtain ⟨h1, h2⟩ := hr
    simp only [Value.cells] at h1
    exact ⟨hh, x, by rw [show cs = x.enc.toArray by rw [← h1]]; rfl, h2⟩
set_option maxRecDepth 100000 in
theorem sn_el {fuel : Nat} {cs : List Value} {x : DataW H × List MemPlace} (h : DataW.trod enc Tryd.prog w base spare held fuel 49 cs = some x) : ∃ a : Sn, Rep.flat Sn.enc w w.heap.size a cs := by
  obtain ⟨xs, n, rfl, hx, hlen, hxl, hf⟩ := DataW.trod_struct Tryd.underlying49 h
  have hl4 : cs.length = 4 := hlen.trans (by kernel_rfl)
  have hx4 : xs.length = 4 := hxl.trans (by kernel_rfl)
  obtain ⟨c0, c1, c2, c3, rfl⟩ := four hl4
  obtain ⟨x0, x1, x2, x3, rfl⟩ := four hx4
  have zi : Tryd.prog.cellsOf 3 = 1 := by kernel_rfl
  have zb : Tryd.prog.cellsOf 4 = 1 := by kernel_rfl
  have h0 : DataW.trod enc Tryd.prog w base spare held n 3 (List.take (Tryd.prog.cellsOf 3) [c0, c1, c2, c3]) = some x0 := hf 0 _ rfl
  have h1 : DataW.trod enc Tryd.prog w base spare held n 3 (List.take (Tryd.prog.cellsOf 3) [c1, c2, c3]) = some x1 := hf 1 _ rfl
  have h2 : DataW.trod enc Tryd.prog w base spare held n 3 (List.take (Tryd.prog.cellsOf 3) [c2, c3]) = some x2 := hf 2 _ rfl
  have h3 : DataW.trod enc Tryd.prog w base spare held n 4 (List.take (Tryd.prog.cellsOf 4) [c3]) = some x3 := hf 3 _ rfl
  rw [zi] at h0 h1 h2
  rw [zb] at h3
  simp only [List.take_succ_cons, List.take_zero] at h0 h1 h2 h3
  obtain ⟨z0, e0⟩ := int_elU h0
  obtain ⟨z1, e1⟩ := int_elU h1
  obtain ⟨z2, e2⟩ := int_elU h2
  obtain ⟨b3, e3, _⟩ := DataW.trod_bool Tryd.underlying4 h3
  simp only [List.cons.injEq, and_true] at e0 e1 e2 e3
  subst e0 e1 e2 e3
  exact ⟨⟨z0, z1, z2, b3⟩, rfl⟩
set_option maxRecDepth 100000 in
theorem open_situation {b0 : Nat} {rr : Reach} {v : Value} {dt : DataW H} {pl : List MemPlace} (hv : Value.okWide Tryd.prog w rr b0 29 v) (h : DataW.Trod enc Tryd.prog w base spare held 29 v dt pl) (hw : Light Tryd.prog 29 dt) :
    ∃ s : Si, v = .agg #[.slice s.sA s.sn s.sc, .int .i64 s.earned, .int .i64 s.num, .int .i64 s.den] ∧ SiIn w w.heap.size s := by
  obtain ⟨cs, rfl, hs⟩ := okWide_struct Tryd.underlying29 hv
  obtain ⟨fuel, hf⟩ := h
  obtain ⟨xs, n, rfl, hx, hlen, hxl, hf'⟩ := DataW.trod_struct Tryd.underlying29 hf
  simp only [Prod.mk.injEq] at hx
  obtain ⟨rfl, rfl⟩ := hx
  have hl4 : cs.toList.length = 4 := hlen.trans (by kernel_rfl)
  have hx3 : xs.length = 3 := hxl.trans (by kernel_rfl)
  obtain ⟨cl⟩ := cs
  obtain ⟨c0, c1, c2, c3, hc⟩ := four hl4
  simp only at hc
  subst hc
  obtain ⟨x0, x1, x2, rfl⟩ := three hx3
  have zi : Tryd.prog.cellsOf 3 = 1 := by kernel_rfl
  have zs : Tryd.prog.cellsOf 25 = 1 := by kernel_rfl
  have zr : Tryd.prog.cellsOf 27 = 2 := by kernel_rfl
  have h0 : DataW.trod enc Tryd.prog w base spare held n 25 (List.take (Tryd.prog.cellsOf 25) [c0, c1, c2, c3]) = some x0 := hf' 0 _ rfl
  have h1 : DataW.trod enc Tryd.prog w base spare held n 3 (List.take (Tryd.prog.cellsOf 3) [c1, c2, c3]) = some x1 := hf' 1 _ rfl
  have h2 : DataW.trod enc Tryd.prog w base spare held n 27 (List.take (Tryd.prog.cellsOf 27) [c2, c3]) = some x2 := hf' 2 _ rfl
  rw [zs] at h0
  rw [zi] at h1
  rw [zr] at h2
  simp only [List.take_succ_cons, List.take_zero] at h0 h1 h2
  obtain ⟨A, n', c', l, e0, r0, _⟩ := open_cells (r := Rep.flat Sn.enc) (k := 4) Tryd.underlying25 (by kernel_rfl) (by decide) (fun _ _ _ ht _ => sn_el ht) h0 (light_field (j := 0) Tryd.underlying29 hw rfl rfl)
  obtain ⟨z1, e1⟩ := int_elU h1
  obtain ⟨_, hints⟩ := flat_cells 4 27 n _ _ (by kernel_rfl) h2
  obtain ⟨z2, rfl, _⟩ := hints c2 (by simp)
  obtain ⟨z3, rfl, _⟩ := hints c3 (by simp)
  simp only [List.cons.injEq, and_true] at e0 e1
  subst e0 e1
  exact ⟨⟨A, n', c', z1, z2, z3, l⟩, rfl, r0⟩
end
end Go.Proofs.YtbmbpannhncpjaaDoor
