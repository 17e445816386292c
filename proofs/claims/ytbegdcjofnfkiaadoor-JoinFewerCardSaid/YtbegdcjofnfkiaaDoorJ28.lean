/- JoinFewer walked (printed by tools/gen116.py). -/
import Derived.Test.YtbegdcjofnfkiaaDoorJM2
import Derived.Deep.DeepCutAuto
import Derived.Deep.CutBlock
import Derived.BigRegion
namespace Go.Proofs.YtbegdcjofnfkiaaDoor
open Go.RowKit Go.Shelf Go.Sort

theorem amInfoF : (Tryd.prog.info? 46).map (fun i => (i.zero, i.size, i.bytes)) = some (some (.agg #[.int .i64 0, .bool false, .int .i64 0, .bool false, .int .i64 0, .bool false, .int .i64 0, .int .i64 0, .int .i64 0]), 9, 72) := by kernel_rfl
theorem teInfoF : (Tryd.prog.info? 48).map (fun i => (i.zero, i.size, i.bytes)) = some (some (.agg #[.int .i64 0, .bool false, .int .i64 0, .bool false, .int .i64 0]), 5, 40) := by kernel_rfl
theorem shows_rangeF {q : Qu} (hn : q.shows.length = q.names.length) (h : ∀ k, k < q.shows.length → q.shows[k]? = some (k : Int)) : q.shows = rangeI q.names.length := by
  refine List.ext_getElem? fun i => ?_
  rcases Nat.lt_or_ge i q.shows.length with hi | hi
  · rw [h i hi, rangeI_get (by omega)]
  · rw [List.getElem?_eq_none hi, List.getElem?_eq_none (by rw [rangeI_len]; omega)]
/-- Blocks from a on as they lay in w6. -/
def KpR (a : Nat) (w6 W : World) : Prop := ∀ x, a ≤ x → x < w6.heap.size → W.heap[x]? = w6.heap[x]?
section
variable {a0 : Nat} {w6 W W' : World}
theorem KpR.in (h : KpR a0 w6 W) {x : Nat} (h1 : a0 ≤ x) (h2 : x < w6.heap.size) : x < W.heap.size := by
  rcases Nat.lt_or_ge x W.heap.size with h3 | h3
  · exact h3
  · have := h x h1 h2
    rw [Array.getElem?_eq_none h3, Array.getElem?_eq_getElem h2] at this
    cases this
theorem KpR.keepN (h : KpR a0 w6 W) (hk : ∀ x, x < W.heap.size → W'.heap[x]? = W.heap[x]?) : KpR a0 w6 W' := fun x h1 h2 => (hk x (h.in h1 h2)).trans (h x h1 h2)
theorem KpR.keep (h : KpR a0 w6 W) (hb : Below W.heap.size W W') : KpR a0 w6 W' := h.keepN hb.block
theorem KpR.setK (h : KpR a0 w6 W) {X j : Nat} {z : Value} (hX : w6.heap.size ≤ X ∨ X < a0) : KpR a0 w6 (W.setCell ⟨X, j, none⟩ z) := fun x h1 h2 => heap_set_ne (h x h1 h2) (by omega) _ _
theorem InM.sl {α : Type} {e : TypeId} {k n c : Nat} {A : Option Addr} {enc : α → List Value} {w W : World} {l : List α} (h : InM e k enc w w.heap.size (.slice A n c) n l W) (hk : ∀ x, (enc x).length = k) (h0 : 0 < k) (hb : Below w.heap.size w W) : Rows k (Rep.flat enc) W W.heap.size A n c l := by
  obtain ⟨A', c', e', h'⟩ := h.rows hk h0 hb
  injection e' with e1 _ e3
  rw [e1, e3]
  exact h'
end
theorem fw_start {q : Qu} {a : Am} {t : Te} {w w6 : World} {X Y Z : Nat} (hq : QBox q w.heap.size w6) (ha : w6.heap[w.heap.size + 1]? = some (.cells #[.int .i64 a.kind, .bool a.s.var, .int .i64 a.s.n, .bool a.o.var, .int .i64 a.o.n, .bool a.v.var, .int .i64 a.v.n, .int .i64 a.term, .int .i64 a.known] 46 (0, 0))) (ht : w6.heap[w.heap.size + 2]? = some (.cells #[.int .i64 t.op, .bool t.a.var, .int .i64 t.a.n, .bool t.b.var, .int .i64 t.b.n] 48 (0, 0))) (hb : Below w.heap.size w w6) (hz : w.heap.size + 3 ≤ w6.heap.size)
    (hX : w6.heap.size ≤ X ∧ X < w6.heap.size + 3) (hY : w6.heap.size ≤ Y ∧ Y < w6.heap.size + 3) (hZ : w6.heap.size ≤ Z ∧ Z < w6.heap.size + 3) (xy : X ≠ Y) (xz : X ≠ Z) (yz : Y ≠ Z) :
    FwB q a t w.heap.size X Y Z (.slice q.aA q.an q.ac) (.slice q.tA q.tn q.tc) (.slice q.tA q.tn q.tc) w (((w6.alloc (.cells #[.slice q.nA q.nn q.nc, .slice q.sA q.sn q.sc, .slice q.aA q.an q.ac, .slice q.tA q.tn q.tc] 27)).alloc (.cells #[.slice q.nA q.nn q.nc, .slice q.sA q.sn q.sc, .slice q.aA q.an q.ac, .slice q.tA q.tn q.tc] 27)).alloc (.cells #[.slice q.nA q.nn q.nc, .slice q.sA q.sn q.sc, .slice q.aA q.an q.ac, .slice q.tA q.tn q.tc] 27)).drew ∧
    Below w6.heap.size w6 (((w6.alloc (.cells #[.slice q.nA q.nn q.nc, .slice q.sA q.sn q.sc, .slice q.aA q.an q.ac, .slice q.tA q.tn q.tc] 27)).alloc (.cells #[.slice q.nA q.nn q.nc, .slice q.sA q.sn q.sc, .slice q.aA q.an q.ac, .slice q.tA q.tn q.tc] 27)).alloc (.cells #[.slice q.nA q.nn q.nc, .slice q.sA q.sn q.sc, .slice q.aA q.an q.ac, .slice q.tA q.tn q.tc] 27)).drew ∧ w6.heap.size ≤ X ∧ w6.heap.size ≤ Y ∧ w6.heap.size ≤ Z := by
  obtain ⟨C, hC⟩ : ∃ C, (#[.slice q.nA q.nn q.nc, .slice q.sA q.sn q.sc, .slice q.aA q.an q.ac, .slice q.tA q.tn q.tc] : Array Value) = C := ⟨_, rfl⟩
  obtain ⟨W1, h1⟩ : ∃ W, w6.alloc (.cells #[.slice q.nA q.nn q.nc, .slice q.sA q.sn q.sc, .slice q.aA q.an q.ac, .slice q.tA q.tn q.tc] 27) = W := ⟨_, rfl⟩
  obtain ⟨W2, h2⟩ : ∃ W, W1.alloc (.cells #[.slice q.nA q.nn q.nc, .slice q.sA q.sn q.sc, .slice q.aA q.an q.ac, .slice q.tA q.tn q.tc] 27) = W := ⟨_, rfl⟩
  obtain ⟨W3, h3⟩ : ∃ W, W2.alloc (.cells #[.slice q.nA q.nn q.nc, .slice q.sA q.sn q.sc, .slice q.aA q.an q.ac, .slice q.tA q.tn q.tc] 27) = W := ⟨_, rfl⟩
  rw [h1, h2, h3]
  have z1 : W1.heap.size = w6.heap.size + 1 := by rw [← h1]; simp
  have z2 : W2.heap.size = w6.heap.size + 2 := by rw [← h2]; simp; omega
  have b1 : Below w6.heap.size w6 W1 := by rw [← h1]; exact (Below.refl _ _).alloc (Nat.le_refl _) _
  have b2 : Below W1.heap.size W1 W2 := by rw [← h2]; exact (Below.refl _ _).alloc (Nat.le_refl _) _
  have b3 : Below W2.heap.size W2 W3 := by rw [← h3]; exact (Below.refl _ _).alloc (Nat.le_refl _) _
  have n1 : W1.heap[w6.heap.size]? = some (.cells #[.slice q.nA q.nn q.nc, .slice q.sA q.sn q.sc, .slice q.aA q.an q.ac, .slice q.tA q.tn q.tc] 27 (0, 0)) := by rw [← h1]; exact World.alloc_heap_new _ _
  have n2 : W2.heap[w6.heap.size + 1]? = some (.cells #[.slice q.nA q.nn q.nc, .slice q.sA q.sn q.sc, .slice q.aA q.an q.ac, .slice q.tA q.tn q.tc] 27 (0, 0)) := by rw [← h2, ← z1]; exact World.alloc_heap_new _ _
  have n3 : W3.heap[w6.heap.size + 2]? = some (.cells #[.slice q.nA q.nn q.nc, .slice q.sA q.sn q.sc, .slice q.aA q.an q.ac, .slice q.tA q.tn q.tc] 27 (0, 0)) := by rw [← h3, ← z2]; exact World.alloc_heap_new _ _
  have hB : Below w6.heap.size w6 W3 := b1.trans ((b2.trans (b3.mono b2.size)).mono b1.size)
  have hN : ∀ x, w6.heap.size ≤ x ∧ x < w6.heap.size + 3 → W3.heap[x]? = some (.cells #[.slice q.nA q.nn q.nc, .slice q.sA q.sn q.sc, .slice q.aA q.an q.ac, .slice q.tA q.tn q.tc] 27 (0, 0)) := by
    intro x hx
    have : x = w6.heap.size ∨ x = w6.heap.size + 1 ∨ x = w6.heap.size + 2 := by omega
    rcases this with rfl | rfl | rfl
    · exact (b3.block _ (by omega)).trans ((b2.block _ (by omega)).trans n1)
    · exact (b3.block _ (by omega)).trans n2
    · exact n3
  have hD : Below w6.heap.size w6 W3.drew := ⟨hB.os, hB.tape, hB.output, hB.size, hB.block⟩
  have hq6 := lt_of_heap hq.box
  refine ⟨⟨⟨(hB.block _ hq6).trans hq.box⟩, (hB.block _ (by omega)).trans ha, (hB.block _ (by omega)).trans ht, hN X hX, hN Y hY, hN Z hZ, hb.trans (hD.mono hb.size), by omega, by omega, by omega, xy, xz, yz⟩, hD, hX.1, hY.1, hZ.1⟩
set_option maxRecDepth 100000 in
set_option maxHeartbeats 20000000 in
theorem fewer_any (q : Qu) (FA : Option Addr) (fn fc : Nat) (l : List Fc) (a : Am) (t : Te) (w : World) (hq : QuIn q w w.heap.size) (hw : WordsAt w) (hl : fSl w w.heap.size FA fn fc l) :
    Calls Tryd.prog 4 #[.agg #[.slice q.nA q.nn q.nc, .slice q.sA q.sn q.sc, .slice q.aA q.an q.ac, .slice q.tA q.tn q.tc], .slice FA fn fc, .agg #[.int .i64 a.kind, .bool a.s.var, .int .i64 a.s.n, .bool a.o.var, .int .i64 a.o.n, .bool a.v.var, .int .i64 a.v.n, .int .i64 a.term, .int .i64 a.known], .agg #[.int .i64 t.op, .bool t.a.var, .int .i64 t.a.n, .bool t.b.var, .int .i64 t.b.n]] w fun e w' => e = .returned (.bool true) ∧ Below w.heap.size w w' := by
  obtain ⟨j0, hji, hjz, hjs, hjb⟩ := info_parts amInfoF
  obtain ⟨t0, hti, htz, hts, htb⟩ := info_parts teInfoF
  have HQu : Hid (∀ W, Below w.heap.size w W → QuIn q W W.heap.size) := fun W hb => hq.keep hb.size hb.block
  have HWd : Hid (∀ W, Below w.heap.size w W → WordsAt W) := fun W hb => hw.below hb
  have HFa : Hid (∀ W, Below w.heap.size w W → fSl W W.heap.size FA fn fc l) := fun W h => hl.keep (Rep.flat_stable _) h.size h.block
  have HLen : Hid (q.nn = q.names.length ∧ q.sn = q.shows.length ∧ q.an = q.atoms.length ∧ q.tn = q.tests.length) := ⟨hq.1.1, hq.2.1.1, hq.2.2.1.1, hq.2.2.2.1⟩
  have HFn := hidp hl.1
  obtain ⟨V0, hV0⟩ : ∃ V, w.alloc (.cells #[.slice q.nA q.nn q.nc, .slice q.sA q.sn q.sc, .slice q.aA q.an q.ac, .slice q.tA q.tn q.tc] 27) = V := ⟨_, rfl⟩
  obtain ⟨V1, hV1⟩ : ∃ V, V0.alloc (.cells #[.int .i64 a.kind, .bool a.s.var, .int .i64 a.s.n, .bool a.o.var, .int .i64 a.o.n, .bool a.v.var, .int .i64 a.v.n, .int .i64 a.term, .int .i64 a.known] 46) = V := ⟨_, rfl⟩
  obtain ⟨W0, hW0⟩ : ∃ V, V1.alloc (.cells #[.int .i64 t.op, .bool t.a.var, .int .i64 t.a.n, .bool t.b.var, .int .i64 t.b.n] 48) = V := ⟨_, rfl⟩
  have y0 : V0.heap.size = w.heap.size + 1 := by rw [← hV0]; simp
  have y1 : V1.heap.size = w.heap.size + 2 := by rw [← hV1]; simp; omega
  have n0 : Below w.heap.size w V0 := by rw [← hV0]; exact (Below.refl _ _).alloc (Nat.le_refl _) _
  have n1 : Below V0.heap.size V0 V1 := by rw [← hV1]; exact (Below.refl _ _).alloc (Nat.le_refl _) _
  have n2 : Below V1.heap.size V1 W0 := by rw [← hW0]; exact (Below.refl _ _).alloc (Nat.le_refl _) _
  have n12 : Below V0.heap.size V0 W0 := n1.trans (n2.mono n1.size)
  have HBW := hidp (n0.trans (n12.mono n0.size))
  have HB0 : Hid (QBox q w.heap.size W0) := ⟨(n12.block _ (by omega)).trans (by rw [← hV0]; exact World.alloc_heap_new _ _)⟩
  have HA0 : Hid (W0.heap[w.heap.size + 1]? = some (.cells #[.int .i64 a.kind, .bool a.s.var, .int .i64 a.s.n, .bool a.o.var, .int .i64 a.o.n, .bool a.v.var, .int .i64 a.v.n, .int .i64 a.term, .int .i64 a.known] 46 (0, 0))) := (n2.block _ (by omega)).trans (by rw [← hV1, ← y0]; exact World.alloc_heap_new _ _)
  have HT0 : Hid (W0.heap[w.heap.size + 2]? = some (.cells #[.int .i64 t.op, .bool t.a.var, .int .i64 t.a.n, .bool t.b.var, .int .i64 t.b.n] 48 (0, 0))) := by show _ = _; rw [← hW0, ← y1]; exact World.alloc_heap_new _ _
  have HW0 : Hid (((w.alloc (.cells #[.slice q.nA q.nn q.nc, .slice q.sA q.sn q.sc, .slice q.aA q.an q.ac, .slice q.tA q.tn q.tc] 27)).alloc (.cells #[.int .i64 a.kind, .bool a.s.var, .int .i64 a.s.n, .bool a.o.var, .int .i64 a.o.n, .bool a.v.var, .int .i64 a.v.n, .int .i64 a.term, .int .i64 a.known] 46)).alloc (.cells #[.int .i64 t.op, .bool t.a.var, .int .i64 t.a.n, .bool t.b.var, .int .i64 t.b.n] 48) = W0) := by show _ = _; rw [hV0, hV1]; exact hW0
  have HZ0 : Hid (W0.heap.size = w.heap.size + 3) := by show _ = _; rw [← hW0]; simp; omega
  clear hq hw hl hV0 hV1 hW0 y0 y1 n0 n1 n2 n12
  go_enter Tryd.func4, Tryd.ntmps4
  go_wp2_with fail
  rw [HW0.out]
  refine (sane_any _ (HWd.out _ HBW.out)).mono ?_
  rintro e w1 ⟨rfl, hb1⟩
  have HB1 := hidp (HBW.out.trans (hb1.mono HBW.out.size))
  have HQ1 := hidp (HB0.out.later hb1)
  have HX1 := hidp hb1
  obtain ⟨x0, x1, x2, x3, l0⟩ := HQ1.out.cells
  clear hb1
  go_wp2_with fail
  refine (few_any q FA fn fc l _ (HQu.out _ HB1.out) (HFa.out _ HB1.out)).mono ?_
  rintro e w5 ⟨rfl, hb5⟩
  have HB5 := hidp (HB1.out.trans (hb5.mono HB1.out.size))
  have HX5 := hidp (HX1.out.trans (hb5.mono HX1.out.size))
  have HQ5 := hidp (HQ1.out.later hb5)
  clear x0 x1 x2 x3 l0 hb5
  obtain ⟨x0, x1, x2, x3, l0⟩ := HQ5.out.cells
  obtain ⟨fw, hfw⟩ : ∃ b, fewJ q l = b := ⟨_, rfl⟩
  rw [hfw]
  have HFw := hidp hfw
  clear hfw
  cases fw
  · go_wp2_with fail
    go_ret
    exact ⟨rfl, HB5.out⟩
  have hfew : fn ≤ 10 ∧ q.nn ≤ 4 ∧ q.sn ≤ 8 ∧ q.an ≤ 6 ∧ q.tn ≤ 6 ∧ (domR l).length ^ q.names.length ≤ 4096 := by
    have h := HFw.out
    unfold fewJ at h
    simp only [Bool.and_eq_true, decide_eq_true_eq] at h
    have h1 := HFn.out; obtain ⟨h2, h3, h4, h5⟩ := HLen.out
    exact ⟨by omega, by omega, by omega, by omega, by omega, h.2⟩
  obtain ⟨hx10, hn4, hs8, ha6, ht6, hpw⟩ := hfew
  have HPw := hidp hpw
  clear hpw
  go_wp2_with fail
  refine (rows_fresh q FA fn fc l _ (HQu.out _ HB5.out) (HWd.out _ HB5.out) (HFa.out _ HB5.out) (by omega) (fun _ => few_ful HPw.out rfl)).mono ?_
  rintro e w6 ⟨A1, n1, c1, rfl, hr6, hb6⟩
  have HB6 := hidp (HB5.out.trans (hb6.mono HB5.out.size))
  have HX6 := hidp (HX5.out.trans (hb6.mono HX5.out.size))
  have HQ6 := hidp (HQ5.out.later hb6)
  have HR6 := hidp hr6
  have HZ5 : Hid (w.heap.size + 3 ≤ w5.heap.size) := by have h1 := HZ0.out; have h2 := HX5.out.size; show _ ≤ _; omega
  have HZ6 : Hid (w.heap.size + 3 ≤ w6.heap.size) := by have h1 := HZ0.out; have h2 := HX6.out.size; show _ ≤ _; omega
  have HK6 : Hid (KpR w5.heap.size w6 w6) := fun x _ _ => rfl
  have HAt : Hid (w6.heap[w.heap.size + 1]? = some (.cells #[.int .i64 a.kind, .bool a.s.var, .int .i64 a.s.n, .bool a.o.var, .int .i64 a.o.n, .bool a.v.var, .int .i64 a.v.n, .int .i64 a.term, .int .i64 a.known] 46 (0, 0))) := (HX6.out.block _ (by have := HZ0.out; omega)).trans HA0.out
  have HTt : Hid (w6.heap[w.heap.size + 2]? = some (.cells #[.int .i64 t.op, .bool t.a.var, .int .i64 t.a.n, .bool t.b.var, .int .i64 t.b.n] 48 (0, 0))) := (HX6.out.block _ (by have := HZ0.out; omega)).trans HT0.out
  clear x0 x1 x2 x3 l0 hb6 hr6
  obtain ⟨x0, x1, x2, x3, l0⟩ := HQ6.out.cells
  rcases rowsE_cases q with ⟨hre, hck⟩ | ⟨hre, _⟩
  rotate_left
  · rw [hre]
    clear hre
    go_wp2_with fail
    go_ret
    exact ⟨rfl, HB6.out⟩
  rw [hre]
  have HCk := hidp hck
  clear hre hck
  clear HB0 HQ1 HQ5 HX1 HX5 HA0 HT0 HBW HB1 HB5 HW0
  have l1 : w.heap.size < w6.heap.size + 1 := by omega
  have l2 : w.heap.size < w6.heap.size + 1 + 1 := by omega
  have e0 : w.heap.size ≠ w6.heap.size := by omega
  have e1 : w.heap.size ≠ w6.heap.size + 1 := by omega
  have e2 : w.heap.size ≠ w6.heap.size + 1 + 1 := by omega
  go_upto_region 8 with fail
  go_cut [11, 12, 13] (fun s11 s12 s13 wx => ∃ X Y Z, s11 = .pointer (some ⟨X, 0, none⟩) ∧ s12 = .pointer (some ⟨Y, 0, none⟩) ∧ s13 = .pointer (some ⟨Z, 0, none⟩) ∧ FwB q a t w.heap.size X Y Z (.slice q.aA q.an q.ac) (.slice q.tA q.tn q.tc) (.slice q.tA q.tn q.tc) w wx ∧ Below w6.heap.size w6 wx ∧ w6.heap.size ≤ X ∧ w6.heap.size ≤ Y ∧ w6.heap.size ≤ Z)
  case first =>
    go_region
    all_goals (go_wp2_with fail)
    all_goals go_meet
    all_goals (exact ⟨_, _, _, rfl, rfl, rfl, fw_start HQ6.out HAt.out HTt.out HB6.out HZ6.out ⟨by omega, by omega⟩ ⟨by omega, by omega⟩ ⟨by omega, by omega⟩ (by omega) (by omega) (by omega)⟩)
  case rest =>
  obtain ⟨X, Y, Z, rfl, rfl, rfl, hfb, hb7, hX6, hY6, hZ6⟩ := hcut
  rename World => wc
  have HFb := hidp hfb
  have HKc : Hid (KpR w5.heap.size w6 wc) := HK6.out.keep hb7
  have HX6' := hidp hX6
  have HY6' := hidp hY6
  have HZ6' := hidp hZ6
  clear x0 x1 x2 x3 l0 l1 l2 e0 e1 e2 HQ6 HAt HTt hfb hb7 hX6 hY6 hZ6 HK6

  obtain ⟨x0, x1, x2, x3, l0⟩ := HFb.out.qb.cells
  obtain ⟨k0, k1, k2, k3, k4, k5, k6, k7, k8, kl⟩ := HFb.out.atom
  have m0 : wc.cell? ⟨w.heap.size + 1 + 1, 0, none⟩ = some (.int .i64 t.op) := HFb.out.test.1
  have m1 : wc.cell? ⟨w.heap.size + 1 + 1, 1, none⟩ = some (.bool t.a.var) := HFb.out.test.2.1
  have m2 : wc.cell? ⟨w.heap.size + 1 + 1, 2, none⟩ = some (.int .i64 t.a.n) := HFb.out.test.2.2.1
  have m3 : wc.cell? ⟨w.heap.size + 1 + 1, 3, none⟩ = some (.bool t.b.var) := HFb.out.test.2.2.2.1
  have m4 : wc.cell? ⟨w.heap.size + 1 + 1, 4, none⟩ = some (.int .i64 t.b.n) := HFb.out.test.2.2.2.2.1
  have ml : w.heap.size + 1 + 1 < wc.heap.size := HFb.out.test.2.2.2.2.2
  have hbr : w.heap.size ≤ wc.heap.size := HFb.out.bel.size
  have hXr : X < wc.heap.size ∧ Y < wc.heap.size ∧ Z < wc.heap.size := ⟨HFb.out.lt.1, HFb.out.lt.2.1, HFb.out.lt.2.2.1⟩
  have hbX : w.heap.size ≤ X := by have := HFb.out.lx; omega
  have HLs : Hid (∀ W', Below wc.heap.size wc W' → Rows 9 (Rep.flat amEnc) W' W'.heap.size q.aA q.an q.ac q.atoms) := fun W' h => (HQu.out _ (HFb.out.bel.trans (h.mono hbr))).2.2.1
  have HO0 := HKc
  go_wp2_with fail
  refine wp_region_QS (w.heap.size) (fun k => k == 6 || k == 8) (fun k => k == 0 || k == 3 || k == 5 || k == 6 || k == 8) (fun k => k == 0 || k == 1 || k == 2 || k == 3 || k == 4 || k == 5 || k == 6) (hbr) (by kernel_rfl) (by kernel_rfl) (by kernel_rfl) (by kernel_rfl) ?_
  apply qs_any (mask := []) (S := (Below wc.heap.size wc)) (m := (fun w => w.heap.size)) (T := fun v W => ∃ g, v = .slice (some ⟨g, 0, none⟩) 0 0 ∧ wc.heap.size ≤ g ∧ W.heap[g]? = some (.cells #[] 46 (0, 0))) (hT := fun v w w' hb ⟨g, hv, hg, hh⟩ => ⟨g, hv, hg, (hb.block _ (lt_of_heap hh)).trans hh⟩) (hf := by kernel_rfl) (hS := by rfl) (hm := by rfl) (hg := by kernel_rfl) (hk := by kernel_rfl)
  · dsimp only [oblS]
    rintro w9 h9 T' hT'
    go_simp
    exact ⟨(Below.refl _ w9).alloc (Nat.le_refl _) _, hT' _ _ ⟨_, rfl, h9.size, World.alloc_heap_new w9 _⟩⟩
  dsimp only [List.nil_append, List.cons_append]
  apply qs_det (mask := [false]) (S := (Below wc.heap.size wc)) (m := (fun w => w.heap.size)) (hS := by rfl) (hm := by rfl) (hg := by kernel_rfl) (hk := by kernel_rfl)
  · dsimp only [oblS]
    rintro w9 h9
    go_simp
    exact ⟨Below.refl _ _, rfl⟩
  dsimp only [List.nil_append, List.cons_append]
  apply qs_det (mask := [false, true]) (S := (Below wc.heap.size wc)) (m := (fun w => w.heap.size)) (hS := by rfl) (hm := by rfl) (hg := by kernel_rfl) (hk := by kernel_rfl)
  · dsimp only [oblS]
    rintro w9 h9
    have hc9 := (bcell h9).1
    go_simp
    exact ⟨Below.refl _ _, rfl⟩
  dsimp only [List.nil_append, List.cons_append]
  apply qs_any (mask := [true, false, true]) (S := (Below wc.heap.size wc)) (m := (fun w => w.heap.size)) (T := fun v W => W.ownsRow wc.heap.size 46 9 v q.an (q.atoms.flatMap amEnc)) (hT := fun v w w' hb h => own_keepB h fun g hg => hb.block g (h.lt g hg).2) (hf := by kernel_rfl) (hS := by rfl) (hm := by rfl) (hg := by kernel_rfl) (hk := by kernel_rfl)
  · dsimp only [oblS]
    intro v43
    rintro w9 ⟨h9, t43⟩ T' hT'
    obtain ⟨g, e0, hg0, hh0⟩ := t43
    subst e0
    obtain ⟨v', w', hrun, hown', hb'⟩ := run_append_empty (P := Tryd.prog) (ty := 24) (enc := amEnc) Tryd.underlying24 hji hjz hjs hjb rfl amEnc_len (by decide) amEnc_one hh0 hg0 (HLs.out w9 h9) (by omega) (by omega)
    exact relUpon_append (.tmp 43) (.tmp 45) 24 rfl rfl rfl hrun hb' (hT' _ _ hown')
  dsimp only [List.nil_append, List.cons_append]
  apply qs_det (mask := [false, false, false, false]) (S := (Below wc.heap.size wc)) (m := (fun w => w.heap.size)) (hS := by rfl) (hm := by rfl) (hg := by kernel_rfl) (hk := by kernel_rfl)
  · dsimp only [oblS]
    rintro w9 h9
    have hc9 := (bcell h9).1
    go_simp
    exact ⟨Below.refl _ _, rfl⟩
  dsimp only [List.nil_append, List.cons_append]
  apply qs_any (mask := [false, false, false, false, true]) (S := (Below wc.heap.size wc)) (m := (fun w => w.heap.size)) (T := fun v W => ∃ g, v = .slice (some ⟨g, 0, none⟩) 1 1 ∧ W.heap[g]? = some (.cells (amEnc a).toArray 46 (0, 0))) (hT := fun v w w' hb ⟨g, hv, hh⟩ => ⟨g, hv, (hb.block _ (lt_of_heap hh)).trans hh⟩) (hf := by kernel_rfl) (hS := by rfl) (hm := by rfl) (hg := by kernel_rfl) (hk := by kernel_rfl)
  · dsimp only [oblS]
    rintro w9 h9 T' hT'
    go_simp
    exact ⟨(Below.refl _ w9).alloc (Nat.le_refl _) _, hT' _ _ ⟨_, rfl, World.alloc_heap_new w9 _⟩⟩
  dsimp only [List.nil_append, List.cons_append]
  apply qs_any (mask := [false, false, false, true, false, true]) (S := (Below wc.heap.size wc)) (m := (fun _ => w.heap.size)) (T := fun v W => FwB q a t w.heap.size X Y Z (.slice q.aA q.an q.ac) (.slice q.tA q.tn q.tc) (.slice q.tA q.tn q.tc) w W ∧ KpR w5.heap.size w6 W ∧ W.ownsRow wc.heap.size 46 9 v (q.an + 1) ((q.atoms ++ [a]).flatMap amEnc)) (hT := fun v w w' hb ⟨hf, o0, ho⟩ => ⟨hf.keep hb, o0.keep hb, own_keepB ho fun g hg => hb.block g (ho.lt g hg).2⟩) (hf := by kernel_rfl) (hS := by rfl) (hm := by rfl) (hg := by kernel_rfl) (hk := by kernel_rfl)
  · dsimp only [oblS]
    intro v46 v48
    rintro w9 ⟨⟨h9, t46⟩, t48⟩ T' hT'
    obtain ⟨g, e0, hg0⟩ := t48
    subst e0
    have hl5 := t46.lt
    have rw9 : Rows 9 (Rep.flat amEnc) w9 w9.heap.size (some ⟨g, 0, none⟩) 1 1 [a] := rows_of_heap (l := [a]) amEnc_len hg0 (Nat.le_refl _) (by show 1 ≤ 9223372036854775807; decide) rfl
    obtain ⟨v', w', hrun, hown', hg', hat⟩ := run_append_rows (P := Tryd.prog) (ty := 24) (enc := amEnc) Tryd.underlying24 hji hjz hjs hjb rfl amEnc_len (by decide) amEnc_one t46 rw9 (by omega) (by omega) h9.size
    have hk9 : ∀ x, x < wc.heap.size → w'.heap[x]? = wc.heap[x]? := fun x hx => (hg'.block x (by have := h9.size; omega) (fun e => by have := (hl5 x e.symm).1; omega)).trans (h9.block x hx)
    have hb9 : Below w.heap.size w9 w' := (Below.refl _ _).grown hg' (by have := h9.size; omega) fun g e => by have := (hl5 g e).1; omega
    exact relUpon_append (.tmp 46) (.tmp 48) 24 rfl rfl rfl hrun hb9 (hT' _ _ ⟨HFb.out.keepN hXr hk9 ((h9.mono hbr).trans hb9), HO0.out.keepN hk9, hown'⟩)
  dsimp only [List.nil_append, List.cons_append]
  apply qs_det (mask := [false, false, false, false, false, false, false]) (S := (Below (w.heap.size) wc)) (m := (fun w => w.heap.size)) (hS := by rfl) (hm := by rfl) (hg := by kernel_rfl) (hk := by kernel_rfl)
  · dsimp only [oblS]
    rintro w9 h9
    go_simp
    exact ⟨Below.refl _ _, rfl⟩
  dsimp only [List.nil_append, List.cons_append]
  apply qs_any (mask := [false, false, false, false, false, false, true, true]) (S := (Below (w.heap.size) wc)) (m := (fun _ => w.heap.size)) (T := fun _ W => ∃ A c, FwB q a t w.heap.size X Y Z (.slice A (q.an + 1) c) (.slice q.tA q.tn q.tc) (.slice q.tA q.tn q.tc) w W ∧ KpR w5.heap.size w6 W ∧ W.ownsRow wc.heap.size 46 9 (.slice A (q.an + 1) c) (q.an + 1) ((q.atoms ++ [a]).flatMap amEnc)) (hT := fun v w w' hb ⟨A, c, hf, o0, ho⟩ => ⟨A, c, hf.keep hb, o0.keep hb, own_keepB ho fun g hg => hb.block g (ho.lt g hg).2⟩) (hf := by kernel_rfl) (hS := by rfl) (hm := by rfl) (hg := by kernel_rfl) (hk := by kernel_rfl)
  · dsimp only [oblS]
    intro v49
    rintro w9 ⟨h9, t49⟩ T' hT'
    obtain ⟨hf, o0, ho⟩ := t49
    obtain ⟨A, c, e0, _⟩ := own_rows amEnc_len (by decide) ho
    subst e0
    have x9 := cell_of_heap (o := 2) hf.xb
    have f9 := frozen_of_heap (o := 2) hf.xb
    simp only [List.getElem?_toArray, List.getElem?_cons_zero, List.getElem?_cons_succ] at x9
    have l9 := lt_of_cell x9
    have HF := hidp hf
    have HO := hidp ho
    have HP0 := hidp o0
    clear hf ho o0
    go_simp
    exact ⟨(Below.refl _ _).setCell (p := ⟨X, 2, none⟩) hbX _, hT' _ _ ⟨A, c, HF.out.setX _, HP0.out.setK (.inl HX6'.out), own_set_box HO.out HF.out.xb (by decide)⟩⟩
  dsimp only [List.nil_append, List.cons_append]
  refine qs_end [true, false, false, true, false, true, true, false, false] (by kernel_rfl) (by kernel_rfl) ?_
  dsimp only [finQ]
  rintro v43 v46 v48 v49 vn8 w8 ⟨hb8, A9, c9, hf8, o0, ho8⟩
  have HF8 := hidp hf8
  have HQ0 := hidp o0
  have HOw : Hid (InM 46 9 amEnc w w.heap.size (.slice A9 (q.an + 1) c9) (q.an + 1) (q.atoms ++ [a]) w8) := .inr (own_lower ho8 (by have := HFb.out.lx; have := HFb.out.lt.1; omega))
  have HOo := hidp ho8
  have HOz : Hid (w.heap.size + 2 < wc.heap.size ∧ w.heap.size + 1 ≤ wc.heap.size) := ⟨HFb.out.lt.2.2.2, by have := HFb.out.lt.2.2.2; omega⟩
  clear hf8 o0 ho8 hb8 x0 x1 x2 x3 l0 k0 k1 k2 k3 k4 k5 k6 k7 k8 kl m0 m1 m2 m3 m4 ml hbr hXr hbX HLs HFb HO0
  go_simp
  clear HKc
  have m0 : w8.cell? ⟨w.heap.size + 1 + 1, 0, none⟩ = some (.int .i64 t.op) := HF8.out.test.1
  have fm : w8.frozen? ⟨w.heap.size + 1 + 1, 0, none⟩ = false := frozen_of_heap (o := 0) HF8.out.tb
  have ml : w.heap.size + 1 + 1 < w8.heap.size := HF8.out.test.2.2.2.2.2
  go_wp2_with fail
  obtain ⟨wd, hwx⟩ : ∃ W, w8.setCell ⟨w.heap.size + 1 + 1, 0, none⟩ (.int .i64 0) = W := ⟨_, rfl⟩
  rw [hwx]
  have HFb : Hid (FwB q a ⟨0, t.a, t.b⟩ w.heap.size X Y Z (.slice A9 (q.an + 1) c9) (.slice q.tA q.tn q.tc) (.slice q.tA q.tn q.tc) w wd) := by
    have h := HF8.out.setT 0
    rw [← hwx]
    exact h
  have HKd : Hid (KpR w5.heap.size w6 wd) := by show _; rw [← hwx]; exact HQ0.out.setK (.inr (by have := HZ5.out; omega))
  have HAd : Hid (InM 46 9 amEnc w w.heap.size (.slice A9 (q.an + 1) c9) (q.an + 1) (q.atoms ++ [a]) wd) := by show _; rw [← hwx]; exact HOw.out.set HF8.out.tb (by decide)
  clear m0 fm ml hwx HF8
  clear HQ0 HOw HOo HOz
  obtain ⟨x0, x1, x2, x3, l0⟩ := HFb.out.qb.cells
  obtain ⟨k0, k1, k2, k3, k4, k5, k6, k7, k8, kl⟩ := HFb.out.atom
  have m0 : wd.cell? ⟨w.heap.size + 1 + 1, 0, none⟩ = some (.int .i64 0) := HFb.out.test.1
  have m1 : wd.cell? ⟨w.heap.size + 1 + 1, 1, none⟩ = some (.bool t.a.var) := HFb.out.test.2.1
  have m2 : wd.cell? ⟨w.heap.size + 1 + 1, 2, none⟩ = some (.int .i64 t.a.n) := HFb.out.test.2.2.1
  have m3 : wd.cell? ⟨w.heap.size + 1 + 1, 3, none⟩ = some (.bool t.b.var) := HFb.out.test.2.2.2.1
  have m4 : wd.cell? ⟨w.heap.size + 1 + 1, 4, none⟩ = some (.int .i64 t.b.n) := HFb.out.test.2.2.2.2.1
  have ml : w.heap.size + 1 + 1 < wd.heap.size := HFb.out.test.2.2.2.2.2
  have hbr : w.heap.size ≤ wd.heap.size := HFb.out.bel.size
  have hXr : X < wd.heap.size ∧ Y < wd.heap.size ∧ Z < wd.heap.size := ⟨HFb.out.lt.1, HFb.out.lt.2.1, HFb.out.lt.2.2.1⟩
  have hbX : w.heap.size ≤ Y := by have := HFb.out.ly; omega
  have HLs : Hid (∀ W', Below wd.heap.size wd W' → Rows 5 (Rep.flat teEnc) W' W'.heap.size q.tA q.tn q.tc q.tests) := fun W' h => (HQu.out _ (HFb.out.bel.trans (h.mono hbr))).2.2.2
  have HO0 := HKd
  have HO1 := HAd
  go_wp2_with fail
  refine wp_region_QS (w.heap.size) (fun k => k == 6 || k == 8) (fun k => k == 0 || k == 3 || k == 5 || k == 6 || k == 8) (fun k => k == 0 || k == 1 || k == 2 || k == 3 || k == 4 || k == 5 || k == 6) (hbr) (by kernel_rfl) (by kernel_rfl) (by kernel_rfl) (by kernel_rfl) ?_
  apply qs_any (mask := []) (S := (Below wd.heap.size wd)) (m := (fun w => w.heap.size)) (T := fun v W => ∃ g, v = .slice (some ⟨g, 0, none⟩) 0 0 ∧ wd.heap.size ≤ g ∧ W.heap[g]? = some (.cells #[] 48 (0, 0))) (hT := fun v w w' hb ⟨g, hv, hg, hh⟩ => ⟨g, hv, hg, (hb.block _ (lt_of_heap hh)).trans hh⟩) (hf := by kernel_rfl) (hS := by rfl) (hm := by rfl) (hg := by kernel_rfl) (hk := by kernel_rfl)
  · dsimp only [oblS]
    rintro w9 h9 T' hT'
    go_simp
    exact ⟨(Below.refl _ w9).alloc (Nat.le_refl _) _, hT' _ _ ⟨_, rfl, h9.size, World.alloc_heap_new w9 _⟩⟩
  dsimp only [List.nil_append, List.cons_append]
  apply qs_det (mask := [false]) (S := (Below wd.heap.size wd)) (m := (fun w => w.heap.size)) (hS := by rfl) (hm := by rfl) (hg := by kernel_rfl) (hk := by kernel_rfl)
  · dsimp only [oblS]
    rintro w9 h9
    go_simp
    exact ⟨Below.refl _ _, rfl⟩
  dsimp only [List.nil_append, List.cons_append]
  apply qs_det (mask := [false, true]) (S := (Below wd.heap.size wd)) (m := (fun w => w.heap.size)) (hS := by rfl) (hm := by rfl) (hg := by kernel_rfl) (hk := by kernel_rfl)
  · dsimp only [oblS]
    rintro w9 h9
    have hc9 := (bcell h9).1
    go_simp
    exact ⟨Below.refl _ _, rfl⟩
  dsimp only [List.nil_append, List.cons_append]
  apply qs_any (mask := [true, false, true]) (S := (Below wd.heap.size wd)) (m := (fun w => w.heap.size)) (T := fun v W => W.ownsRow wd.heap.size 48 5 v q.tn (q.tests.flatMap teEnc)) (hT := fun v w w' hb h => own_keepB h fun g hg => hb.block g (h.lt g hg).2) (hf := by kernel_rfl) (hS := by rfl) (hm := by rfl) (hg := by kernel_rfl) (hk := by kernel_rfl)
  · dsimp only [oblS]
    intro v52
    rintro w9 ⟨h9, t52⟩ T' hT'
    obtain ⟨g, e0, hg0, hh0⟩ := t52
    subst e0
    obtain ⟨v', w', hrun, hown', hb'⟩ := run_append_empty (P := Tryd.prog) (ty := 25) (enc := teEnc) Tryd.underlying25 hti htz hts htb rfl teEnc_len (by decide) teEnc_one hh0 hg0 (HLs.out w9 h9) (by omega) (by omega)
    exact relUpon_append (.tmp 52) (.tmp 54) 25 rfl rfl rfl hrun hb' (hT' _ _ hown')
  dsimp only [List.nil_append, List.cons_append]
  apply qs_det (mask := [false, false, false, false]) (S := (Below wd.heap.size wd)) (m := (fun w => w.heap.size)) (hS := by rfl) (hm := by rfl) (hg := by kernel_rfl) (hk := by kernel_rfl)
  · dsimp only [oblS]
    rintro w9 h9
    have hc9 := (bcell h9).1
    go_simp
    exact ⟨Below.refl _ _, rfl⟩
  dsimp only [List.nil_append, List.cons_append]
  apply qs_any (mask := [false, false, false, false, true]) (S := (Below wd.heap.size wd)) (m := (fun w => w.heap.size)) (T := fun v W => ∃ g, v = .slice (some ⟨g, 0, none⟩) 1 1 ∧ W.heap[g]? = some (.cells (teEnc (⟨0, t.a, t.b⟩ : Te)).toArray 48 (0, 0))) (hT := fun v w w' hb ⟨g, hv, hh⟩ => ⟨g, hv, (hb.block _ (lt_of_heap hh)).trans hh⟩) (hf := by kernel_rfl) (hS := by rfl) (hm := by rfl) (hg := by kernel_rfl) (hk := by kernel_rfl)
  · dsimp only [oblS]
    rintro w9 h9 T' hT'
    go_simp
    exact ⟨(Below.refl _ w9).alloc (Nat.le_refl _) _, hT' _ _ ⟨_, rfl, World.alloc_heap_new w9 _⟩⟩
  dsimp only [List.nil_append, List.cons_append]
  apply qs_any (mask := [false, false, false, true, false, true]) (S := (Below wd.heap.size wd)) (m := (fun _ => w.heap.size)) (T := fun v W => FwB q a ⟨0, t.a, t.b⟩ w.heap.size X Y Z (.slice A9 (q.an + 1) c9) (.slice q.tA q.tn q.tc) (.slice q.tA q.tn q.tc) w W ∧ KpR w5.heap.size w6 W ∧ InM 46 9 amEnc w w.heap.size (.slice A9 (q.an + 1) c9) (q.an + 1) (q.atoms ++ [a]) W ∧ W.ownsRow wd.heap.size 48 5 v (q.tn + 1) ((q.tests ++ [(⟨0, t.a, t.b⟩ : Te)]).flatMap teEnc)) (hT := fun v w w' hb ⟨hf, o0, o1, ho⟩ => ⟨hf.keep hb, o0.keep hb, o1.keep hb, own_keepB ho fun g hg => hb.block g (ho.lt g hg).2⟩) (hf := by kernel_rfl) (hS := by rfl) (hm := by rfl) (hg := by kernel_rfl) (hk := by kernel_rfl)
  · dsimp only [oblS]
    intro v55 v57
    rintro w9 ⟨⟨h9, t55⟩, t57⟩ T' hT'
    obtain ⟨g, e0, hg0⟩ := t57
    subst e0
    have hl5 := t55.lt
    have rw9 : Rows 5 (Rep.flat teEnc) w9 w9.heap.size (some ⟨g, 0, none⟩) 1 1 [(⟨0, t.a, t.b⟩ : Te)] := rows_of_heap (l := [(⟨0, t.a, t.b⟩ : Te)]) teEnc_len hg0 (Nat.le_refl _) (by show 1 ≤ 9223372036854775807; decide) rfl
    obtain ⟨v', w', hrun, hown', hg', hat⟩ := run_append_rows (P := Tryd.prog) (ty := 25) (enc := teEnc) Tryd.underlying25 hti htz hts htb rfl teEnc_len (by decide) teEnc_one t55 rw9 (by omega) (by omega) h9.size
    have hk9 : ∀ x, x < wd.heap.size → w'.heap[x]? = wd.heap[x]? := fun x hx => (hg'.block x (by have := h9.size; omega) (fun e => by have := (hl5 x e.symm).1; omega)).trans (h9.block x hx)
    have hb9 : Below w.heap.size w9 w' := (Below.refl _ _).grown hg' (by have := h9.size; omega) fun g e => by have := (hl5 g e).1; omega
    exact relUpon_append (.tmp 55) (.tmp 57) 25 rfl rfl rfl hrun hb9 (hT' _ _ ⟨HFb.out.keepN hXr hk9 ((h9.mono hbr).trans hb9), HO0.out.keepN hk9, HO1.out.keepN hk9, hown'⟩)
  dsimp only [List.nil_append, List.cons_append]
  apply qs_det (mask := [false, false, false, false, false, false, false]) (S := (Below (w.heap.size) wd)) (m := (fun w => w.heap.size)) (hS := by rfl) (hm := by rfl) (hg := by kernel_rfl) (hk := by kernel_rfl)
  · dsimp only [oblS]
    rintro w9 h9
    go_simp
    exact ⟨Below.refl _ _, rfl⟩
  dsimp only [List.nil_append, List.cons_append]
  apply qs_any (mask := [false, false, false, false, false, false, true, true]) (S := (Below (w.heap.size) wd)) (m := (fun _ => w.heap.size)) (T := fun _ W => ∃ A c, FwB q a ⟨0, t.a, t.b⟩ w.heap.size X Y Z (.slice A9 (q.an + 1) c9) (.slice A (q.tn + 1) c) (.slice q.tA q.tn q.tc) w W ∧ KpR w5.heap.size w6 W ∧ InM 46 9 amEnc w w.heap.size (.slice A9 (q.an + 1) c9) (q.an + 1) (q.atoms ++ [a]) W ∧ W.ownsRow wd.heap.size 48 5 (.slice A (q.tn + 1) c) (q.tn + 1) ((q.tests ++ [(⟨0, t.a, t.b⟩ : Te)]).flatMap teEnc)) (hT := fun v w w' hb ⟨A, c, hf, o0, o1, ho⟩ => ⟨A, c, hf.keep hb, o0.keep hb, o1.keep hb, own_keepB ho fun g hg => hb.block g (ho.lt g hg).2⟩) (hf := by kernel_rfl) (hS := by rfl) (hm := by rfl) (hg := by kernel_rfl) (hk := by kernel_rfl)
  · dsimp only [oblS]
    intro v58
    rintro w9 ⟨h9, t58⟩ T' hT'
    obtain ⟨hf, o0, o1, ho⟩ := t58
    obtain ⟨A, c, e0, _⟩ := own_rows teEnc_len (by decide) ho
    subst e0
    have x9 := cell_of_heap (o := 3) hf.yb
    have f9 := frozen_of_heap (o := 3) hf.yb
    simp only [List.getElem?_toArray, List.getElem?_cons_zero, List.getElem?_cons_succ] at x9
    have l9 := lt_of_cell x9
    have HF := hidp hf
    have HO := hidp ho
    have HP0 := hidp o0
    have HP1 := hidp o1
    clear hf ho o0 o1
    go_simp
    exact ⟨(Below.refl _ _).setCell (p := ⟨Y, 3, none⟩) hbX _, hT' _ _ ⟨A, c, HF.out.setY _, HP0.out.setK (.inl HY6'.out), HP1.out.set HF.out.yb (by decide), own_set_box HO.out HF.out.yb (by decide)⟩⟩
  dsimp only [List.nil_append, List.cons_append]
  refine qs_end [true, false, false, true, false, true, true, false, false] (by kernel_rfl) (by kernel_rfl) ?_
  dsimp only [finQ]
  rintro v52 v55 v57 v58 vn8 w10 ⟨hb8, A11, c11, hf8, o0, o1, ho8⟩
  have HF8 := hidp hf8
  have HQ0 := hidp o0
  have HQ1 := hidp o1
  have HOw : Hid (InM 48 5 teEnc w w.heap.size (.slice A11 (q.tn + 1) c11) (q.tn + 1) (q.tests ++ [(⟨0, t.a, t.b⟩ : Te)]) w10) := .inr (own_lower ho8 (by have := HFb.out.lx; have := HFb.out.lt.1; omega))
  have HOo := hidp ho8
  have HOz : Hid (w.heap.size + 2 < wd.heap.size ∧ w.heap.size + 1 ≤ wd.heap.size) := ⟨HFb.out.lt.2.2.2, by have := HFb.out.lt.2.2.2; omega⟩
  clear hf8 o0 o1 ho8 hb8 x0 x1 x2 x3 l0 k0 k1 k2 k3 k4 k5 k6 k7 k8 kl m0 m1 m2 m3 m4 ml hbr hXr hbX HLs HFb HO0 HO1
  go_simp
  clear HKd HAd
  have m0 : w10.cell? ⟨w.heap.size + 1 + 1, 0, none⟩ = some (.int .i64 0) := HF8.out.test.1
  have fm : w10.frozen? ⟨w.heap.size + 1 + 1, 0, none⟩ = false := frozen_of_heap (o := 0) HF8.out.tb
  have ml : w.heap.size + 1 + 1 < w10.heap.size := HF8.out.test.2.2.2.2.2
  go_wp2_with fail
  obtain ⟨we, hwx⟩ : ∃ W, w10.setCell ⟨w.heap.size + 1 + 1, 0, none⟩ (.int .i64 1) = W := ⟨_, rfl⟩
  rw [hwx]
  have HFb : Hid (FwB q a ⟨1, t.a, t.b⟩ w.heap.size X Y Z (.slice A9 (q.an + 1) c9) (.slice A11 (q.tn + 1) c11) (.slice q.tA q.tn q.tc) w we) := by
    have h := HF8.out.setT 1
    rw [← hwx]
    exact h
  have HKe : Hid (KpR w5.heap.size w6 we) := by show _; rw [← hwx]; exact HQ0.out.setK (.inr (by have := HZ5.out; omega))
  have HAe : Hid (InM 46 9 amEnc w w.heap.size (.slice A9 (q.an + 1) c9) (q.an + 1) (q.atoms ++ [a]) we) := by show _; rw [← hwx]; exact HQ1.out.set HF8.out.tb (by decide)
  have HTe : Hid (InM 48 5 teEnc w w.heap.size (.slice A11 (q.tn + 1) c11) (q.tn + 1) (q.tests ++ [(⟨0, t.a, t.b⟩ : Te)]) we) := by show _; rw [← hwx]; exact .inr (own_lower (own_keepB HOo.out fun g hg => heap_set_ne rfl (by have := (HOo.out.lt g hg).1; have := HOz.out.1; omega) _ _) HOz.out.2)
  clear m0 fm ml hwx HF8
  clear HQ0 HQ1 HOw HOo HOz
  obtain ⟨x0, x1, x2, x3, l0⟩ := HFb.out.qb.cells
  obtain ⟨k0, k1, k2, k3, k4, k5, k6, k7, k8, kl⟩ := HFb.out.atom
  have m0 : we.cell? ⟨w.heap.size + 1 + 1, 0, none⟩ = some (.int .i64 1) := HFb.out.test.1
  have m1 : we.cell? ⟨w.heap.size + 1 + 1, 1, none⟩ = some (.bool t.a.var) := HFb.out.test.2.1
  have m2 : we.cell? ⟨w.heap.size + 1 + 1, 2, none⟩ = some (.int .i64 t.a.n) := HFb.out.test.2.2.1
  have m3 : we.cell? ⟨w.heap.size + 1 + 1, 3, none⟩ = some (.bool t.b.var) := HFb.out.test.2.2.2.1
  have m4 : we.cell? ⟨w.heap.size + 1 + 1, 4, none⟩ = some (.int .i64 t.b.n) := HFb.out.test.2.2.2.2.1
  have ml : w.heap.size + 1 + 1 < we.heap.size := HFb.out.test.2.2.2.2.2
  have hbr : w.heap.size ≤ we.heap.size := HFb.out.bel.size
  have hXr : X < we.heap.size ∧ Y < we.heap.size ∧ Z < we.heap.size := ⟨HFb.out.lt.1, HFb.out.lt.2.1, HFb.out.lt.2.2.1⟩
  have hbX : w.heap.size ≤ Z := by have := HFb.out.lz; omega
  have HLs : Hid (∀ W', Below we.heap.size we W' → Rows 5 (Rep.flat teEnc) W' W'.heap.size q.tA q.tn q.tc q.tests) := fun W' h => (HQu.out _ (HFb.out.bel.trans (h.mono hbr))).2.2.2
  have HO0 := HKe
  have HO1 := HAe
  have HO2 := HTe
  go_wp2_with fail
  refine wp_region_QS (w.heap.size) (fun k => k == 6 || k == 8) (fun k => k == 0 || k == 3 || k == 5 || k == 6 || k == 8) (fun k => k == 0 || k == 1 || k == 2 || k == 3 || k == 4 || k == 5 || k == 6) (hbr) (by kernel_rfl) (by kernel_rfl) (by kernel_rfl) (by kernel_rfl) ?_
  apply qs_any (mask := []) (S := (Below we.heap.size we)) (m := (fun w => w.heap.size)) (T := fun v W => ∃ g, v = .slice (some ⟨g, 0, none⟩) 0 0 ∧ we.heap.size ≤ g ∧ W.heap[g]? = some (.cells #[] 48 (0, 0))) (hT := fun v w w' hb ⟨g, hv, hg, hh⟩ => ⟨g, hv, hg, (hb.block _ (lt_of_heap hh)).trans hh⟩) (hf := by kernel_rfl) (hS := by rfl) (hm := by rfl) (hg := by kernel_rfl) (hk := by kernel_rfl)
  · dsimp only [oblS]
    rintro w9 h9 T' hT'
    go_simp
    exact ⟨(Below.refl _ w9).alloc (Nat.le_refl _) _, hT' _ _ ⟨_, rfl, h9.size, World.alloc_heap_new w9 _⟩⟩
  dsimp only [List.nil_append, List.cons_append]
  apply qs_det (mask := [false]) (S := (Below we.heap.size we)) (m := (fun w => w.heap.size)) (hS := by rfl) (hm := by rfl) (hg := by kernel_rfl) (hk := by kernel_rfl)
  · dsimp only [oblS]
    rintro w9 h9
    go_simp
    exact ⟨Below.refl _ _, rfl⟩
  dsimp only [List.nil_append, List.cons_append]
  apply qs_det (mask := [false, true]) (S := (Below we.heap.size we)) (m := (fun w => w.heap.size)) (hS := by rfl) (hm := by rfl) (hg := by kernel_rfl) (hk := by kernel_rfl)
  · dsimp only [oblS]
    rintro w9 h9
    have hc9 := (bcell h9).1
    go_simp
    exact ⟨Below.refl _ _, rfl⟩
  dsimp only [List.nil_append, List.cons_append]
  apply qs_any (mask := [true, false, true]) (S := (Below we.heap.size we)) (m := (fun w => w.heap.size)) (T := fun v W => W.ownsRow we.heap.size 48 5 v q.tn (q.tests.flatMap teEnc)) (hT := fun v w w' hb h => own_keepB h fun g hg => hb.block g (h.lt g hg).2) (hf := by kernel_rfl) (hS := by rfl) (hm := by rfl) (hg := by kernel_rfl) (hk := by kernel_rfl)
  · dsimp only [oblS]
    intro v61
    rintro w9 ⟨h9, t61⟩ T' hT'
    obtain ⟨g, e0, hg0, hh0⟩ := t61
    subst e0
    obtain ⟨v', w', hrun, hown', hb'⟩ := run_append_empty (P := Tryd.prog) (ty := 25) (enc := teEnc) Tryd.underlying25 hti htz hts htb rfl teEnc_len (by decide) teEnc_one hh0 hg0 (HLs.out w9 h9) (by omega) (by omega)
    exact relUpon_append (.tmp 61) (.tmp 63) 25 rfl rfl rfl hrun hb' (hT' _ _ hown')
  dsimp only [List.nil_append, List.cons_append]
  apply qs_det (mask := [false, false, false, false]) (S := (Below we.heap.size we)) (m := (fun w => w.heap.size)) (hS := by rfl) (hm := by rfl) (hg := by kernel_rfl) (hk := by kernel_rfl)
  · dsimp only [oblS]
    rintro w9 h9
    have hc9 := (bcell h9).1
    go_simp
    exact ⟨Below.refl _ _, rfl⟩
  dsimp only [List.nil_append, List.cons_append]
  apply qs_any (mask := [false, false, false, false, true]) (S := (Below we.heap.size we)) (m := (fun w => w.heap.size)) (T := fun v W => ∃ g, v = .slice (some ⟨g, 0, none⟩) 1 1 ∧ W.heap[g]? = some (.cells (teEnc (⟨1, t.a, t.b⟩ : Te)).toArray 48 (0, 0))) (hT := fun v w w' hb ⟨g, hv, hh⟩ => ⟨g, hv, (hb.block _ (lt_of_heap hh)).trans hh⟩) (hf := by kernel_rfl) (hS := by rfl) (hm := by rfl) (hg := by kernel_rfl) (hk := by kernel_rfl)
  · dsimp only [oblS]
    rintro w9 h9 T' hT'
    go_simp
    exact ⟨(Below.refl _ w9).alloc (Nat.le_refl _) _, hT' _ _ ⟨_, rfl, World.alloc_heap_new w9 _⟩⟩
  dsimp only [List.nil_append, List.cons_append]
  apply qs_any (mask := [false, false, false, true, false, true]) (S := (Below we.heap.size we)) (m := (fun _ => w.heap.size)) (T := fun v W => FwB q a ⟨1, t.a, t.b⟩ w.heap.size X Y Z (.slice A9 (q.an + 1) c9) (.slice A11 (q.tn + 1) c11) (.slice q.tA q.tn q.tc) w W ∧ KpR w5.heap.size w6 W ∧ InM 46 9 amEnc w w.heap.size (.slice A9 (q.an + 1) c9) (q.an + 1) (q.atoms ++ [a]) W ∧ InM 48 5 teEnc w w.heap.size (.slice A11 (q.tn + 1) c11) (q.tn + 1) (q.tests ++ [(⟨0, t.a, t.b⟩ : Te)]) W ∧ W.ownsRow we.heap.size 48 5 v (q.tn + 1) ((q.tests ++ [(⟨1, t.a, t.b⟩ : Te)]).flatMap teEnc)) (hT := fun v w w' hb ⟨hf, o0, o1, o2, ho⟩ => ⟨hf.keep hb, o0.keep hb, o1.keep hb, o2.keep hb, own_keepB ho fun g hg => hb.block g (ho.lt g hg).2⟩) (hf := by kernel_rfl) (hS := by rfl) (hm := by rfl) (hg := by kernel_rfl) (hk := by kernel_rfl)
  · dsimp only [oblS]
    intro v64 v66
    rintro w9 ⟨⟨h9, t64⟩, t66⟩ T' hT'
    obtain ⟨g, e0, hg0⟩ := t66
    subst e0
    have hl5 := t64.lt
    have rw9 : Rows 5 (Rep.flat teEnc) w9 w9.heap.size (some ⟨g, 0, none⟩) 1 1 [(⟨1, t.a, t.b⟩ : Te)] := rows_of_heap (l := [(⟨1, t.a, t.b⟩ : Te)]) teEnc_len hg0 (Nat.le_refl _) (by show 1 ≤ 9223372036854775807; decide) rfl
    obtain ⟨v', w', hrun, hown', hg', hat⟩ := run_append_rows (P := Tryd.prog) (ty := 25) (enc := teEnc) Tryd.underlying25 hti htz hts htb rfl teEnc_len (by decide) teEnc_one t64 rw9 (by omega) (by omega) h9.size
    have hk9 : ∀ x, x < we.heap.size → w'.heap[x]? = we.heap[x]? := fun x hx => (hg'.block x (by have := h9.size; omega) (fun e => by have := (hl5 x e.symm).1; omega)).trans (h9.block x hx)
    have hb9 : Below w.heap.size w9 w' := (Below.refl _ _).grown hg' (by have := h9.size; omega) fun g e => by have := (hl5 g e).1; omega
    exact relUpon_append (.tmp 64) (.tmp 66) 25 rfl rfl rfl hrun hb9 (hT' _ _ ⟨HFb.out.keepN hXr hk9 ((h9.mono hbr).trans hb9), HO0.out.keepN hk9, HO1.out.keepN hk9, HO2.out.keepN hk9, hown'⟩)
  dsimp only [List.nil_append, List.cons_append]
  apply qs_det (mask := [false, false, false, false, false, false, false]) (S := (Below (w.heap.size) we)) (m := (fun w => w.heap.size)) (hS := by rfl) (hm := by rfl) (hg := by kernel_rfl) (hk := by kernel_rfl)
  · dsimp only [oblS]
    rintro w9 h9
    go_simp
    exact ⟨Below.refl _ _, rfl⟩
  dsimp only [List.nil_append, List.cons_append]
  apply qs_any (mask := [false, false, false, false, false, false, true, true]) (S := (Below (w.heap.size) we)) (m := (fun _ => w.heap.size)) (T := fun _ W => ∃ A c, FwB q a ⟨1, t.a, t.b⟩ w.heap.size X Y Z (.slice A9 (q.an + 1) c9) (.slice A11 (q.tn + 1) c11) (.slice A (q.tn + 1) c) w W ∧ KpR w5.heap.size w6 W ∧ InM 46 9 amEnc w w.heap.size (.slice A9 (q.an + 1) c9) (q.an + 1) (q.atoms ++ [a]) W ∧ InM 48 5 teEnc w w.heap.size (.slice A11 (q.tn + 1) c11) (q.tn + 1) (q.tests ++ [(⟨0, t.a, t.b⟩ : Te)]) W ∧ W.ownsRow we.heap.size 48 5 (.slice A (q.tn + 1) c) (q.tn + 1) ((q.tests ++ [(⟨1, t.a, t.b⟩ : Te)]).flatMap teEnc)) (hT := fun v w w' hb ⟨A, c, hf, o0, o1, o2, ho⟩ => ⟨A, c, hf.keep hb, o0.keep hb, o1.keep hb, o2.keep hb, own_keepB ho fun g hg => hb.block g (ho.lt g hg).2⟩) (hf := by kernel_rfl) (hS := by rfl) (hm := by rfl) (hg := by kernel_rfl) (hk := by kernel_rfl)
  · dsimp only [oblS]
    intro v67
    rintro w9 ⟨h9, t67⟩ T' hT'
    obtain ⟨hf, o0, o1, o2, ho⟩ := t67
    obtain ⟨A, c, e0, _⟩ := own_rows teEnc_len (by decide) ho
    subst e0
    have x9 := cell_of_heap (o := 3) hf.zb
    have f9 := frozen_of_heap (o := 3) hf.zb
    simp only [List.getElem?_toArray, List.getElem?_cons_zero, List.getElem?_cons_succ] at x9
    have l9 := lt_of_cell x9
    have HF := hidp hf
    have HO := hidp ho
    have HP0 := hidp o0
    have HP1 := hidp o1
    have HP2 := hidp o2
    clear hf ho o0 o1 o2
    go_simp
    exact ⟨(Below.refl _ _).setCell (p := ⟨Z, 3, none⟩) hbX _, hT' _ _ ⟨A, c, HF.out.setZ _, HP0.out.setK (.inl HZ6'.out), HP1.out.set HF.out.zb (by decide), HP2.out.set HF.out.zb (by decide), own_set_box HO.out HF.out.zb (by decide)⟩⟩
  dsimp only [List.nil_append, List.cons_append]
  refine qs_end [true, false, false, true, false, true, true, false, false] (by kernel_rfl) (by kernel_rfl) ?_
  dsimp only [finQ]
  rintro v61 v64 v66 v67 vn8 wz ⟨hb8, A13, c13, hf8, o0, o1, o2, ho8⟩
  have HF8 := hidp hf8
  have HQ0 := hidp o0
  have HQ1 := hidp o1
  have HQ2 := hidp o2
  have HOw : Hid (InM 48 5 teEnc w w.heap.size (.slice A13 (q.tn + 1) c13) (q.tn + 1) (q.tests ++ [(⟨1, t.a, t.b⟩ : Te)]) wz) := .inr (own_lower ho8 (by have := HFb.out.lx; have := HFb.out.lt.1; omega))
  have HOo := hidp ho8
  have HOz : Hid (w.heap.size + 2 < we.heap.size ∧ w.heap.size + 1 ≤ we.heap.size) := ⟨HFb.out.lt.2.2.2, by have := HFb.out.lt.2.2.2; omega⟩
  clear hf8 o0 o1 o2 ho8 hb8 x0 x1 x2 x3 l0 k0 k1 k2 k3 k4 k5 k6 k7 k8 kl m0 m1 m2 m3 m4 ml hbr hXr hbX HLs HFb HO0 HO1 HO2
  go_simp
  have HBz := hidp HF8.out.bel
  have hqi := HQu.out _ HBz.out
  have HX : Hid (∀ W, Below wz.heap.size wz W → QuIn (addAtom q A9 (q.an + 1) c9 a) W W.heap.size) := fun W h => QuIn.keep (W := wz) (n₀ := wz.heap.size) ⟨hqi.1, hqi.2.1, HQ1.out.sl amEnc_len (by decide) HBz.out, hqi.2.2.2⟩ h.size h.block
  have HY : Hid (∀ W, Below wz.heap.size wz W → QuIn (addTest q A11 (q.tn + 1) c11 ⟨0, t.a, t.b⟩) W W.heap.size) := fun W h => QuIn.keep (W := wz) (n₀ := wz.heap.size) ⟨hqi.1, hqi.2.1, hqi.2.2.1, HQ2.out.sl teEnc_len (by decide) HBz.out⟩ h.size h.block
  have HZ : Hid (∀ W, Below wz.heap.size wz W → QuIn (addTest q A13 (q.tn + 1) c13 ⟨1, t.a, t.b⟩) W W.heap.size) := fun W h => QuIn.keep (W := wz) (n₀ := wz.heap.size) ⟨hqi.1, hqi.2.1, hqi.2.2.1, HOw.out.sl teEnc_len (by decide) HBz.out⟩ h.size h.block
  have HR : Hid (∀ W, Below wz.heap.size wz W → RowsIn W A1 n1 c1 (rowsV q l)) := by
    have h0 : RowsIn wz A1 n1 c1 (rowsV q l) := HR6.out wz (by have h1 := HX6'.out; have h2 := HF8.out.lt.1; omega) HQ0.out
    exact fun W h => h0.keep h
  clear hqi HQ0 HQ1 HQ2 HOw HR6 HOo HOz
  obtain ⟨X0, X1, X2, X3, lX⟩ := HF8.out.xc
  go_wp2_with fail

  have HZB : Hid (Below wz.heap.size wz wz) := Below.refl _ _
  have HBW := HBz
  have HFB := HF8
  clear HF8
  refine (rows_any (addAtom q A9 (q.an + 1) c9 a) FA fn fc l _ (HX.out _ HZB.out) (HWd.out _ HBW.out) (HFa.out _ HBW.out) (by omega) (fun _ => few_ful HPw.out rfl)).mono ?_
  rintro e z1 ⟨AX, nX, cX, rfl, hr1, hb1⟩
  have HRnX := hidp hr1
  have HZB' := hidp (HZB.out.trans (hb1.mono HZB.out.size))
  have HBW' := hidp (HBW.out.trans (hb1.mono HBW.out.size))
  have HFB' := hidp (HFB.out.keep hb1)
  have HBBnX := hidp hb1
  clear hb1 hr1 HZB HBW HFB X0 X1 X2 X3 lX
  have HZB := HZB'
  have HBW := HBW'
  have HFB := HFB'
  clear HZB' HBW' HFB'
  obtain ⟨ex, hex⟩ : ∃ e, rowsE (addAtom q A9 (q.an + 1) c9 a) = e := ⟨_, rfl⟩
  rw [hex]
  have Hex := hidp hex
  clear hex
  obtain ⟨X0, X1, X2, X3, lX⟩ := HFB.out.yc
  go_wp2_with fail
  refine (rows_any (addTest q A11 (q.tn + 1) c11 ⟨0, t.a, t.b⟩) FA fn fc l _ (HY.out _ HZB.out) (HWd.out _ HBW.out) (HFa.out _ HBW.out) (by omega) (fun _ => few_ful HPw.out rfl)).mono ?_
  rintro e z2 ⟨AY, nY, cY, rfl, hr1, hb1⟩
  have HRnY := hidp hr1
  have HZB' := hidp (HZB.out.trans (hb1.mono HZB.out.size))
  have HBW' := hidp (HBW.out.trans (hb1.mono HBW.out.size))
  have HFB' := hidp (HFB.out.keep hb1)
  have HBBnY := hidp hb1
  clear hb1 hr1 HZB HBW HFB X0 X1 X2 X3 lX
  have HZB := HZB'
  have HBW := HBW'
  have HFB := HFB'
  clear HZB' HBW' HFB'
  obtain ⟨ey, hey⟩ : ∃ e, rowsE (addTest q A11 (q.tn + 1) c11 ⟨0, t.a, t.b⟩) = e := ⟨_, rfl⟩
  rw [hey]
  have Hey := hidp hey
  clear hey
  obtain ⟨X0, X1, X2, X3, lX⟩ := HFB.out.zc
  go_wp2_with fail
  refine (rows_any (addTest q A13 (q.tn + 1) c13 ⟨1, t.a, t.b⟩) FA fn fc l _ (HZ.out _ HZB.out) (HWd.out _ HBW.out) (HFa.out _ HBW.out) (by omega) (fun _ => few_ful HPw.out rfl)).mono ?_
  rintro e z3 ⟨AZ, nZ, cZ, rfl, hr1, hb1⟩
  have HRnZ := hidp hr1
  have HZB' := hidp (HZB.out.trans (hb1.mono HZB.out.size))
  have HBW' := hidp (HBW.out.trans (hb1.mono HBW.out.size))
  have HFB' := hidp (HFB.out.keep hb1)
  have HBBnZ := hidp hb1
  clear hb1 hr1 HZB HBW HFB X0 X1 X2 X3 lX
  have HZB := HZB'
  have HBW := HBW'
  have HFB := HFB'
  clear HZB' HBW' HFB'
  obtain ⟨ez, hez⟩ : ∃ e, rowsE (addTest q A13 (q.tn + 1) c13 ⟨1, t.a, t.b⟩) = e := ⟨_, rfl⟩
  rw [hez]
  have Hez := hidp hez
  clear hez
  go_upto_block 0 with fail
  have HRx : Hid (∀ W, Below z3.heap.size z3 W → RowsIn W AX nX cX (rowsV (addAtom q A9 (q.an + 1) c9 a) l)) := fun W h => ((HRnX.out.keep HBBnY.out).keep HBBnZ.out).keep h
  have HRy : Hid (∀ W, Below z3.heap.size z3 W → RowsIn W AY nY cY (rowsV (addTest q A11 (q.tn + 1) c11 ⟨0, t.a, t.b⟩) l)) := fun W h => (HRnY.out.keep HBBnZ.out).keep h
  have HRz : Hid (∀ W, Below z3.heap.size z3 W → RowsIn W AZ nZ cZ (rowsV (addTest q A13 (q.tn + 1) c13 ⟨1, t.a, t.b⟩) l)) := fun W h => HRnZ.out.keep h
  have HRq : Hid (∀ W, Below z3.heap.size z3 W → RowsIn W A1 n1 c1 (rowsV q l)) := fun W h => HR.out W (HZB.out.trans (h.mono HZB.out.size))
  have hl1 := (HRq.out _ (Below.refl _ _)).len
  have hlX := (HRx.out _ (Below.refl _ _)).len
  have hlY := (HRy.out _ (Below.refl _ _)).len
  have hlZ := (HRz.out _ (Below.refl _ _)).len
  have HN1 := hidp hl1.1
  have HNY := hidp hlY.1
  have HNZ := hidp hlZ.1
  have h11 := hl1.2.1
  have h12 := hl1.2.2
  have hX1 := hlX.2.1
  have hX2 := hlX.2.2
  have hY1 := hlY.2.1
  have hY2 := hlY.2.2
  have hZ1 := hlZ.2.1
  have hZ2 := hlZ.2.2
  clear hl1 hlX hlY hlZ HRnX HRnY HRnZ HBBnX HBBnY HBBnZ HR
  have HVq := hidp (check_vars HCk.out)
  have HRJ : Hid (rowsV q l = rowsJ q l) := rowsV_ok HCk.out
  have okc : ∀ (y : Qu) (e : Int), rowsE y = e → (e = 0 → checkJ wdJ y = true) ∧ (e = 0 ∨ e = 500) := fun y e h => by
    rcases rowsE_cases y with ⟨h1, h2⟩ | ⟨h1, h2⟩
    · exact ⟨fun _ => h2, .inl (h.symm.trans h1)⟩
    · exact ⟨fun h3 => by rw [h3, h1] at h; exact absurd h (by decide), .inr (h.symm.trans h1)⟩
  have HOx := hidp (okc _ _ Hex.out)
  have HOy := hidp (okc _ _ Hey.out)
  have HOz := hidp (okc _ _ Hez.out)
  have HEyz : Hid (ey = ez) := by
    show _ = _
    rw [← Hey.out, ← Hez.out]
    unfold rowsE
    rw [test_check (A := A11) (B := A13) (n := q.tn + 1) (m := q.tn + 1) (c := c11) (d := c13) wdJ (q := q) (a := t.a) (b := t.b)]
  clear okc
  go_cut [] (fun wx => Below z3.heap.size z3 wx)
  case first =>
    go_wp2_with fail
    go_loopw [20] (fun i wr => ∃ k : Nat, k ≤ nX ∧ i = .int .i64 k ∧ Below z3.heap.size z3 wr) (fun i _ => nX - (intOf i).toNat)
    case atStart => exact ⟨0, by omega, rfl, Below.refl _ _⟩
    case round =>
      obtain ⟨k, hk, rfl, hbr⟩ := hrel
      have HBr := hidp hbr
      clear hbr
      by_cases hx0 : ex = 0
      · have hxb : (ex == 0) = true := by simp [hx0]
        have HX0 := hidp hx0
        clear hx0
        by_cases hkn : k < nX
        · obtain ⟨rb, ro, RA, rc, r, hA, hr, c0, hir⟩ := (HRx.out _ HBr.out).get hkn
          have hix := ix_intss (c := cX) hA hkn
          have lr := lt_of_cell c0
          have hkn' : (k : Int) < nX := by omega
          have HIr := hidp hir
          have HRk := hidp hr
          clear hA hr hir
          go_wp2_with fail
          refine (in_any A1 RA n1 c1 r.length rc (rowsV q l) r _ (HRq.out _ HBr.out) HIr.out).mono ?_
          rintro e wa ⟨rfl, hba⟩
          have hcx := HOx.out.1 HX0.out
          have hin : r ∈ rowsV q l := by
            have h := List.mem_of_getElem? HRk.out
            rw [rowsV_ok hcx] at h
            rw [HRJ.out]
            exact atom_sub HVq.out (check_vars hcx) h
          rw [decide_eq_true hin]
          have HBa := hidp (HBr.out.trans (hba.mono HBr.out.size))
          clear hba hin hcx hix lr c0
          go_wp2_with fail
          go_roundw
          case rel => exact ⟨k + 1, by omega, by go_num, HBa.out⟩
          case measure => simp [intOf]; omega
        · have hkn' : ¬ ((k : Int) < nX) := by omega
          go_wp2_with fail
          go_meet
          exact HBr.out
      · have hxb : (ex == 0) = false := by simp [hx0]
        have HX0 := hidp hx0
        clear hx0
        go_wp2_with fail
        go_meet
        exact HBr.out
  case rest =>
  rename World => wl
  have HBl := hidp hcut
  clear hcut
  have HWl := hidp (HBW.out.trans (HBl.out.mono HBW.out.size))
  have hyy := HOy.out.2
  obtain rfl : ey = ez := HEyz.out
  rcases hyy with rfl | rfl
  rotate_left
  · go_wp2_with fail
    go_ret
    exact ⟨rfl, HWl.out⟩
  have HCy := hidp (HOy.out.1 rfl)
  have HCz := hidp (HOz.out.1 rfl)
  have HJy : Hid (rowsV (addTest q A11 (q.tn + 1) c11 ⟨0, t.a, t.b⟩) l = rowsJ (addTest q A11 (q.tn + 1) c11 ⟨0, t.a, t.b⟩) l) := rowsV_ok HCy.out
  have HJz : Hid (rowsV (addTest q A13 (q.tn + 1) c13 ⟨1, t.a, t.b⟩) l = rowsJ (addTest q A13 (q.tn + 1) c13 ⟨1, t.a, t.b⟩) l) := rowsV_ok HCz.out
  have HVy := hidp (check_vars HCy.out)
  have HVz := hidp (check_vars HCz.out)
  go_wp2_with fail
  go_loopw [21] (fun i wr => ∃ k : Nat, k ≤ n1 ∧ i = .int .i64 k ∧ Below z3.heap.size z3 wr) (fun i _ => n1 - (intOf i).toNat)
  case atStart => exact ⟨0, by omega, rfl, HBl.out⟩
  case round =>
  obtain ⟨k, hk, rfl, hbr⟩ := hrel
  rename World => wr
  have HBr := hidp hbr
  clear hbr
  by_cases hkn : k < n1
  · obtain ⟨rb, ro, RA, rc, r, hA, hr, c0, hir⟩ := (HRq.out _ HBr.out).get hkn
    have hix := ix_intss (c := c1) hA hkn
    have lr := lt_of_cell c0
    have hkn' : (k : Int) < n1 := by omega
    have HIr := hidp hir
    have HRk := hidp hr
    clear hr hir
    go_wp2_with fail
    refine (in_any AY RA nY cY r.length rc (rowsV (addTest q A11 (q.tn + 1) c11 ⟨0, t.a, t.b⟩) l) r _ (HRy.out _ HBr.out) HIr.out).mono ?_
    rintro e wa ⟨rfl, hba⟩
    have HBa := hidp (HBr.out.trans (hba.mono HBr.out.size))
    obtain ⟨b, hb⟩ : ∃ b, decide (r ∈ rowsV (addTest q A11 (q.tn + 1) c11 ⟨0, t.a, t.b⟩) l) = b := ⟨_, rfl⟩
    rw [hb]
    have HBd := hidp hb
    clear hba hb c0
    cases b
    · obtain ⟨rb2, ro2, RA2, rc2, r2, hA2, hr2, c2, hir2⟩ := (HRq.out _ HBa.out).get hkn
      have e2 : r2 = r := Option.some.inj (hr2.symm.trans HRk.out)
      rw [e2] at c2 hir2
      have hix2 := ix_intss (c := c1) hA2 hkn
      have lr2 := lt_of_cell c2
      have HI2 := hidp hir2
      clear hr2 hir2 e2 hA hA2 hix lr
      go_wp2_with fail
      refine (in_any AZ RA2 nZ cZ r.length rc2 (rowsV (addTest q A13 (q.tn + 1) c13 ⟨1, t.a, t.b⟩) l) r _ (HRz.out _ HBa.out) HI2.out).mono ?_
      rintro e wb ⟨rfl, hbb⟩
      have hin : r ∈ rowsV (addTest q A13 (q.tn + 1) c13 ⟨1, t.a, t.b⟩) l := by
        have h := List.mem_of_getElem? HRk.out
        rw [HRJ.out] at h
        rw [HJz.out]
        rcases test_cover HVq.out HVy.out HVz.out h with h | h
        · have h2 := of_decide_eq_false HBd.out
          rw [HJy.out] at h2
          exact absurd h h2
        · exact h
      rw [decide_eq_true hin]
      have HBb := hidp (HBa.out.trans (hbb.mono HBa.out.size))
      clear hbb hin hix2 lr2 c2
      go_wp2_with fail
      go_roundw
      case rel => exact ⟨k + 1, by omega, by go_num, HBb.out⟩
      case measure => simp [intOf]; omega
    · clear hA hix lr
      go_wp2_with fail
      go_roundw
      case rel => exact ⟨k + 1, by omega, by go_num, HBa.out⟩
      case measure => simp [intOf]; omega
  obtain rfl : k = n1 := by omega
  have hkk : ¬ ((k : Int) < k) := by omega
  go_wp2_with fail
  clear hkk hkn hk
  go_loopw [22] (fun i wr => ∃ k : Nat, k ≤ nY ∧ i = .int .i64 k ∧ Below z3.heap.size z3 wr) (fun i _ => nY - (intOf i).toNat)
  case atStart => exact ⟨0, by omega, rfl, HBr.out⟩
  case round =>
  obtain ⟨j, hj, rfl, hbr⟩ := hrel
  rename World => ws
  have HBs := hidp hbr
  clear hbr
  by_cases hjn : j < nY
  · obtain ⟨rb, ro, RA, rc, r, hA, hr, c0, hir⟩ := (HRy.out _ HBs.out).get hjn
    have hix := ix_intss (c := cY) hA hjn
    have lr := lt_of_cell c0
    have hjn' : (j : Int) < nY := by omega
    have HIr := hidp hir
    have HRk := hidp hr
    clear hA hr hir
    go_wp2_with fail
    refine (in_any A1 RA k c1 r.length rc (rowsV q l) r _ (HRq.out _ HBs.out) HIr.out).mono ?_
    rintro e wa ⟨rfl, hba⟩
    have hin : r ∈ rowsV q l := by
      have h := List.mem_of_getElem? HRk.out
      rw [HJy.out] at h
      rw [HRJ.out]
      exact test_sub HVq.out HVy.out h
    rw [decide_eq_true hin]
    have HBa := hidp (HBs.out.trans (hba.mono HBs.out.size))
    clear hba hin hix lr c0
    go_wp2_with fail
    go_roundw
    case rel => exact ⟨j + 1, by omega, by go_num, HBa.out⟩
    case measure => simp [intOf]; omega
  obtain rfl : j = nY := by omega
  have hjj : ¬ ((j : Int) < j) := by omega
  go_wp2_with fail
  clear hjj hjn hj
  go_loopw [23] (fun i wr => ∃ k : Nat, k ≤ nZ ∧ i = .int .i64 k ∧ Below z3.heap.size z3 wr) (fun i _ => nZ - (intOf i).toNat)
  case atStart => exact ⟨0, by omega, rfl, HBs.out⟩
  case round =>
  obtain ⟨m, hj, rfl, hbr⟩ := hrel
  rename World => wt
  have HBt := hidp hbr
  clear hbr
  by_cases hjn : m < nZ
  · obtain ⟨rb, ro, RA, rc, r, hA, hr, c0, hir⟩ := (HRz.out _ HBt.out).get hjn
    have hix := ix_intss (c := cZ) hA hjn
    have lr := lt_of_cell c0
    have hjn' : (m : Int) < nZ := by omega
    have HIr := hidp hir
    have HRk := hidp hr
    clear hA hr hir
    go_wp2_with fail
    refine (in_any A1 RA k c1 r.length rc (rowsV q l) r _ (HRq.out _ HBt.out) HIr.out).mono ?_
    rintro e wa ⟨rfl, hba⟩
    have hin : r ∈ rowsV q l := by
      have h := List.mem_of_getElem? HRk.out
      rw [HJz.out] at h
      rw [HRJ.out]
      exact test_sub HVq.out HVz.out h
    rw [decide_eq_true hin]
    have HBa := hidp (HBt.out.trans (hba.mono HBt.out.size))
    clear hba hin hix lr c0
    go_wp2_with fail
    go_roundw
    case rel => exact ⟨m + 1, by omega, by go_num, HBa.out⟩
    case measure => simp [intOf]; omega
  obtain rfl : m = nZ := by omega
  have hjj : ¬ ((m : Int) < m) := by omega
  have HQt := hidp (HFB.out.keep HBt.out).qb
  obtain ⟨x0, x1, x2, x3, l0⟩ := HQt.out.cells
  go_wp2_with fail
  clear hjj hjn hj
  clear x0 x1 x2 x3 l0
  go_loopw [24, 25] (fun s i wr => ∃ (p : Nat) (b : Bool), p ≤ q.sn ∧ i = .int .i64 p ∧ s = .bool b ∧ (b = true ↔ q.sn = q.nn ∧ ∀ i, i < p → q.shows[i]? = some (i : Int)) ∧ Below z3.heap.size z3 wr) (fun _ i _ => q.sn - (intOf i).toNat)
  case atStart =>
    refine ⟨0, _, by omega, rfl, rfl, ?_, HBt.out⟩
    constructor
    · intro h
      have h2 : (q.sn : Int) = q.nn := by simpa using h
      exact ⟨by omega, fun i hi => by omega⟩
    · intro h
      rw [h.1]; simp
  case round =>
  obtain ⟨p, b, hp, rfl, rfl, hb, hbu⟩ := hrel
  rename World => wu
  have HBu := hidp hbu
  have HBd := hidp hb
  clear hbu hb
  have HQ2 := hidp (HFB.out.keep HBu.out).qb
  have HWu := hidp (HBW.out.trans (HBu.out.mono HBW.out.size))
  obtain ⟨x0, x1, x2, x3, l0⟩ := HQ2.out.cells
  by_cases hps : p < q.sn
  · obtain ⟨sb, so, sh, hA, _, hsh, c0⟩ := iSl.get (HQu.out _ HWu.out).2.1 hps
    have hix := fun W => ix_Ints (c := q.sc) hA hps W
    simp only [Nat.mul_one] at hix
    have lb := lt_of_cell c0
    have hps' : (p : Int) < q.sn := by omega
    have HSh := hidp hsh
    clear hA hsh
    cases b
    · go_wp2_with fail
      go_roundw
      case rel =>
        refine ⟨p + 1, false, by omega, by go_num, rfl, ?_, HBu.out⟩
        constructor
        · intro h; cases h
        · intro h; exact HBd.out.2 ⟨h.1, fun i hi => h.2 i (by omega)⟩
      case measure => simp [intOf]; omega
    · go_wp2_with fail
      go_roundw
      case rel =>
        refine ⟨p + 1, sh == (p : Int), by omega, by go_num, rfl, ?_, HBu.out⟩
        constructor
        · intro h
          have h2 : sh = p := by simpa using h
          refine ⟨(HBd.out.1 rfl).1, fun i hi => ?_⟩
          rcases Nat.lt_or_ge i p with h3 | h3
          · exact (HBd.out.1 rfl).2 i h3
          · obtain rfl : i = p := by omega
            rw [← h2]; exact HSh.out
        · intro h
          have h2 := (HSh.out).symm.trans (h.2 p (by omega))
          injection h2 with h2
          rw [h2]; simp
      case measure => simp [intOf]; omega
  have hpq : p = q.sn := by omega
  subst hpq
  have hpp : ¬ ((q.sn : Int) < q.sn) := by omega
  cases b
  · go_wp2_with fail
    go_ret
    exact ⟨rfl, HWu.out⟩
  · have hsum : j + m = k := by
      rw [HN1.out, HNY.out, HNZ.out, HJy.out, HJz.out, HRJ.out]
      have h := HBd.out.1 rfl
      have h1 := HLen.out
      exact test_count HVq.out HVy.out HVz.out (shows_rangeF (by omega) fun i hi => h.2 i (by omega)) l
    have hs3 : ((j : Int) + m == (k : Int)) = true := by rw [← hsum]; simp
    have hs4 : (j : Int) + m ≤ 9223372036854775807 := by omega
    clear hsum
    go_wp2_with fail
    go_ret
    exact ⟨rfl, HWu.out⟩
end Go.Proofs.YtbegdcjofnfkiaaDoor
