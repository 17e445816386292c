/- Several texts in one: J11 IterT. -/
import Derived.Test.YtbegdcjofnfkiaaGreatDoorQ11
import Derived.Test.YtbegdcjofnfkiaaGreatDoorQ5
namespace Go.Proofs.YtbegdcjofnfkiaaGreatDoor
section
open Go.RowKit Go.Shelf Go.Sort
def Clo.low (lo : Nat) : Clo → Prop
 | .atom Ba Bl => lo ≤ Ba ∧ lo ≤ Bl
 | .test Bt => lo ≤ Bt
theorem Clo.low_upd {lo m : Nat} {xs : Nat → List Clo} {x : Clo} (h : ∀ i, ∀ y ∈ xs i, Clo.low lo y) (hx : Clo.low lo x) : ∀ i, ∀ y ∈ upd xs m (xs m ++ [x]) i, Clo.low lo y := by
 intro i y hy
 by_cases him : i = m
 ·subst him
  rw [upd_same] at hy
  rcases List.mem_append.1 hy with hy | hy
  ·exact h i y hy
  ·obtain rfl := List.mem_singleton.1 hy
   exact hx
 ·rw [upd_ne _ _ him] at hy
  exact h i y hy
theorem rowInfo : (Tryz.prog.info? 138).map (fun i => (i.zero, i.size, i.bytes)) = some (some (.slice none 0 0), 1, 24) := by kernel_rfl
theorem ix_fnRows {G n c k : Nat} (hk : k < n) (W : World) : (Instr.indexAt 136 (.slice (some ⟨G, 0, none⟩) n c) (.int .i64 k)).run Tryz.prog W = .ok (.pointer (some ⟨G, k, none⟩)) W := by
 have hk' : (k : Int) < n := by omega
 simp [go_sem, hk']
theorem cndsA_step {l : List Am} {k : Nat} {a : Am} (h : l[k]? = some a) (ha : 0 ≤ lvlA a) : cndsA (l.take (k + 1)) = upd (cndsA (l.take k)) (lvlA a).toNat (cndsA (l.take k) (lvlA a).toNat ++ [.atom a]) := by
 funext i
 rw [take_snoc h]
 unfold upd cndsA
 rw [List.filter_append, List.map_append]
 by_cases hi : i = (lvlA a).toNat
 ·subst hi
  rw [if_pos rfl]
  simp; omega
 ·rw [if_neg hi]
  have : decide (lvlA a = (i : Int)) = false := by simp; omega
  simp [this]
theorem cndsT_step {l : List Te} {k : Nat} {a : Te} (h : l[k]? = some a) (ha : 0 ≤ lvlT a) (f : Nat → List Cnd) : (fun i => f i ++ cndsT (l.take (k + 1)) i) = upd (fun i => f i ++ cndsT (l.take k) i) (lvlT a).toNat ((f (lvlT a).toNat ++ cndsT (l.take k) (lvlT a).toNat) ++ [.test a]) := by
 funext i
 rw [take_snoc h]
 unfold upd cndsT
 rw [List.filter_append, List.map_append]
 by_cases hi : i = (lvlT a).toNat
 ·subst hi
  rw [if_pos rfl]
  simp; omega
 ·rw [if_neg hi]
  have : decide (lvlT a = (i : Int)) = false := by simp; omega
  simp [this]
theorem cndsA_len (l : List Am) (i : Nat) : (cndsA l i).length ≤ l.length := by unfold cndsA; rw [List.length_map]; exact List.length_filter_le _ _
theorem cndsT_len (l : List Te) (i : Nat) : (cndsT l i).length ≤ l.length := by unfold cndsT; rw [List.length_map]; exact List.length_filter_le _ _
theorem LvSt.init {FA : Option Addr} {fn fc N base G cap : Nat} {W : World} (h : W.ownsRow base 138 1 (.slice (some ⟨G, 0, none⟩) (N + 1) cap) (N + 1) (madeCells (Value.cells (.slice none 0 0)) ((N + 1) * 1)).toList) : LvSt FA fn fc N base G (N + 1) (fun _ => .slice none 0 0) (fun _ => []) (fun _ => []) W := by
 rcases h.2 with ⟨e, _⟩ | ⟨g, cap', cur, hv, hg, hh, hn, hm, hs, ht⟩
 ·cases e
 ·injection hv with hv _ _
  injection hv with hv
  injection hv with hv
  subst hv
  refine ⟨Nat.le_refl _, hg, ⟨cur, hh, fun i hi => ?_⟩, fun i hi => World.ownsRow_nil _ _ _ _, fun i hi => ⟨rfl, fun j x c hx => by cases hx⟩, fun i hi g' hg' => (by cases hg'), fun i hi => ⟨none, 0, rfl⟩⟩
  have := congrArg (fun l => l[i]?) ht
  simp only [List.getElem?_take, madeCells] at this
  rw [if_pos (by omega)] at this
  rw [← Array.getElem?_toList, this]
  have h2 : Value.cells (.slice none 0 0) = #[.slice none 0 0] := rfl
  rw [h2]
  have h3 : i < (N + 1) * 1 := by omega
  simp
  exact ⟨i, by rw [List.getElem?_range (by omega)], by simp [Nat.mod_one]⟩
structure FBox (FA : Option Addr) (fn fc B : Nat) (W : World) : Prop where
 box : W.heap[B]? = some (.cells #[.slice FA fn fc] 28 (0, 0))
theorem cndsA_nil : cndsA [] = fun _ => [] := rfl
theorem cndsT_nil (f : Nat → List Cnd) : (fun i => f i ++ cndsT [] i) = f := by funext i; simp [cndsT]
theorem cndsJ_eq (q : Qu) : (fun i => cndsA q.atoms i ++ cndsT q.tests i) = cndsJ q := rfl
set_option maxRecDepth 100000 in
set_option maxHeartbeats 8000000 in
theorem levels_any (q : Qu) (FA : Option Addr) (fn fc : Nat) (w : World) (hq : QuIn q w w.heap.size) (hvo : VarsOk q) (hsz : q.names.length ≤ 8 ∧ q.atoms.length ≤ 16 ∧ q.tests.length ≤ 16) :
  Calls Tryz.prog 77 #[.agg #[.slice q.nA q.nn q.nc, .slice q.sA q.sn q.sc, .slice q.aA q.an q.ac, .slice q.tA q.tn q.tc], .slice FA fn fc] w fun e w' => ∃ G cap sl xs, e = .returned (.slice (some ⟨G, 0, none⟩) (q.nn + 1) cap) ∧ LvSt FA fn fc q.nn (w.heap.size + 2) G cap sl (cndsJ q) xs w' ∧ (∀ i, ∀ x ∈ xs i, Clo.low w.heap.size x) ∧ Below w.heap.size w w' := by
 have HQu : Hid (∀ W, Below w.heap.size w W → QuIn q W W.heap.size) := fun W hb => hq.keep hb.size hb.block
 have HLen : Hid (q.nn = q.names.length ∧ q.sn = q.shows.length ∧ q.an = q.atoms.length ∧ q.tn = q.tests.length) := ⟨hq.1.1, hq.2.1.1, hq.2.2.1.1, hq.2.2.2.1⟩
 have HSz := hidp hsz
 have HVo := hidp hvo
 have hnn8 : q.nn ≤ 8 := by have := HLen.out.1; omega
 have haq := hq.2.2.1.2.1
 have hac := hq.2.2.1.2.2.1
 have htq := hq.2.2.2.2.1
 have htc := hq.2.2.2.2.2.1
 obtain ⟨W0, hW0⟩ : ∃ W0, (w.alloc (.cells #[.slice q.nA q.nn q.nc, .slice q.sA q.sn q.sc, .slice q.aA q.an q.ac, .slice q.tA q.tn q.tc] 27)).alloc (.cells #[.slice FA fn fc] 28) = W0 := ⟨_, rfl⟩
 have hBW : Below w.heap.size w W0 := by rw [← hW0]; exact ((Below.refl _ w).alloc (Nat.le_refl _) _).alloc (by simp) _
 have hb0 : QBox q w.heap.size W0 := ⟨by rw [← hW0, Below.heap_alloc _ _ _ (by simp)]; exact World.alloc_heap_new _ _⟩
 have g1 : W0.heap[w.heap.size + 1]? = some (.cells #[.slice FA fn fc] 28 (0, 0)) := by
  rw [← hW0]; have := World.alloc_heap_new (w.alloc (.cells #[.slice q.nA q.nn q.nc, .slice q.sA q.sn q.sc, .slice q.aA q.an q.ac, .slice q.tA q.tn q.tc] 27)) (.cells #[.slice FA fn fc] 28); rwa [World.size_alloc] at this
 have hz0 : W0.heap.size = w.heap.size + 2 := by rw [← hW0]; simp
 obtain ⟨i0, hi, hz, hs, hbb⟩ := info_parts rowInfo
 obtain ⟨W1, hrun, hown, hgr⟩ := run_make_full (P := Tryz.prog) W0 (w.heap.size + 2) 136 138 i0 (.slice none 0 0) 1 Tryz.underlying136 hi hz hs .i64 .i64 (q.nn + 1) (by rw [hbb]; omega) (by unfold maxLen; omega) (by omega)
 rw [show ((q.nn + 1 : Nat) : Int) = (q.nn : Int) + 1 by simp] at hrun
 have hBk : Below W0.heap.size W0 W1 := (Below.refl _ _).grown hgr (Nat.le_refl _) (fun r hr => by cases hr)
 have hb1 := hb0.later hBk
 have hG1 := (hBk.block _ (lt_of_heap g1)).trans g1
 have hB1 := hBW.trans (hBk.mono hBW.size)
 have HBW := hidp hBW
 have HB0 := hidp hb0
 have HB1 := hidp hb1
 have HG1 : Hid (FBox FA fn fc (w.heap.size + 1) W1) := ⟨hG1⟩
 have HBe1 := hidp hB1
 have HOwn := hidp hown
 have HZ0 := hidp hz0
 obtain ⟨x0, x1, x2, x3, l0⟩ := hb0.cells
 obtain ⟨y0, y1, y2, y3, m0⟩ := hb1.cells
 clear hBW hb0 hb1 hq hvo hsz g1 hz0 hown hBk hG1 hB1 hgr
 go_enter Tryz.func77, Tryz.ntmps77
 go_wp2_with fail
 go_loopw [20] (fun i wr => ∃ k : Nat, k ≤ q.an ∧ i = .int .i64 k ∧ QBox q w.heap.size wr ∧ FBox FA fn fc (w.heap.size + 1) wr ∧ Below w.heap.size w wr ∧ ∃ sl xs, LvSt FA fn fc q.nn (w.heap.size + 2) W0.heap.size (q.nn + 1) sl (cndsA (q.atoms.take k)) xs wr ∧ ∀ i, ∀ x ∈ xs i, Clo.low w.heap.size x) (fun i _ => q.an - (intOf i).toNat)
 case atStart => exact ⟨0, by omega, rfl, HB1.out, HG1.out, HBe1.out, _, _, by rw [show q.atoms.take 0 = [] from rfl, cndsA_nil]; exact LvSt.init HOwn.out, fun i x hx => by cases hx⟩
 case round =>
  obtain ⟨k, hk, rfl, hst, hfb, hbe, sl, xs, hlv, hlow⟩ := hrel
  have HLow := hidp hlow
  clear hlow
  clear y0 y1 y2 y3 m0
  have HST := hidp hst
  have HFB := hidp hfb
  have HBe := hidp hbe
  have HLv := hidp hlv
  obtain ⟨y0, y1, y2, y3, m0⟩ := hst.cells
  clear hst hfb hbe hlv
  by_cases hkn : k < q.an
  ·have hkn' : (k : Int) < q.an := by omega
   obtain ⟨b, off, a, cs, hA, hb, hs, hr, hc⟩ := Rows.get (HQu.out _ HBe.out).2.2.1 hkn
   obtain rfl := hr
   have c0 := hc 0 _ rfl
   have c1 := hc 1 _ rfl
   have c2 := hc 2 _ rfl
   have c3 := hc 3 _ rfl
   have c4 := hc 4 _ rfl
   have c5 := hc 5 _ rfl
   have c6 := hc 6 _ rfl
   have c7 := hc 7 _ rfl
   have c8 := hc 8 _ rfl
   rw [Nat.add_zero] at c0
   have lb := lt_of_cell c0
   have HX := hidp hs
   have hix := ix_Atoms (c := q.ac) hA hkn
   obtain ⟨W5, hW5⟩ : ∃ W5, wr.alloc (.cells #[.int .i64 a.kind, .bool a.s.var, .int .i64 a.s.n, .bool a.o.var, .int .i64 a.o.n, .bool a.v.var, .int .i64 a.v.n, .int .i64 a.term, .int .i64 a.known] 64) = W5 := ⟨_, rfl⟩
   have hz5 : W5.heap.size = wr.heap.size + 1 := by rw [← hW5]; simp
   have hg5 : W5.heap[wr.heap.size]? = some (.cells #[.int .i64 a.kind, .bool a.s.var, .int .i64 a.s.n, .bool a.o.var, .int .i64 a.o.n, .bool a.v.var, .int .i64 a.v.n, .int .i64 a.term, .int .i64 a.known] 64 (0, 0)) := by rw [← hW5]; exact World.alloc_heap_new _ _
   obtain ⟨W6, hW6⟩ : ∃ W6, W5.alloc (.cells #[.bool a.s.var, .int .i64 a.s.n, .bool a.o.var, .int .i64 a.o.n, .bool a.v.var, .int .i64 a.v.n] 62) = W6 := ⟨_, rfl⟩
   have hb56 : Below W5.heap.size W5 W6 := hW6 ▸ (Below.refl _ _).alloc (Nat.le_refl _) _
   have hb5 : Below wr.heap.size wr W5 := hW5 ▸ (Below.refl _ _).alloc (Nat.le_refl _) _
   have hg6 : W6.heap[wr.heap.size + 1]? = some (.cells #[.bool a.s.var, .int .i64 a.s.n, .bool a.o.var, .int .i64 a.o.n, .bool a.v.var, .int .i64 a.v.n] 62 (0, 0)) := by rw [← hz5, ← hW6]; exact World.alloc_heap_new _ _
   have hrows : arSl W6 W6.heap.size (some ⟨wr.heap.size + 1, 0, none⟩) 3 3 [a.s, a.o, a.v] := rows_of_heap (l := [a.s, a.o, a.v]) (c := 3) arEnc_len hg6 (by simp) (by omega) rfl
   have HW6 : Hid ((wr.alloc (.cells #[.int .i64 a.kind, .bool a.s.var, .int .i64 a.s.n, .bool a.o.var, .int .i64 a.o.n, .bool a.v.var, .int .i64 a.v.n, .int .i64 a.term, .int .i64 a.known] 64)).alloc (.cells #[.bool a.s.var, .int .i64 a.s.n, .bool a.o.var, .int .i64 a.o.n, .bool a.v.var, .int .i64 a.v.n] 62) = W6) := by show _ = _; rw [hW5, hW6]
   have HZ5 := hidp hz5
   have HG5 := hidp hg5
   have HB5 := hidp hb5
   have HB56 := hidp hb56
   have HRows := hidp hrows
   have HBd : Hid (∀ y ∈ [a.s, a.o, a.v], y.var = true → -1 ≤ y.n ∧ y.n ≤ 1000000) := fun y hy hv => by have := HVo.out.2.1 y (args_atom (List.mem_of_getElem? HX.out) hy) hv; have := HSz.out.1; omega
   have HBd2 := hidp (lvlA_bd HVo.out (List.mem_of_getElem? HX.out))
   clear hs hA hc hW5 hW6 hz5 hg5 hb56 hb5 hg6 hrows
   go_wp2_with fail
   rw [HW6.out]
   refine (level_any _ _ _ [a.s, a.o, a.v] _ HRows.out HBd.out).mono ?_
   rintro e w7 ⟨rfl, hb7⟩
   have HB7 := hidp hb7
   clear hb7 c0 lb hix
   obtain ⟨m, hm⟩ : ∃ m : Nat, (lvlL [a.s, a.o, a.v]) = (m : Int) := ⟨(lvlL [a.s, a.o, a.v]).toNat, (Int.toNat_of_nonneg HBd2.out.1).symm⟩
   rw [hm]
   have HM : Hid (m ≤ q.nn ∧ (lvlA a).toNat = m) := ⟨by have h1 := HBd2.out.2; have h2 : lvlA a = (m : Int) := hm; rw [h2] at h1; have := HLen.out.1; omega, by have h2 : lvlA a = (m : Int) := hm; rw [h2]; rfl⟩
   clear hm
   have hB67 : Below wr.heap.size wr w7 := HB5.out.trans ((HB56.out.mono HB5.out.size).trans (HB7.out.mono (by have := HB5.out.size; have := HB56.out.size; omega)))
   have HB67 := hidp hB67
   have hl7 := HLv.out.later hB67
   have HL7 := hidp hl7
   obtain ⟨As, cs', hsl⟩ := hl7.slices m HM.out.1
   have HSl := hidp hsl
   have h7row := hl7.row
   obtain ⟨csr, hr1, hr2⟩ := h7row
   have g7 : w7.cell? ⟨W0.heap.size, m, none⟩ = some (.slice As (xs m).length cs') := by rw [cell_of_heap hr1, hr2 m HM.out.1, hsl]
   have l7 := lt_of_heap hr1
   have hixm := ix_fnRows (G := W0.heap.size) (n := q.nn + 1) (c := q.nn + 1) (k := m) (by have := HM.out.1; omega)
   obtain ⟨W8, hW8⟩ : ∃ W8, w7.alloc (.cells #[cloV (.atom wr.heap.size (w.heap.size + 1))] 135) = W8 := ⟨_, rfl⟩
   have hg8 : W8.heap[w7.heap.size]? = some (.cells #[cloV (.atom wr.heap.size (w.heap.size + 1))] 135 (0, 0)) := by rw [← hW8]; exact World.alloc_heap_new _ _
   have hb78 : Below w7.heap.size w7 W8 := hW8 ▸ (Below.refl _ _).alloc (Nat.le_refl _) _
   have hB68 : Below wr.heap.size wr W8 := hB67.trans (hb78.mono hB67.size)
   have hx8 : Rows 1 (Rep.flat cloEnc) W8 W8.heap.size (some ⟨w7.heap.size, 0, none⟩) 1 1 [.atom wr.heap.size (w.heap.size + 1)] := rows_of_heap (l := [.atom wr.heap.size (w.heap.size + 1)]) (c := 1) cloEnc_len hg8 (by simp) (by omega) rfl
   have hcf : CloFor FA fn fc W8 (.atom a) (.atom wr.heap.size (w.heap.size + 1)) := ⟨(hb78.block _ (by have := HB67.out.size; have := HB5.out.size; have := HB56.out.size; have := HB7.out.size; have := HZ5.out; omega)).trans ((HB7.out.block _ (by have := HB56.out.size; have := HZ5.out; omega)).trans ((HB56.out.block _ (by have := HZ5.out; omega)).trans HG5.out)), (hB68.block _ (lt_of_heap HFB.out.box)).trans HFB.out.box⟩
   have hlen16 : (xs m).length ≤ 100000 := by rw [(HLv.out.clo m HM.out.1).1]; have h1 := cndsA_len (q.atoms.take k) m; have h2 := List.length_take_le' k q.atoms; have := HSz.out.2.1; omega
   obtain ⟨v', w9, hrun, hb89, happ⟩ := HLv.out.app hB68 HM.out.1 hlen16 (by obtain ⟨_, hh, _⟩ := HLv.out.row; have := lt_of_heap hh; have := HZ0.out; omega) hx8 hcf
   rw [hsl] at hrun
   obtain ⟨A9, c9, rfl⟩ := happ.slice'
   have HRun := hidp hrun
   have HApp := hidp happ
   have h9row := happ.row
   obtain ⟨csr9, hr91, hr92⟩ := h9row
   have g9 : w9.cell? ⟨W0.heap.size, m, none⟩ = some (.slice As (xs m).length cs') := by rw [cell_of_heap hr91, hr92 m HM.out.1, hsl]
   have l9 := lt_of_heap hr91
   have f9 : w9.frozen? ⟨W0.heap.size, m, none⟩ = false := frozen_of_heap hr91
   have HB9 : Hid (Below (w.heap.size + 2) wr w9) := ((hB68.mono (by obtain ⟨_, hh, _⟩ := HLv.out.row; have := lt_of_heap hh; have := HZ0.out; omega))).trans hb89
   have HW8 := hidp hW8
   clear hrun happ hr1 hr2 hr91 hr92 hl7 hB67 hB68 hb78 hx8 hcf hg8 hlen16 hsl hb89 hW8
   go_wp2_with (at_builtin; refine wpList_append_known rfl (.tmp 37) (.tmp 39) 138 rfl rfl rfl (HW8.out ▸ HRun.out) ?_)
   have hB10 := HB9.out.setCell (p := ⟨W0.heap.size, m, none⟩) (by have := HZ0.out; show _ ≤ W0.heap.size; omega) (.slice A9 ((xs m).length + 1) c9)
   have hlow : w.heap.size + 2 ≤ wr.heap.size := by obtain ⟨_, hh, _⟩ := HLv.out.row; have := lt_of_heap hh; have := HZ0.out; omega
   refine ⟨⟨k + 1, by omega, by go_num, ⟨(hB10.block _ (by omega)).trans HST.out.box⟩, ⟨(hB10.block _ (by omega)).trans HFB.out.box⟩, HBe.out.trans (hB10.mono (by omega)), upd sl m (.slice A9 ((xs m).length + 1) c9), upd xs m (xs m ++ [.atom wr.heap.size (w.heap.size + 1)]), ?_, ?_⟩, by simp [intOf]; omega⟩
   rotate_left
   ·exact Clo.low_upd HLow.out (by have := HBe.out.size; simp [Clo.low]; omega)
   have hstep := cndsA_step HX.out HBd2.out.1
   rw [HM.out.2] at hstep
   rw [hstep]
   exact HApp.out.store HM.out.1 (Nat.le_refl _) (by have := HZ0.out; omega) HLv.out.apart HLv.out.slices
  ·obtain rfl : k = q.an := by omega
   have hkk : ¬ ((q.an : Int) < q.an) := by omega
   have HL1 : Hid (LvSt FA fn fc q.nn (w.heap.size + 2) W0.heap.size (q.nn + 1) sl (cndsA q.atoms) xs wr) := by
    have h := HLv.out
    rw [List.take_of_length_le (by have := HLen.out.2.2.1; omega)] at h
    exact h
   have HLow1 := HLow
   go_wp2_with fail
   go_loopw [46] (fun i wr => ∃ k : Nat, k ≤ q.tn ∧ i = .int .i64 k ∧ QBox q w.heap.size wr ∧ FBox FA fn fc (w.heap.size + 1) wr ∧ Below w.heap.size w wr ∧ ∃ sl xs, LvSt FA fn fc q.nn (w.heap.size + 2) W0.heap.size (q.nn + 1) sl (fun i => cndsA q.atoms i ++ cndsT (q.tests.take k) i) xs wr ∧ ∀ i, ∀ x ∈ xs i, Clo.low w.heap.size x) (fun i _ => q.tn - (intOf i).toNat)
   case atStart => exact ⟨0, by omega, rfl, HST.out, HFB.out, HBe.out, _, _, by rw [show q.tests.take 0 = [] from rfl, cndsT_nil]; exact HL1.out, HLow1.out⟩
   case round =>
    rename World => wb
    obtain ⟨k, hk, rfl, hst, hfb, hbe, sl, xs, hlv, hlow⟩ := hrel
    have HLow := hidp hlow
    clear hlow
    clear y0 y1 y2 y3 m0
    have HST := hidp hst
    have HFB := hidp hfb
    have HBe := hidp hbe
    have HLv := hidp hlv
    obtain ⟨y0, y1, y2, y3, m0⟩ := hst.cells
    clear hst hfb hbe hlv
    by_cases hkn : k < q.tn
    ·have hkn' : (k : Int) < q.tn := by omega
     obtain ⟨b, off, a, cs, hA, hb, hs, hr, hc⟩ := Rows.get (HQu.out _ HBe.out).2.2.2 hkn
     obtain rfl := hr
     have c0 := hc 0 _ rfl
     have c1 := hc 1 _ rfl
     have c2 := hc 2 _ rfl
     have c3 := hc 3 _ rfl
     have c4 := hc 4 _ rfl
     rw [Nat.add_zero] at c0
     have lb := lt_of_cell c0
     have HX := hidp hs
     have hix := ix_Tests (c := q.tc) hA hkn
     obtain ⟨W5, hW5⟩ : ∃ W5, wb.alloc (.cells #[.int .i64 a.op, .bool a.a.var, .int .i64 a.a.n, .bool a.b.var, .int .i64 a.b.n] 67) = W5 := ⟨_, rfl⟩
     have hz5 : W5.heap.size = wb.heap.size + 1 := by rw [← hW5]; simp
     have hg5 : W5.heap[wb.heap.size]? = some (.cells #[.int .i64 a.op, .bool a.a.var, .int .i64 a.a.n, .bool a.b.var, .int .i64 a.b.n] 67 (0, 0)) := by rw [← hW5]; exact World.alloc_heap_new _ _
     obtain ⟨W6, hW6⟩ : ∃ W6, W5.alloc (.cells #[.bool a.a.var, .int .i64 a.a.n, .bool a.b.var, .int .i64 a.b.n] 62) = W6 := ⟨_, rfl⟩
     have hb56 : Below W5.heap.size W5 W6 := hW6 ▸ (Below.refl _ _).alloc (Nat.le_refl _) _
     have hb5 : Below wb.heap.size wb W5 := hW5 ▸ (Below.refl _ _).alloc (Nat.le_refl _) _
     have hg6 : W6.heap[wb.heap.size + 1]? = some (.cells #[.bool a.a.var, .int .i64 a.a.n, .bool a.b.var, .int .i64 a.b.n] 62 (0, 0)) := by rw [← hz5, ← hW6]; exact World.alloc_heap_new _ _
     have hrows : arSl W6 W6.heap.size (some ⟨wb.heap.size + 1, 0, none⟩) 2 2 [a.a, a.b] := rows_of_heap (l := [a.a, a.b]) (c := 2) arEnc_len hg6 (by simp) (by omega) rfl
     have HW6 : Hid ((wb.alloc (.cells #[.int .i64 a.op, .bool a.a.var, .int .i64 a.a.n, .bool a.b.var, .int .i64 a.b.n] 67)).alloc (.cells #[.bool a.a.var, .int .i64 a.a.n, .bool a.b.var, .int .i64 a.b.n] 62) = W6) := by show _ = _; rw [hW5, hW6]
     have HZ5 := hidp hz5
     have HG5 := hidp hg5
     have HB5 := hidp hb5
     have HB56 := hidp hb56
     have HRows := hidp hrows
     have HBd : Hid (∀ y ∈ [a.a, a.b], y.var = true → -1 ≤ y.n ∧ y.n ≤ 1000000) := fun y hy hv => by have := HVo.out.2.1 y (args_test (List.mem_of_getElem? HX.out) hy) hv; have := HSz.out.1; omega
     have HBd2 := hidp (lvlT_bd HVo.out (List.mem_of_getElem? HX.out))
     clear hs hA hc hW5 hW6 hz5 hg5 hb56 hb5 hg6 hrows
     go_wp2_with fail
     rw [HW6.out]
     refine (level_any _ _ _ [a.a, a.b] _ HRows.out HBd.out).mono ?_
     rintro e w7 ⟨rfl, hb7⟩
     have HB7 := hidp hb7
     clear hb7 c0 lb hix
     obtain ⟨m, hm⟩ : ∃ m : Nat, (lvlL [a.a, a.b]) = (m : Int) := ⟨(lvlL [a.a, a.b]).toNat, (Int.toNat_of_nonneg HBd2.out.1).symm⟩
     rw [hm]
     have HM : Hid (m ≤ q.nn ∧ (lvlT a).toNat = m) := ⟨by have h1 := HBd2.out.2; have h2 : lvlT a = (m : Int) := hm; rw [h2] at h1; have := HLen.out.1; omega, by have h2 : lvlT a = (m : Int) := hm; rw [h2]; rfl⟩
     clear hm
     have hB67 : Below wb.heap.size wb w7 := HB5.out.trans ((HB56.out.mono HB5.out.size).trans (HB7.out.mono (by have := HB5.out.size; have := HB56.out.size; omega)))
     have HB67 := hidp hB67
     have hl7 := HLv.out.later hB67
     have HL7 := hidp hl7
     obtain ⟨As, cs', hsl⟩ := hl7.slices m HM.out.1
     have HSl := hidp hsl
     have h7row := hl7.row
     obtain ⟨csr, hr1, hr2⟩ := h7row
     have g7 : w7.cell? ⟨W0.heap.size, m, none⟩ = some (.slice As (xs m).length cs') := by rw [cell_of_heap hr1, hr2 m HM.out.1, hsl]
     have l7 := lt_of_heap hr1
     have hixm := ix_fnRows (G := W0.heap.size) (n := q.nn + 1) (c := q.nn + 1) (k := m) (by have := HM.out.1; omega)
     obtain ⟨W8, hW8⟩ : ∃ W8, w7.alloc (.cells #[cloV (.test wb.heap.size)] 135) = W8 := ⟨_, rfl⟩
     have hg8 : W8.heap[w7.heap.size]? = some (.cells #[cloV (.test wb.heap.size)] 135 (0, 0)) := by rw [← hW8]; exact World.alloc_heap_new _ _
     have hb78 : Below w7.heap.size w7 W8 := hW8 ▸ (Below.refl _ _).alloc (Nat.le_refl _) _
     have hB68 : Below wb.heap.size wb W8 := hB67.trans (hb78.mono hB67.size)
     have hx8 : Rows 1 (Rep.flat cloEnc) W8 W8.heap.size (some ⟨w7.heap.size, 0, none⟩) 1 1 [.test wb.heap.size] := rows_of_heap (l := [.test wb.heap.size]) (c := 1) cloEnc_len hg8 (by simp) (by omega) rfl
     have hcf : CloFor FA fn fc W8 (.test a) (.test wb.heap.size) := (hb78.block _ (by have := HB67.out.size; have := HB5.out.size; have := HB56.out.size; have := HB7.out.size; have := HZ5.out; omega)).trans ((HB7.out.block _ (by have := HB56.out.size; have := HZ5.out; omega)).trans ((HB56.out.block _ (by have := HZ5.out; omega)).trans HG5.out))
     have hlen16 : (xs m).length ≤ 100000 := by rw [(HLv.out.clo m HM.out.1).1]; have h1 := cndsA_len q.atoms m; have h2 := cndsT_len (q.tests.take k) m; have h3 := List.length_take_le' k q.tests; have := HSz.out.2; rw [List.length_append]; omega
     obtain ⟨v', w9, hrun, hb89, happ⟩ := HLv.out.app hB68 HM.out.1 hlen16 (by obtain ⟨_, hh, _⟩ := HLv.out.row; have := lt_of_heap hh; have := HZ0.out; omega) hx8 hcf
     rw [hsl] at hrun
     obtain ⟨A9, c9, rfl⟩ := happ.slice'
     have HRun := hidp hrun
     have HApp := hidp happ
     have h9row := happ.row
     obtain ⟨csr9, hr91, hr92⟩ := h9row
     have g9 : w9.cell? ⟨W0.heap.size, m, none⟩ = some (.slice As (xs m).length cs') := by rw [cell_of_heap hr91, hr92 m HM.out.1, hsl]
     have l9 := lt_of_heap hr91
     have f9 : w9.frozen? ⟨W0.heap.size, m, none⟩ = false := frozen_of_heap hr91
     have HB9 : Hid (Below (w.heap.size + 2) wb w9) := ((hB68.mono (by obtain ⟨_, hh, _⟩ := HLv.out.row; have := lt_of_heap hh; have := HZ0.out; omega))).trans hb89
     have HW8 := hidp hW8
     clear hrun happ hr1 hr2 hr91 hr92 hl7 hB67 hB68 hb78 hx8 hcf hg8 hlen16 hsl hb89 hW8
     go_wp2_with (at_builtin; refine wpList_append_known rfl (.tmp 61) (.tmp 63) 138 rfl rfl rfl (HW8.out ▸ HRun.out) ?_)
     have hB10 := HB9.out.setCell (p := ⟨W0.heap.size, m, none⟩) (by have := HZ0.out; show _ ≤ W0.heap.size; omega) (.slice A9 ((xs m).length + 1) c9)
     have hlow : w.heap.size + 2 ≤ wb.heap.size := by obtain ⟨_, hh, _⟩ := HLv.out.row; have := lt_of_heap hh; have := HZ0.out; omega
     refine ⟨⟨k + 1, by omega, by go_num, ⟨(hB10.block _ (by omega)).trans HST.out.box⟩, ⟨(hB10.block _ (by omega)).trans HFB.out.box⟩, HBe.out.trans (hB10.mono (by omega)), upd sl m (.slice A9 ((xs m).length + 1) c9), upd xs m (xs m ++ [.test wb.heap.size]), ?_, ?_⟩, by simp [intOf]; omega⟩
     rotate_left
     ·exact Clo.low_upd HLow.out (by have := HBe.out.size; simp [Clo.low]; omega)
     have hstep := cndsT_step HX.out HBd2.out.1 (cndsA q.atoms)
     rw [HM.out.2] at hstep
     rw [hstep]
     exact HApp.out.store HM.out.1 (Nat.le_refl _) (by have := HZ0.out; omega) HLv.out.apart HLv.out.slices
    ·obtain rfl : k = q.tn := by omega
     have hkk : ¬ ((q.tn : Int) < q.tn) := by omega
     have HL2 : Hid (LvSt FA fn fc q.nn (w.heap.size + 2) W0.heap.size (q.nn + 1) sl (cndsJ q) xs wb) := by
      have h := HLv.out
      rw [List.take_of_length_le (by have := HLen.out.2.2.2; omega), cndsJ_eq] at h
      exact h
     go_wp2_with fail
     go_ret
     first
     | exact ⟨_, _, rfl, ⟨_, _, HL2.out, HLow.out⟩, HBe.out⟩
     | exact ⟨_, _, rfl, ⟨_, ⟨_, HL2.out⟩, HLow.out⟩, HBe.out⟩
     | exact ⟨_, _, rfl, _, _, HL2.out, HLow.out, HBe.out⟩
     | exact ⟨_, _, rfl, _, ⟨_, HL2.out⟩, HLow.out, HBe.out⟩
end
section
open Go.RowKit
def SeqT {α : Type} (P : Program) (g : Nat) (lb : Array Value) (T : Nat → α → Array Value → (Nat → Prop) → World → Prop) (ar : Nat) (R : List α → Prop) (S : Nat → Prop) (w : World) : Prop :=
 ∀ (l : Nat) (J : List α → (Nat → Prop) → World → Prop) (Jx : (Nat → Prop) → World → Prop) (C : Nat → Prop) (W : World),
  (∀ b, S b → b < W.heap.size ∧ W.heap[b]? = w.heap[b]? ∧ ¬ C b) → (∀ b, C b → b < W.heap.size) →
  (∀ pre C1 W1 W2, J pre C1 W1 → Kept (fun b => W.heap.size ≤ b ∧ ¬ C1 b) W1 W2 → J pre C1 W2) →
  (∀ C1 W1 W2, Jx C1 W1 → Kept (fun b => W.heap.size ≤ b ∧ ¬ C1 b) W1 W2 → Jx C1 W2) →
  (∀ m pre x suf C1 W1 V, R (pre ++ x :: suf) → V.size = ar → T W.heap.size x V C1 W1 → J pre C1 W1 → YieldAt Fence.wide m P l V W1 fun e W2 =>
   ∃ C2, Kept C1 W1 W2 ∧ (∀ b, C2 b → b < W2.heap.size ∧ (C1 b ∨ W1.heap.size ≤ b)) ∧
    ((e = .returned (.bool true) ∧ J (pre ++ [x]) C2 W2) ∨ (e = .returned (.bool false) ∧ Jx C2 W2))) →
  J [] C W →
  Calls P g (#[.func (.yield l) #[] #[]] ++ lb) W fun e W' => (∃ v, e = .returned v) ∧ ∃ C', (∃ xs, R xs ∧ J xs C' W') ∨ Jx C' W'
section law
variable {P : Program} {α : Type}
def RoundsT (P : Program) (n₀ : Nat) (a : Act) (ps : Array Tmp) (assign body : Code) (T : Nat → α → Array Value → (Nat → Prop) → World → Prop) (ar : Nat) (R : List α → Prop) (I : List α → (Nat → Prop) → World → Prop) (Ix : Code → (Nat → Prop) → World → Prop)
  (Ax : Nat → List α → α → (Nat → Prop) → Act → World → Prop) : Prop :=
 (∀ l pre x C1 a' W2 W3, n₀ ≤ l → ¬ C1 l → Ax l pre x C1 a' W2 → (∃ r, W2.heap[l]? = some (.loop r)) → Kept (fun b => b = l) W2 W3 → Ax l pre x C1 a' W3) ∧
 (∀ l m pre x suf C1 W1 V (K : Act → World → Prop), n₀ ≤ l → l < W1.heap.size → ¬ C1 l → R (pre ++ x :: suf) → V.size = ar → T (n₀ + 2) x V C1 W1 → I pre C1 W1 → (∀ b, C1 b → b < W1.heap.size) → (∀ a' W2, Kept C1 W1 W2 → Ax l pre x C1 a' W2 → K a' W2) →
   assign.wpIn (Fence.wide.inRound l) m P (Exit.then K (fun _ _ _ => False)) { tmps := (ps.zip V).foldl (fun t (p, v) => t.setIfInBounds p v) a.tmps, defers := [] } W1) ∧
 (∀ l m pre x suf C1 a' W2, n₀ ≤ l → ¬ C1 l → R (pre ++ x :: suf) → Ax l pre x C1 a' W2 → (∃ r, W2.heap[l]? = some (.loop r)) → (∀ b, C1 b → b < W2.heap.size) → body.wpIn (Fence.wide.inRound l) m P (roundC I Ix (pre ++ [x]) C1 W2) a' W2)
theorem wp_rangeT {g : Operand} {ps : Array Tmp} {assign body : Code} {Q : Exit → Act → World → Prop} {a : Act} {w : World} {gf : Nat} {lb : Array Value}
  (hg : a.eval g = .func (.func gf) #[] lb) (eg : ∀ args w, (callFunc gf args).run P w = .ok (.enter gf args) w)
  {T : Nat → α → Array Value → (Nat → Prop) → World → Prop} {ar : Nat} {R : List α → Prop} {S : Nat → Prop} {w0 : World} (hseq : SeqT P gf lb T ar R S w0) (C : Nat → Prop)
  (hS : ∀ b, S b → b < w.heap.size ∧ w.heap[b]? = w0.heap[b]? ∧ ¬ C b) (hps : ar = ps.size) (hT : ∀ n x V C C' W, T n x V C W → (∀ b, C' b → C b) → T n x V C' W) (hC : ∀ b, C b → b < w.heap.size)
  (I : List α → (Nat → Prop) → World → Prop) (Ix : Code → (Nat → Prop) → World → Prop)
  (hI : ∀ pre C1 W1 W2, I pre C1 W1 → Kept (fun b => w.heap.size ≤ b ∧ ¬ C1 b) W1 W2 → I pre C1 W2)
  (hIx : ∀ c C1 W1 W2, Ix c C1 W1 → Kept (fun b => w.heap.size ≤ b ∧ ¬ C1 b) W1 W2 → Ix c C1 W2)
  (h0 : I [] C w) (Ax : Nat → List α → α → (Nat → Prop) → Act → World → Prop)
  (hround : RoundsT P w.heap.size a ps assign body T ar R I Ix Ax)
  (hdone : ∀ xs D C' W, R xs → w.heap.size ≤ D → D < W.heap.size → ¬ C' D → I xs C' W → W.heap[D]? = some (.deferred (some [])) → Q .normal { a with defers := { target := .collected D, args := #[] } :: a.defers } W)
  (hstop : ∀ D c C' W, w.heap.size ≤ D → D < W.heap.size → ¬ C' D → Ix c C' W → W.heap[D]? = some (.deferred (some [])) → c.wp P Q { a with defers := { target := .collected D, args := #[] } :: a.defers } W) :
  (Code.rangeFunc g ps assign body).wp P Q a w := by
 refine (wpIn_wide (n := 0)).1 (wpIn_rangeFunc ?_)
 intro fn hfn
 obtain ⟨rec, hrec⟩ : ∃ rec : LoopState → Option Code → Loop, rec = fun st pe => { state := st, pending := pe, fn, tmps := a.tmps, params := ps, assign, body, defers := w.heap.size } := ⟨_, rfl⟩
 have hrec' : ∀ st pe, rec st pe = { state := st, pending := pe, fn, tmps := a.tmps, params := ps, assign, body, defers := (rec .ready none).defers } := by rw [hrec]; exact fun _ _ => rfl
 obtain ⟨W1, hW1⟩ : ∃ W1, (w.alloc (.deferred (some []))).alloc (.loop (rec .ready none)) = W1 := ⟨_, rfl⟩
 have hL1 : W1.heap[w.heap.size + 1]? = some (.loop (rec .ready none)) := by
  rw [← hW1]; have := World.alloc_heap_new (w.alloc (.deferred (some []))) (.loop (rec .ready none)); rwa [World.size_alloc] at this
 have hK1 : W1.heap[w.heap.size]? = some (.deferred (some [])) := by
  rw [← hW1]; exact (Below.heap_alloc _ _ _ (by simp)).trans (World.alloc_heap_new w _)
 have hz1 : W1.heap.size = w.heap.size + 2 := by rw [← hW1]; simp
 have hk1 : ∀ M, Kept M w W1 := fun M => by rw [← hW1]; exact ((Kept.refl _ _).alloc _).alloc _
 refine ⟨w.heap.size + 1, [{ target := .collected w.heap.size, args := #[] }], W1, { target := .fn (.func gf) lb, args := #[.func (.yield (w.heap.size + 1)) #[] #[]] }, W1, gf,
  #[.func (.yield (w.heap.size + 1)) #[] #[]] ++ lb, W1, ?_, ?_, fun _ _ => trivial, ?_, fun h => by simp [Fence.wide] at h, ?_⟩
 ·rw [← hW1, hrec]; exact run_enterLoop_outer _ _ _ _ _
 ·simp only [resolve, hg]
  simp [go_sem]
 ·simp [invoke, go_sem, eg]
 ·refine callsIn_wide.2 ((hseq (w.heap.size + 1)
   (fun pre C1 W => ∃ Cu, C1 = (fun b => Cu b ∨ b = w.heap.size ∨ b = w.heap.size + 1) ∧ ¬ Cu w.heap.size ∧ ¬ Cu (w.heap.size + 1) ∧ (∀ b, Cu b → b < W.heap.size) ∧ w.heap.size + 1 < W.heap.size ∧
    I pre Cu W ∧ W.heap[w.heap.size + 1]? = some (.loop (rec .ready none)) ∧ W.heap[w.heap.size]? = some (.deferred (some [])))
   (fun C1 W => ∃ Cu c, C1 = (fun b => Cu b ∨ b = w.heap.size ∨ b = w.heap.size + 1) ∧ ¬ Cu w.heap.size ∧ ¬ Cu (w.heap.size + 1) ∧ w.heap.size + 1 < W.heap.size ∧
    Ix c Cu W ∧ W.heap[w.heap.size + 1]? = some (.loop (rec .done (some c))) ∧ W.heap[w.heap.size]? = some (.deferred (some [])))
   (fun b => C b ∨ b = w.heap.size ∨ b = w.heap.size + 1) W1 ?_ ?_ ?_ ?_ ?_ ?_).mono ?_)
  ·intro b hb
   obtain ⟨h1, h2, h3⟩ := hS b hb
   refine ⟨by omega, ((hk1 (fun _ => False)).block b h1 (fun h => h)).trans h2, fun h => ?_⟩
   rcases h with h | h | h
   ·exact h3 h
   ·omega
   ·omega
  ·intro b hb
   rcases hb with h | h | h
   ·have := hC b h; omega
   ·omega
   ·omega
  ·rintro pre C1 Wa Wb ⟨Cu, rfl, h1, h2, h3, h4, h5, h6, h7⟩ hk
   have hk' : Kept (fun b => w.heap.size ≤ b ∧ ¬ Cu b) Wa Wb := hk.mono fun b _ hb => ⟨by omega, fun h => hb.2 (.inl h)⟩
   refine ⟨Cu, rfl, h1, h2, fun b hb => Nat.lt_of_lt_of_le (h3 b hb) hk.size, Nat.lt_of_lt_of_le h4 hk.size, hI _ _ _ _ h5 hk', (hk.block _ h4 ?_).trans h6, (hk.block _ (by omega) ?_).trans h7⟩
   ·intro h; exact h.2 (.inr (.inr rfl))
   ·intro h; exact h.2 (.inr (.inl rfl))
  ·rintro C1 Wa Wb ⟨Cu, c, rfl, h1, h2, h4, h5, h6, h7⟩ hk
   have hk' : Kept (fun b => w.heap.size ≤ b ∧ ¬ Cu b) Wa Wb := hk.mono fun b _ hb => ⟨by omega, fun h => hb.2 (.inl h)⟩
   refine ⟨Cu, c, rfl, h1, h2, Nat.lt_of_lt_of_le h4 hk.size, hIx _ _ _ _ h5 hk', (hk.block _ h4 ?_).trans h6, (hk.block _ (by omega) ?_).trans h7⟩
   ·intro h; exact h.2 (.inr (.inr rfl))
   ·intro h; exact h.2 (.inr (.inl rfl))
  ·rintro m pre x suf C1 Wa V hxs hV hTx ⟨Cu, rfl, h1, h2, h3, h4, h5, h6, h7⟩
   rw [hz1] at hTx
   obtain ⟨r1, r2, r3⟩ := hround
   refine (round_yield (encs := fun _ => V) hrec' (fun _ => hV.trans hps) I Ix hI hIx (by omega) m pre x Cu Wa h2 h6 (Ax (w.heap.size + 1) pre x Cu)
    (fun a' W2 W3 hx hl hk => r1 _ _ _ _ _ _ _ (by omega) h2 hx ⟨_, hl⟩ hk)
    (fun K hK => r2 _ m pre x suf Cu Wa V K (by omega) h4 h2 hxs hV (hT _ _ _ _ _ _ hTx fun b hb => .inl hb) h5 h3 hK)
    (fun a' W2 hx hr hy => r3 _ m pre x suf Cu a' W2 (by omega) h2 hxs hx hr (fun b hb => by
     obtain ⟨Wy, k1, k2⟩ := hy
     exact Nat.lt_of_lt_of_le (h3 b hb) (Nat.le_trans k1.size k2.size)))).mono ?_
   rintro e W2 ⟨C2, st, pe, hk, hC2, hl, hcase⟩
   have hD : W2.heap[w.heap.size]? = some (.deferred (some [])) := (hk.block _ (by omega) (fun h => by
    rcases h with h | h
    ·exact h1 h
    ·omega)).trans h7
   have n1 : ¬ C2 w.heap.size := fun h => by
    rcases (hC2 _ h).2 with h | h
    ·exact h1 h
    ·omega
   have n2 : ¬ C2 (w.heap.size + 1) := fun h => by
    rcases (hC2 _ h).2 with h | h
    ·exact h2 h
    ·omega
   refine ⟨fun b => C2 b ∨ b = w.heap.size ∨ b = w.heap.size + 1, hk.mono (fun b _ h => by
    rcases h with h | h
    ·exact .inl h
    ·exact .inr (.inr h)), fun b hb => ?_, ?_⟩
   ·rcases hb with h | h | h
    ·refine ⟨(hC2 b h).1, ?_⟩
     rcases (hC2 b h).2 with h | h
     ·exact .inl (.inl h)
     ·exact .inr h
    ·exact ⟨by have := hk.size; omega, .inl (.inr (.inl h))⟩
    ·exact ⟨by have := hk.size; omega, .inl (.inr (.inr h))⟩
   ·rcases hcase with ⟨rfl, rfl, rfl, hi⟩ | ⟨rfl, rfl, c, rfl, hi⟩
    ·exact .inl ⟨rfl, C2, rfl, n1, n2, fun b hb => (hC2 b hb).1, by have := hk.size; omega, hi, hl, hD⟩
    ·exact .inr ⟨rfl, C2, c, rfl, n1, n2, by have := hk.size; omega, hi, hl, hD⟩
  ·refine ⟨C, rfl, fun h => ?_, fun h => ?_, fun b hb => by have := hC b hb; omega, by omega, hI _ _ _ _ h0 (hk1 _), hL1, hK1⟩
   ·have := hC _ h; omega
   ·have := hC _ h; omega
  ·rintro e W2 ⟨⟨v, rfl⟩, C', (⟨xs, hRx, Cu, rfl, h1, h2, h3, h4, h5, h6, h7⟩ | ⟨Cu, c, rfl, h1, h2, h4, h5, h6, h7⟩)⟩
   ·have hk : Kept (fun b => w.heap.size ≤ b ∧ ¬ Cu b) W2 (W2.putObj (w.heap.size + 1) (.loop { rec .ready none with state := .exhausted })) := (Kept.refl _ _).putObj (.inl ⟨by omega, h2⟩) _
    exact ⟨none, _, by have := run_endLoop (P := P) h6 (by rw [hrec]; simp); rw [hrec] at this ⊢; exact this, hdone xs _ Cu _ hRx (Nat.le_refl _) (by simp; omega) h1 (hI _ _ _ _ h5 hk) ((World.putObj_heap_other (by omega)).trans h7)⟩
   ·have hk : Kept (fun b => w.heap.size ≤ b ∧ ¬ Cu b) W2 (W2.putObj (w.heap.size + 1) (.loop { rec .done (some c) with state := .exhausted })) := (Kept.refl _ _).putObj (.inl ⟨by omega, h2⟩) _
    exact ⟨some c, _, by have := run_endLoop (P := P) h6 (by rw [hrec]; simp); rw [hrec] at this ⊢; exact this, wpIn_wide.2 (hstop _ c Cu _ (Nat.le_refl _) (by simp; omega) h1 (hIx _ _ _ _ h5 hk) ((World.putObj_heap_other (by omega)).trans h7))⟩
end law
end
end Go.Proofs.YtbegdcjofnfkiaaGreatDoor
