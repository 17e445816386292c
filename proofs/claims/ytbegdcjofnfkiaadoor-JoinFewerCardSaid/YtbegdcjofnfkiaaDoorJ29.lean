/- JoinPast walked (printed by tools/gen114.py). -/
import Derived.Test.YtbegdcjofnfkiaaDoorJ26
import Derived.Test.YtbegdcjofnfkiaaDoorJ22
import Derived.Test.YtbegdcjofnfkiaaDoorM8
import Derived.Test.YtbegdcjofnfkiaaDoorJ24A
namespace Go.Proofs.YtbegdcjofnfkiaaDoor
open Go.RowKit Go.Shelf Go.Sort

theorem fInfoJ : (Tryd.prog.info? 57).map (fun i => (i.zero, i.size, i.bytes)) = some (some (.agg #[.int .i64 0, .int .i64 0, .int .i64 0, .int .i64 0, .int .i64 0, .int .i64 0, .int .i64 0, .int .i64 0]), 8, 64) := by kernel_rfl
theorem bInfoJ : (Tryd.prog.info? 4).map (fun i => (i.zero, i.size, i.bytes)) = some (some (.bool false), 1, 1) := by kernel_rfl
def bEnc (b : Bool) : List Value := [.bool b]
theorem bEnc_len (b : Bool) : (bEnc b).length = 1 := rfl
theorem made_list (n : Nat) : (madeCells (Value.bool false).cells n).toList = List.replicate n (.bool false) := by
  refine List.ext_getElem (by simp [madeCells]) fun i h1 h2 => ?_
  have hc : (Value.bool false).cells = #[.bool false] := rfl
  simp [madeCells, hc, Nat.mod_one]
theorem rep_flat (n : Nat) (b : Bool) : (List.replicate n b).flatMap bEnc = List.replicate n (.bool b) := by
  induction n with
  | zero => rfl
  | succ n ih => rw [List.replicate_succ, List.flatMap_cons, ih, List.replicate_succ]; rfl
theorem made_own (w : World) (base n : Nat) (hn : n ≤ 1000) (hb : base ≤ w.heap.size) : ∃ w', (Instr.makeSlice 50 (.int .i64 (n : Int)) (.int .i64 (n : Int))).run Tryd.prog w = .ok (.slice (some ⟨w.heap.size, 0, none⟩) n n) w' ∧
    w'.ownsRow base 4 1 (.slice (some ⟨w.heap.size, 0, none⟩) n n) n ((List.replicate n false).flatMap bEnc) ∧ Below w.heap.size w w' := by
  obtain ⟨i0, hi, hz, hs, hbb⟩ := info_parts bInfoJ
  have hr := run_make (P := Tryd.prog) w 50 4 i0 (.bool false) Tryd.underlying50 hi hz .i64 .i64 n n (by omega) (Int.le_refl _) (by rw [hbb]; omega) (by omega)
  rw [hs, Int.toNat_natCast, Nat.mul_one] at hr
  refine ⟨_, hr, ⟨by rw [flat_len bEnc_len, List.length_replicate], .inr ⟨w.heap.size, n, _, rfl, hb, World.alloc_heap_new _ _, Nat.le_refl _, by unfold maxLen; omega, by rw [size_madeCells, Nat.mul_one], ?_⟩⟩, (Below.refl _ _).alloc (Nat.le_refl _) _⟩
  rw [made_list, rep_flat, Nat.mul_one, List.take_of_length_le (by simp)]
theorem ix_Facts {A : Option Addr} {n c k b off : Nat} (hA : A = some ⟨b, off, none⟩) (hk : k < n) (W : World) : (Instr.indexAt 28 (.slice A n c) (.int .i64 k)).run Tryd.prog W = .ok (.pointer (some ⟨b, off + k * 8, none⟩)) W := by
  subst hA
  have hk' : (k : Int) < n := by omega
  simp [go_sem, hk']
theorem nodup_sub_len : ∀ (l m : List Int), l.Nodup → (∀ x ∈ l, x ∈ m) → l.length ≤ m.length
  | [], _, _, _ => Nat.zero_le _
  | a :: l, m, hd, h => by
    obtain ⟨h1, h2⟩ := List.nodup_cons.1 hd
    have hm := h a (by simp)
    have ih := nodup_sub_len l (m.erase a) h2 fun x hx => (List.mem_erase_of_ne (fun e : x = a => h1 (by rw [← e]; exact hx))).2 (h x (by simp [hx]))
    have h3 := List.length_erase_of_mem hm
    have h4 := List.length_pos_of_mem hm
    rw [List.length_cons]; omega
theorem str_len {l m : List Int} (hl : Str ltJ l) (h : ∀ x ∈ l, x ∈ m) : l.length ≤ m.length :=
  nodup_sub_len l m (hl.imp fun {a b} h e => by subst e; rw [linJ.irr] at h; cases h) h
theorem dom_mono (l more : List Fc) : (domR l).length ≤ (domR (l ++ more)).length :=
  str_len (domR_str _) fun k hk => by
    obtain ⟨h0, f, hf, h⟩ := (domR_mem l k).1 hk
    exact (domR_mem _ k).2 ⟨h0, f, List.mem_append_left _ hf, h⟩
/-- Which variables occur. -/
def usedTo (m : Nat) (l : List Ar) : List Bool := (List.range m).map fun (k : Nat) => l.any fun g => g.var && decide (g.n = k)
theorem usedTo_nil (m : Nat) : usedTo m [] = List.replicate m false := by
  unfold usedTo; simp [List.map_const']
theorem usedTo_len (m : Nat) (l : List Ar) : (usedTo m l).length = m := by simp [usedTo]
theorem usedTo_get {m k : Nat} {l : List Ar} (h : k < m) : (usedTo m l)[k]? = some (l.any fun g => g.var && decide (g.n = k)) := by
  unfold usedTo; rw [List.getElem?_map, List.getElem?_range h]; rfl
theorem usedTo_in {m k : Nat} {l : List Ar} {g : Ar} (hv : g.var = true) (hk : g.n = k) (h : k < m) : usedTo m (l ++ [g]) = (usedTo m l).set k true := by
  refine List.ext_getElem? fun i => ?_
  rcases Nat.lt_or_ge i m with hi | hi
  · rw [usedTo_get hi, List.getElem?_set, List.any_append]
    by_cases he : k = i
    · subst he
      rw [if_pos rfl, if_pos (by rw [usedTo_len]; exact h)]
      simp [hv, hk]
    · rw [if_neg he, usedTo_get hi]
      have : decide (g.n = (i : Int)) = false := by rw [decide_eq_false]; omega
      simp [this]
  · rw [List.getElem?_eq_none (by rw [usedTo_len]; exact hi), List.getElem?_eq_none (by rw [List.length_set, usedTo_len]; exact hi)]
theorem usedTo_out {m : Nat} {l : List Ar} {g : Ar} (h : ¬ (g.var = true ∧ 0 ≤ g.n ∧ g.n < m)) : usedTo m (l ++ [g]) = usedTo m l := by
  unfold usedTo
  refine List.map_congr_left fun k hk => ?_
  have hk2 := List.mem_range.1 hk
  rw [List.any_append]
  have : (g.var && decide (g.n = (k : Int))) = false := by
    cases hv : g.var with
    | false => rfl
    | true => simp; intro e; exact h ⟨hv, by omega, by omega⟩
  simp [this]
theorem am_get {n₀ n c k : Nat} {A : Option Addr} {l : List Am} {W : World} (h : amSl W n₀ A n c l) (hk : k < n) :
    ∃ b off a, A = some ⟨b, off, none⟩ ∧ b < n₀ ∧ l[k]? = some a ∧ W.cell? ⟨b, off + k * 9, none⟩ = some (.int .i64 a.kind) ∧ W.cell? ⟨b, off + k * 9 + 1, none⟩ = some (.bool a.s.var) ∧ W.cell? ⟨b, off + k * 9 + 2, none⟩ = some (.int .i64 a.s.n) ∧ W.cell? ⟨b, off + k * 9 + 3, none⟩ = some (.bool a.o.var) ∧ W.cell? ⟨b, off + k * 9 + 4, none⟩ = some (.int .i64 a.o.n) ∧
      W.cell? ⟨b, off + k * 9 + 5, none⟩ = some (.bool a.v.var) ∧ W.cell? ⟨b, off + k * 9 + 6, none⟩ = some (.int .i64 a.v.n) ∧ W.cell? ⟨b, off + k * 9 + 7, none⟩ = some (.int .i64 a.term) ∧ W.cell? ⟨b, off + k * 9 + 8, none⟩ = some (.int .i64 a.known) := by
  obtain ⟨b, off, m, cs, e, hlt, hk', rfl, hc⟩ := Rows.get h hk
  exact ⟨b, off, m, e, hlt, hk', hc 0 _ rfl, hc 1 _ rfl, hc 2 _ rfl, hc 3 _ rfl, hc 4 _ rfl, hc 5 _ rfl, hc 6 _ rfl, hc 7 _ rfl, hc 8 _ rfl⟩
/-- The list of what occurs, in memory. -/
structure UsedAt (q : Qu) (w6 : World) (as' : List Ar) (W : World) : Prop where
  own : W.ownsRow w6.heap.size 4 1 (.slice (some ⟨w6.heap.size, 0, none⟩) q.nn q.nn) q.nn ((usedTo q.nn as').flatMap bEnc)
  below : Below w6.heap.size w6 W
theorem UsedAt.keep {q : Qu} {w6 W W' : World} {as' : List Ar} (h : UsedAt q w6 as' W) (hb : Below W.heap.size W W') : UsedAt q w6 as' W' :=
  ⟨own_keepB h.own fun g hg => hb.block g (h.own.lt g hg).2, h.below.trans (hb.mono h.below.size)⟩
/-- While an atom's arguments are looked at. -/
structure ArgSt (q : Qu) (w w6 : World) (as' : List Ar) (a : Am) (B : Nat) (W : World) : Prop where
  used : UsedAt q w6 as' W
  qu : QBox q w.heap.size W
  below : Below w.heap.size w W
  atom : W.heap[B]? = some (.cells #[.int .i64 a.kind, .bool a.s.var, .int .i64 a.s.n, .bool a.o.var, .int .i64 a.o.n, .bool a.v.var, .int .i64 a.v.n, .int .i64 a.term, .int .i64 a.known] 46 (0, 0))
  arg : W.heap[B + 1]? = some (.cells #[.bool a.s.var, .int .i64 a.s.n, .bool a.o.var, .int .i64 a.o.n, .bool a.v.var, .int .i64 a.v.n] 44 (0, 0))
theorem ArgSt.keep {q : Qu} {w w6 W W' : World} {as' : List Ar} {a : Am} {B : Nat} (h : ArgSt q w w6 as' a B W) (hb : Below W.heap.size W W') : ArgSt q w w6 as' a B W' :=
  ⟨h.used.keep hb, h.qu.later hb, h.below.trans (hb.mono h.below.size), (hb.block _ (lt_of_heap h.atom)).trans h.atom, (hb.block _ (lt_of_heap h.arg)).trans h.arg⟩
theorem ArgSt.mark {q : Qu} {w w6 W : World} {as' : List Ar} {a : Am} {B gn : Nat} {g : Ar} (h : ArgSt q w w6 as' a B W) (hv : g.var = true) (hg : g.n = gn) (hgn : gn < q.nn) (h1 : w.heap.size < w6.heap.size) (h2 : w6.heap.size < B) : ArgSt q w w6 (as' ++ [g]) a B (W.setCell ⟨w6.heap.size, gn, none⟩ (.bool true)) := by
  have h5 := own_set bEnc_len h.used.own (by decide) (usedTo_get hgn) (j := 0) (by decide) (x' := true) (u := .bool true) rfl
  simp only [Nat.mul_one, Nat.add_zero] at h5
  refine ⟨⟨?_, h.used.below.setCell (p := ⟨w6.heap.size, gn, none⟩) (Nat.le_refl _) _⟩, ⟨heap_set_ne h.qu.box (by omega) _ _⟩, h.below.setCell (p := ⟨w6.heap.size, gn, none⟩) (by show _ ≤ w6.heap.size; omega) _, heap_set_ne h.atom (by omega) _ _, heap_set_ne h.arg (by omega) _ _⟩
  rw [usedTo_in hv hg hgn]
  exact h5
theorem ArgSt.pass {q : Qu} {w w6 W : World} {as' : List Ar} {a : Am} {B : Nat} {g : Ar} (h : ArgSt q w w6 as' a B W) (hn : ¬ (g.var = true ∧ 0 ≤ g.n ∧ g.n < q.nn)) : ArgSt q w w6 (as' ++ [g]) a B W :=
  ⟨⟨by rw [usedTo_out hn]; exact h.used.own, h.used.below⟩, h.qu, h.below, h.atom, h.arg⟩
set_option maxRecDepth 100000 in
set_option maxHeartbeats 8000000 in
theorem past_any (q : Qu) (FA MA : Option Addr) (fn fc mn mc : Nat) (l more : List Fc) (w : World) (hq : QuIn q w w.heap.size) (hw : WordsAt w) (hl : fSl w w.heap.size FA fn fc l) (hm : fSl w w.heap.size MA mn mc more) (hsz : (fn + mn) * 64 ≤ 140737488355328) :
    Calls Tryd.prog 5 #[.agg #[.slice q.nA q.nn q.nc, .slice q.sA q.sn q.sc, .slice q.aA q.an q.ac, .slice q.tA q.tn q.tc], .slice FA fn fc, .slice MA mn mc] w fun e w' => e = .returned (.bool true) ∧ Below w.heap.size w w' := by
  obtain ⟨i0, hi, hz, hs, hbb⟩ := info_parts fInfoJ
  have HQu : Hid (∀ W, Below w.heap.size w W → QuIn q W W.heap.size) := fun W hb => hq.keep hb.size hb.block
  have HWd : Hid (∀ W, Below w.heap.size w W → WordsAt W) := fun W hb => hw.below hb
  have HFa : Hid (∀ W, Below w.heap.size w W → fSl W W.heap.size FA fn fc l) := fun W h => hl.keep (Rep.flat_stable _) h.size h.block
  have HMo : Hid (∀ W, Below w.heap.size w W → fSl W W.heap.size MA mn mc more) := fun W h => hm.keep (Rep.flat_stable _) h.size h.block
  have HLen : Hid (q.nn = q.names.length ∧ q.sn = q.shows.length ∧ q.an = q.atoms.length ∧ q.tn = q.tests.length) := ⟨hq.1.1, hq.2.1.1, hq.2.2.1.1, hq.2.2.2.1⟩
  have HFn := hidp hl.1
  have HMn := hidp hm.1
  have hfc := hl.2.1
  have hmc := hm.2.1
  obtain ⟨W0, hW0⟩ : ∃ W0, w.alloc (.cells #[.slice q.nA q.nn q.nc, .slice q.sA q.sn q.sc, .slice q.aA q.an q.ac, .slice q.tA q.tn q.tc] 27) = W0 := ⟨_, rfl⟩
  have hBW : Below w.heap.size w W0 := hW0 ▸ (Below.refl _ w).alloc (Nat.le_refl _) _
  have hb0 : QBox q w.heap.size W0 := ⟨hW0 ▸ World.alloc_heap_new _ _⟩
  have HBW := hidp hBW
  have HB0 := hidp hb0
  have HW0 := hidp hW0
  clear hBW hb0 hq hw hl hm hW0
  go_enter Tryd.func5, Tryd.ntmps5
  go_wp2_with fail
  rw [HW0.out]
  refine (sane_any _ (HWd.out _ HBW.out)).mono ?_
  rintro e w1 ⟨rfl, hb1⟩
  have HB1 := hidp (HBW.out.trans (hb1.mono HBW.out.size))
  have HQ1 := hidp (HB0.out.later hb1)
  clear hb1
  obtain ⟨W2, hW2⟩ : ∃ W2, w1.alloc (.cells #[] 57) = W2 := ⟨_, rfl⟩
  have hb2 : Below w1.heap.size w1 W2 := by rw [← hW2]; exact (Below.refl _ _).alloc (Nat.le_refl _) _
  have o2 : W2.ownsRow w1.heap.size 57 8 (.slice (some ⟨w1.heap.size, 0, none⟩) 0 0) 0 [] := by rw [← hW2]; exact own_empty w1 w1.heap.size 8 57 (Nat.le_refl _)
  have B2 := HB1.out.trans (hb2.mono HB1.out.size)
  obtain ⟨X3, w3, hr3, o3, g3, at3⟩ := run_append_rows (P := Tryd.prog) (ty := 28) (l := []) (enc := fEnc) Tryd.underlying28 hi hz hs hbb rfl fEnc_len (by decide) fEnc_one o2 (HFa.out W2 B2) (by omega) (by omega) hb2.size
  simp only [List.nil_append, Nat.zero_add] at o3
  obtain ⟨A3, c3, rfl, _⟩ := own_rows fEnc_len (by decide) o3
  have hb3 : Below w1.heap.size w1 w3 := hb2.grown g3 hb2.size fun g e => (o2.lt g e).1
  have B3 := HB1.out.trans (hb3.mono HB1.out.size)
  obtain ⟨X4, w4, hr4, o4, g4, at4⟩ := run_append_rows (P := Tryd.prog) (ty := 28) (l := l) (enc := fEnc) Tryd.underlying28 hi hz hs hbb rfl fEnc_len (by decide) fEnc_one o3 (HMo.out w3 B3) (by omega) (by omega) hb3.size
  obtain ⟨XA, xc, rfl, rx⟩ := own_rows fEnc_len (by decide) o4
  have hb4 : Below w1.heap.size w1 w4 := hb3.grown g4 hb3.size fun g e => (o3.lt g e).1
  have HX : Hid (∀ W, Below w4.heap.size w4 W → fSl W W.heap.size XA (fn + mn) xc (l ++ more)) := fun W h => rx.keep (Rep.flat_stable _) h.size h.block
  have HB4 := hidp (HB1.out.trans (hb4.mono HB1.out.size))
  have HQ4 := hidp (HQ1.out.later hb4)
  have HR3 := hidp hr3
  have HR4 := hidp hr4
  have HW2 := hidp hW2
  have hxc := rx.2.1
  have hxcc := rx.2.2.1
  obtain ⟨x0, x1, x2, x3, l0⟩ := HQ4.out.cells
  clear hr3 hr4 hW2 hb2 o2 B2 o3 g3 at3 hb3 B3 o4 g4 at4 rx hb4 hi hz hs hbb
  go_wp2_with (at_builtin; first
    | (rw [HW2.out]; refine wpList_append_known rfl (.tmp 22) (.tmp 23) 28 rfl rfl rfl HR3.out ?_)
    | (refine wpList_append_known rfl (.tmp 24) (.tmp 25) 28 rfl rfl rfl HR4.out ?_))
  refine (few_any q XA (fn + mn) xc (l ++ more) _ (HQu.out _ HB4.out) (HX.out _ (Below.refl _ _))).mono ?_
  rintro e w5 ⟨rfl, hb5⟩
  have HB5 := hidp (HB4.out.trans (hb5.mono HB4.out.size))
  have HX5 := hidp hb5
  have HQ5 := hidp (HQ4.out.later hb5)
  clear x0 x1 x2 x3 l0 hb5
  obtain ⟨x0, x1, x2, x3, l0⟩ := HQ5.out.cells
  obtain ⟨fw, hfw⟩ : ∃ b, fewJ q (l ++ more) = b := ⟨_, rfl⟩
  rw [hfw]
  have HFw := hidp hfw
  clear hfw
  cases fw
  · go_wp2_with fail
    go_ret
    exact ⟨rfl, HB5.out⟩
  go_wp2_with fail
  refine (qCheck_any q _ (HQu.out _ HB5.out) (HWd.out _ HB5.out)).mono ?_
  rintro e w6 ⟨rfl, hb6⟩
  have HB6 := hidp (HB5.out.trans (hb6.mono HB5.out.size))
  have HX6 := hidp (HX5.out.trans (hb6.mono HX5.out.size))
  have HQ6 := hidp (HQ5.out.later hb6)
  clear x0 x1 x2 x3 l0 hb6
  obtain ⟨x0, x1, x2, x3, l0⟩ := HQ6.out.cells
  obtain ⟨ck, hck⟩ : ∃ b, checkJ wdJ q = b := ⟨_, rfl⟩
  rw [hck]
  have HCk := hidp hck
  clear hck
  cases ck
  · simp only [okE]
    go_wp2_with fail
    go_ret
    exact ⟨rfl, HB6.out⟩
  simp only [okE]
  have hfew : fn + mn ≤ 10 ∧ q.nn ≤ 4 ∧ q.an ≤ 6 ∧ (domR (l ++ more)).length ^ q.names.length ≤ 4096 := by
    have h := HFw.out
    unfold fewJ at h
    simp only [Bool.and_eq_true, decide_eq_true_eq, List.length_append] at h
    have h1 := HFn.out; have h2 := HMn.out; have h3 := HLen.out.1; have h4 := HLen.out.2.2.1
    exact ⟨by omega, by omega, by omega, h.2⟩
  obtain ⟨hx10, hn4, ha6, hpw⟩ := hfew
  have HPw := hidp hpw
  obtain ⟨w7, hmk, ou, hb7⟩ := made_own w6 w6.heap.size q.nn (by omega) (Nat.le_refl _)
  have HQ7 := hidp (HQ6.out.later hb7)
  have HB7 := hidp (HB6.out.trans (hb7.mono HB6.out.size))
  have HOu := hidp ou
  have Hb7 := hidp hb7
  clear hpw ou hb7
  go_wp2_with fail
  clear hmk x0 x1 x2 x3 l0
  go_loopw [9] (fun i wr => ∃ k : Nat, k ≤ q.an ∧ i = .int .i64 k ∧ UsedAt q w6 (argsA (q.atoms.take k)) wr ∧ (∀ a ∈ q.atoms.take k, ∀ f ∈ more, a.known < f.known) ∧ QBox q w.heap.size wr ∧ Below w.heap.size w wr) (fun i _ => q.an - (intOf i).toNat)
  case atStart => exact ⟨0, by omega, rfl, ⟨by rw [List.take_zero]; show w7.ownsRow _ _ _ _ _ ((usedTo _ []).flatMap bEnc); rw [usedTo_nil]; exact HOu.out, Hb7.out⟩, fun a ha => by simp at ha, HQ7.out, HB7.out⟩
  case round =>
    obtain ⟨k, hk, rfl, hus, hkn, hqb, hbe⟩ := hrel
    obtain ⟨x0, x1, x2, x3, l0⟩ := hqb.cells
    have HUs := hidp hus
    have HKn := hidp hkn
    have HQb := hidp hqb
    have HBe := hidp hbe
    clear hus hkn hqb hbe
    by_cases hka : k < q.an
    · obtain ⟨b, off, a, hA, hb, ha, d0, d1, d2, d3, d4, d5, d6, d7, d8⟩ := am_get (HQu.out _ HBe.out).2.2.1 hka
      have hka' : (k : Int) < q.an := by omega
      have lb := lt_of_cell d0
      have hix := fun W => ix_Atoms (c := q.ac) hA hka W
      have HA := hidp ha
      clear hA ha
      obtain ⟨V1, hV1⟩ : ∃ V, wr.alloc (.cells #[.int .i64 a.kind, .bool a.s.var, .int .i64 a.s.n, .bool a.o.var, .int .i64 a.o.n, .bool a.v.var, .int .i64 a.v.n, .int .i64 a.term, .int .i64 a.known] 46) = V := ⟨_, rfl⟩
      obtain ⟨V2, hV2⟩ : ∃ V, V1.alloc (.cells #[.bool a.s.var, .int .i64 a.s.n, .bool a.o.var, .int .i64 a.o.n, .bool a.v.var, .int .i64 a.v.n] 44) = V := ⟨_, rfl⟩
      have y1 : V1.heap.size = wr.heap.size + 1 := by rw [← hV1]; simp
      have y2 : V2.heap.size = wr.heap.size + 2 := by rw [← hV2]; simp; omega
      have n1 : Below wr.heap.size wr V1 := by rw [← hV1]; exact (Below.refl _ _).alloc (Nat.le_refl _) _
      have n2 : Below V1.heap.size V1 V2 := by rw [← hV2]; exact (Below.refl _ _).alloc (Nat.le_refl _) _
      have n12 := n1.trans (n2.mono n1.size)
      have gA : V2.heap[wr.heap.size]? = some (.cells #[.int .i64 a.kind, .bool a.s.var, .int .i64 a.s.n, .bool a.o.var, .int .i64 a.o.n, .bool a.v.var, .int .i64 a.v.n, .int .i64 a.term, .int .i64 a.known] 46 (0, 0)) := (n2.block _ (by omega)).trans (by rw [← hV1]; exact World.alloc_heap_new _ _)
      have gR : V2.heap[wr.heap.size + 1]? = some (.cells #[.bool a.s.var, .int .i64 a.s.n, .bool a.o.var, .int .i64 a.o.n, .bool a.v.var, .int .i64 a.v.n] 44 (0, 0)) := by rw [← hV2, ← y1]; exact World.alloc_heap_new _ _
      have HV2 : Hid ((wr.alloc (.cells #[.int .i64 a.kind, .bool a.s.var, .int .i64 a.s.n, .bool a.o.var, .int .i64 a.o.n, .bool a.v.var, .int .i64 a.v.n, .int .i64 a.term, .int .i64 a.known] 46)).alloc (.cells #[.bool a.s.var, .int .i64 a.s.n, .bool a.o.var, .int .i64 a.o.n, .bool a.v.var, .int .i64 a.v.n] 44) = V2) := by show _ = _; rw [hV1]; exact hV2
      have HI : Hid (ArgSt q w w6 (argsA (q.atoms.take k)) a wr.heap.size V2) := ⟨HUs.out.keep n12, HQb.out.later n12, HBe.out.trans (n12.mono HBe.out.size), gA, gR⟩
      have h6r : w6.heap.size < wr.heap.size ∨ q.nn = 0 := by
        rcases Nat.eq_zero_or_pos q.nn with h | h
        · exact .inr h
        · exact .inl (HUs.out.own.lt _ rfl).2
      clear hV1 hV2 y1 y2 n1 n2 n12 gA gR
      go_wp2_with fail
      rw [HV2.out]
      clear x0 x1 x2 x3 l0 d0 d1 d2 d3 d4 d5 d6 d7 d8 lb hix
      go_loopw [60] (fun i wq => ∃ k2 : Nat, k2 ≤ 3 ∧ i = .int .i64 k2 ∧ ArgSt q w w6 (argsA (q.atoms.take k) ++ [a.s, a.o, a.v].take k2) a wr.heap.size wq) (fun i _ => 3 - (intOf i).toNat)
      case atStart => exact ⟨0, by omega, rfl, by simpa using HI.out⟩
      case round =>
        clear HI HUs HQb HBe HV2
        obtain ⟨k2, hk2, rfl, hst⟩ := hrel
        rename World => wq
        by_cases hk3 : k2 < 3
        · obtain ⟨g, hg⟩ : ∃ g, [a.s, a.o, a.v][k2]? = some g := ⟨_, List.getElem?_eq_getElem (by simpa using hk3)⟩
          have hrw : Rows 2 (Rep.flat arEnc) wq wq.heap.size (some ⟨wr.heap.size + 1, 0, none⟩) 3 3 [a.s, a.o, a.v] := rows_of_heap (l := [a.s, a.o, a.v]) arEnc_len hst.arg (Nat.le_refl _) (by decide) rfl
          obtain ⟨bb, oo, g', cs, he, _, hg', hcs, hc⟩ := Rows.get hrw hk3
          rw [hg] at hg'
          obtain rfl := Option.some.inj hg'
          obtain rfl := hcs
          injection he with he
          injection he with e1 e2
          subst e1 e2
          have d0 := hc 0 _ rfl
          have d1 := hc 1 _ rfl
          simp only [Nat.zero_add, Nat.add_zero] at d0 d1
          have lb := lt_of_cell d0
          have HSt := hidp hst
          have hk3' : (k2 : Int) < 3 := by omega
          have HT : Hid (argsA (q.atoms.take k) ++ [a.s, a.o, a.v].take (k2 + 1) = (argsA (q.atoms.take k) ++ [a.s, a.o, a.v].take k2) ++ [g]) := by show _ = _; rw [take_snoc hg, List.append_assoc]
          clear hst hrw hc hg hg'
          by_cases hin : g.var = true ∧ 0 ≤ g.n ∧ g.n < q.nn
          · obtain ⟨hv, h0, h1⟩ := hin
            obtain ⟨gn, hgn⟩ : ∃ m : Nat, g.n = m := ⟨g.n.toNat, by omega⟩
            have hgl : gn < q.nn := by omega
            have hgi : (gn : Int) < q.nn := by omega
            have hw6 : w.heap.size < w6.heap.size := HQ6.out.cells.2.2.2.2
            have h6 : w6.heap.size < wr.heap.size := by rcases h6r with h | h <;> omega
            rw [hv] at d0
            rw [hgn] at d1
            have xu := own_cell bEnc_len HSt.out.used.own (usedTo_get hgl) (j := 0) rfl
            simp only [Nat.mul_one, Nat.add_zero] at xu
            have fu := own_free HSt.out.used.own (o := gn)
            have lu := lt_of_cell xu
            have HM : Hid (ArgSt q w w6 ((argsA (q.atoms.take k) ++ [a.s, a.o, a.v].take k2) ++ [g]) a wr.heap.size (wq.setCell ⟨w6.heap.size, gn, none⟩ (.bool true))) := HSt.out.mark hv hgn hgl hw6 h6
            clear hv hgn h0 h1
            go_wp2_with fail
            go_roundw
            case rel => exact ⟨k2 + 1, by omega, by go_num, by rw [HT.out]; exact HM.out.keep ((Below.refl _ _).alloc (Nat.le_refl _) _)⟩
            case measure => simp [intOf]; omega
          · have HP : Hid (ArgSt q w w6 ((argsA (q.atoms.take k) ++ [a.s, a.o, a.v].take k2) ++ [g]) a wr.heap.size wq) := HSt.out.pass hin
            obtain ⟨vb, hvb⟩ : ∃ b, g.var = b := ⟨_, rfl⟩
            rw [hvb] at d0 hin
            cases vb
            · clear hin hvb
              go_wp2_with fail
              go_roundw
              case rel => exact ⟨k2 + 1, by omega, by go_num, by rw [HT.out]; exact HP.out.keep ((Below.refl _ _).alloc (Nat.le_refl _) _)⟩
              case measure => simp [intOf]; omega
            · rcases Int.lt_or_le g.n 0 with h0 | h0
              · clear hin hvb
                go_wp2_with fail
                go_roundw
                case rel => exact ⟨k2 + 1, by omega, by go_num, by rw [HT.out]; exact HP.out.keep ((Below.refl _ _).alloc (Nat.le_refl _) _)⟩
                case measure => simp [intOf]; omega
              · have h1 : ¬ (g.n < q.nn) := fun h => hin ⟨rfl, h0, h⟩
                clear hin hvb
                go_wp2_with fail
                go_roundw
                case rel => exact ⟨k2 + 1, by omega, by go_num, by rw [HT.out]; exact HP.out.keep ((Below.refl _ _).alloc (Nat.le_refl _) _)⟩
                case measure => simp [intOf]; omega
        · obtain rfl : k2 = 3 := by omega
          have hkk : ¬ ((3 : Int) < 3) := by omega
          have HS3 : Hid (ArgSt q w w6 (argsA (q.atoms.take (k + 1))) a wr.heap.size wq) := by
            have h : argsA (q.atoms.take k) ++ [a.s, a.o, a.v].take 3 = argsA (q.atoms.take (k + 1)) := by rw [take_snoc HA.out, argsA_append, argsA_one]; rfl
            show ArgSt _ _ _ _ _ _ _
            rw [← h]; exact hst
          clear hst
          go_wp2_with fail
          go_loopw [13] (fun i wz => ∃ k3 : Nat, k3 ≤ mn ∧ i = .int .i64 k3 ∧ (∀ f ∈ more.take k3, a.known < f.known) ∧ ArgSt q w w6 (argsA (q.atoms.take (k + 1))) a wr.heap.size wz) (fun i _ => mn - (intOf i).toNat)
          case atStart => exact ⟨0, by omega, rfl, fun f hf => by simp at hf, HS3.out⟩
          case round =>
            clear HS3
            obtain ⟨k3, hk3, rfl, hlt, hst⟩ := hrel
            rename World => wz
            have HLt := hidp hlt
            have HSt := hidp hst
            have xa := cell_of_heap (o := 8) hst.atom
            simp only [List.getElem?_toArray, List.getElem?_cons_zero, List.getElem?_cons_succ] at xa
            have la := lt_of_cell xa
            clear hlt hst
            by_cases hkm : k3 < mn
            · obtain ⟨b, off, f, hfA, hb, hf, c0, c1, c2, c3, c4, c5, c6, c7⟩ := fSl.get (HMo.out _ HSt.out.below) hkm
              have hixf := fun W => ix_Facts (c := mc) hfA hkm W
              have lf := lt_of_cell c6
              have hkm' : (k3 : Int) < mn := by omega
              have HF := hidp hf
              clear hfA hf c0 c1 c2 c3 c4 c5 c7
              by_cases hle : f.known ≤ a.known
              · go_wp2_with fail
                refine wp_region_below wz.heap.size (by kernel_rfl) (by kernel_rfl) ?_
                repeat
                  first
                  | go_big_quiet_skip
                  | (refine q_step (by rfl) ?_
                     apply Exists.intro
                     refine ⟨fun w9 h9 => ?_, ?_⟩
                     · have hc9 := (bcell h9).1
                       go_simp
                       first | done | rfl
                     go_simp)
                refine wpQuiet_nil ?_
                intro w9 hb9
                have hB9 := HSt.out.below.trans (hb9.mono HSt.out.below.size)
                clear c6 lf xa la hixf hb9
                go_wp2_with fail
                go_ret
                exact ⟨rfl, hB9⟩
              · have hgt : a.known < f.known := by omega
                go_wp2_with fail
                refine wp_region_below wz.heap.size (by kernel_rfl) (by kernel_rfl) ?_
                repeat
                  first
                  | go_big_quiet_skip
                  | (refine q_step (by rfl) ?_
                     apply Exists.intro
                     refine ⟨fun w9 h9 => ?_, ?_⟩
                     · have hc9 := (bcell h9).1
                       go_simp
                       first | done | rfl
                     go_simp)
                refine wpQuiet_nil ?_
                intro w9 hb9
                have hS9 := HSt.out.keep hb9
                clear c6 lf xa la hixf hb9 hle
                go_wp2_with fail
                go_roundw
                case rel => exact ⟨k3 + 1, by omega, by go_num, fun f2 hf2 => by
                  rw [take_snoc HF.out] at hf2
                  rcases List.mem_append.1 hf2 with h | h
                  · exact HLt.out f2 h
                  · rw [List.mem_singleton.1 h]; exact hgt, hS9⟩
                case measure => simp [intOf]; omega
            · obtain rfl : k3 = mn := by omega
              have hkk : ¬ ((k3 : Int) < k3) := by omega
              clear xa la
              go_wp2_with fail
              go_roundw
              case rel => exact ⟨k + 1, by omega, by go_num, HSt.out.used, fun a2 ha2 f2 hf2 => by
                rw [take_snoc HA.out] at ha2
                rcases List.mem_append.1 ha2 with h | h
                · exact HKn.out a2 h f2 hf2
                · rw [List.mem_singleton.1 h]
                  exact HLt.out f2 (by rw [List.take_of_length_le (by have := HMn.out; omega)]; exact hf2), HSt.out.qu, HSt.out.below⟩
              case measure => simp [intOf]; omega
    · obtain rfl : k = q.an := by omega
      have hkk : ¬ ((q.an : Int) < q.an) := by omega
      have HUA : Hid (UsedAt q w6 (argsA q.atoms) wr) := by
        have h := HUs.out
        rw [List.take_of_length_le (by have := HLen.out.2.2.1; omega)] at h
        exact h
      have HKA : Hid (∀ a ∈ q.atoms, ∀ f ∈ more, a.known < f.known) := by
        have h := HKn.out
        rw [List.take_of_length_le (by have := HLen.out.2.2.1; omega)] at h
        exact h
      go_wp2_with fail
      clear x0 x1 x2 x3 l0
      go_loopw [14] (fun i wz => ∃ k : Nat, k ≤ q.nn ∧ i = .int .i64 k ∧ (∀ j, j < k → (usedTo q.nn (argsA q.atoms))[j]? = some true) ∧ UsedAt q w6 (argsA q.atoms) wz ∧ QBox q w.heap.size wz ∧ Below w.heap.size w wz) (fun i _ => q.nn - (intOf i).toNat)
      case atStart => exact ⟨0, by omega, rfl, fun j hj => by omega, HUA.out, HQb.out, HBe.out⟩
      case round =>
        obtain ⟨k, hk, rfl, hall, hus, hqb, hbe⟩ := hrel
        rename World => wz
        have HAl := hidp hall
        have HUs := hidp hus
        have HQb := hidp hqb
        have HBe := hidp hbe
        clear hall hus hqb hbe
        by_cases hkn : k < q.nn
        · have hkn' : (k : Int) < q.nn := by omega
          obtain ⟨ub, hub⟩ : ∃ b, (argsA q.atoms).any (fun g => g.var && decide (g.n = k)) = b := ⟨_, rfl⟩
          have hg := usedTo_get (m := q.nn) (l := argsA q.atoms) hkn
          rw [hub] at hg
          have xu := own_cell bEnc_len HUs.out.own hg (j := 0) rfl
          simp only [Nat.mul_one, Nat.add_zero] at xu
          have lu := lt_of_cell xu
          have HG := hidp hg
          clear hub hg
          cases ub
          · go_wp2_with fail
            go_ret
            exact ⟨rfl, HBe.out⟩
          · go_wp2_with fail
            go_roundw
            case rel => exact ⟨k + 1, by omega, by go_num, fun j hj => by
              rcases Nat.lt_or_ge j k with h | h
              · exact HAl.out j h
              · obtain rfl : j = k := by omega
                exact HG.out, HUs.out, HQb.out, HBe.out⟩
            case measure => simp [intOf]; omega
        · obtain rfl : k = q.nn := by omega
          have hkk : ¬ ((q.nn : Int) < q.nn) := by omega
          have HUJ : Hid (UsedJ q) := fun i hi => by
            have hi2 : i < q.nn := by have := HLen.out.1; omega
            have h := HAl.out i hi2
            rw [usedTo_get hi2] at h
            have h2 := Option.some.inj h
            obtain ⟨g, hg, h3⟩ := List.any_eq_true.1 h2
            simp only [Bool.and_eq_true, decide_eq_true_eq] at h3
            unfold argsA at hg
            obtain ⟨a, ha, hg⟩ := List.mem_flatMap.1 hg
            exact ⟨a, ha, g, hg, h3.1, h3.2⟩
          go_wp2_with fail
          go_loopw [15] (fun i wy => ∃ k : Nat, k ≤ fn + mn ∧ i = .int .i64 k ∧ (∀ f ∈ (l ++ more).take k, 0 ≤ f.key.subj ∧ 0 ≤ f.key.obj) ∧ QBox q w.heap.size wy ∧ Below w.heap.size w wy ∧ Below w4.heap.size w4 wy) (fun i _ => fn + mn - (intOf i).toNat)
          case atStart => exact ⟨0, by omega, rfl, fun f hf => by simp at hf, HQb.out, HBe.out, HX6.out.trans (HUs.out.below.mono HX6.out.size)⟩
          case round =>
            obtain ⟨k, hk, rfl, hall, hqb, hbe, hx⟩ := hrel
            rename World => wy
            have HAl := hidp hall
            have HQy := hidp hqb
            have HBy := hidp hbe
            have HXy := hidp hx
            clear hall hqb hbe hx
            by_cases hkx : k < fn + mn
            · obtain ⟨b, off, f, hfA, hb, hf, c0, c1, c2, c3, c4, c5, c6, c7⟩ := fSl.get (HX.out _ HXy.out) hkx
              have hixf := fun W => ix_Facts (c := xc) hfA hkx W
              have lf := lt_of_cell c1
              have hkx' : (k : Int) < ((fn + mn : Nat) : Int) := by omega
              have hkx2 : (k : Int) < (fn : Int) + mn := by omega
              have HF := hidp hf
              clear hfA hf c0 c3 c4 c5 c6 c7
              by_cases hs0 : f.key.subj < 0
              · go_wp2_with fail
                go_ret
                exact ⟨rfl, HBy.out⟩
              · have hs1 : 0 ≤ f.key.subj := by omega
                by_cases ho0 : f.key.obj < 0
                · go_wp2_with fail
                  go_ret
                  exact ⟨rfl, HBy.out⟩
                · have ho1 : 0 ≤ f.key.obj := by omega
                  clear hs0 ho0
                  go_wp2_with fail
                  go_roundw
                  case rel => exact ⟨k + 1, by omega, by go_num, fun f2 hf2 => by
                    rw [take_snoc HF.out] at hf2
                    rcases List.mem_append.1 hf2 with h | h
                    · exact HAl.out f2 h
                    · rw [List.mem_singleton.1 h]; exact ⟨hs1, ho1⟩, HQy.out, HBy.out, HXy.out⟩
                  case measure => simp [intOf]; omega
            · obtain rfl : k = fn + mn := by omega
              have hkk : ¬ (((fn + mn : Nat) : Int) < ((fn + mn : Nat) : Int)) := by omega
              have hkk2 : ¬ ((fn : Int) + mn < (fn : Int) + mn) := by omega
              have HPos : Hid (∀ f ∈ l ++ more, 0 ≤ f.key.subj ∧ 0 ≤ f.key.obj) := by
                have h := HAl.out
                rw [List.take_of_length_le (by rw [List.length_append]; have := HFn.out; have := HMn.out; omega)] at h
                exact h
              have HLaw : Hid (rowsV q l = rowsV q (l ++ more) ∧ rowsE q = 0) := by
                show _ ∧ _
                unfold rowsV rowsE
                rw [HCk.out]
                exact ⟨past_law (check_vars HCk.out) HKA.out HUJ.out HPos.out, rfl⟩
              obtain ⟨x0, x1, x2, x3, l0⟩ := HQy.out.cells
              have hf1 : (fulJ q (l ++ more)).length ≤ 65535 := by
                have h1 := fulF_len (l ++ more) (domR (l ++ more)) (cndsJ q) q.names.length []
                have h2 := HPw.out
                unfold fulJ
                omega
              have hf0 : (fulJ q l).length ≤ 65535 := by
                have h1 := fulF_len l (domR l) (cndsJ q) q.names.length []
                have h2 := HPw.out
                have h3 : (domR l).length ≤ (domR (l ++ more)).length := dom_mono l more
                have h4 := Nat.pow_le_pow_left h3 q.names.length
                unfold fulJ
                omega
              have HF1 := hidp hf1
              have HF0 := hidp hf0
              clear hf1 hf0
              go_wp2_with fail
              refine (rows_any q FA fn fc l _ (HQu.out _ HBy.out) (HWd.out _ HBy.out) (HFa.out _ HBy.out) (by omega) (fun _ => HF0.out)).mono ?_
              rintro e z1 ⟨A1, n1, c1, rfl, hr1, hb1⟩
              have HBz := hidp (HBy.out.trans (hb1.mono HBy.out.size))
              have HXz := hidp (HXy.out.trans (hb1.mono HXy.out.size))
              have HQz := hidp (HQy.out.later hb1)
              have HR1 := hidp hr1
              clear x0 x1 x2 x3 l0 hr1 hb1
              obtain ⟨x0, x1, x2, x3, l0⟩ := HQz.out.cells
              go_wp2_with fail
              refine (rows_any q XA (fn + mn) xc (l ++ more) _ (HQu.out _ HBz.out) (HWd.out _ HBz.out) (HX.out _ HXz.out) (by omega) (fun _ => HF1.out)).mono ?_
              rintro e z2 ⟨A2, n2, c2, rfl, hr2, hb2⟩
              have HBz2 := hidp (HBz.out.trans (hb2.mono HBz.out.size))
              have HR2 := hidp hr2
              have HR1' := hidp (HR1.out.keep hb2)
              clear x0 x1 x2 x3 l0 hr2 hb2
              go_wp2_with fail
              refine (r51Same_any A1 A2 n1 n2 c1 c2 (rowsV q l) (rowsV q (l ++ more)) _ HR1'.out HR2.out).mono ?_
              rintro e z3 ⟨rfl, hb3⟩
              have HBz3 := hidp (HBz2.out.trans (hb3.mono HBz2.out.size))
              rw [decide_eq_true HLaw.out.1]
              clear hb3
              go_wp2_with fail
              go_ret
              exact ⟨rfl, HBz3.out⟩
end Go.Proofs.YtbegdcjofnfkiaaDoor
