/- join.Holds. -/
import Derived.Test.YtbegdcjofnfkiaaGreatDoorJ6
import Derived.Test.YtbegdcjofnfkiaaGreatDoorJ8
namespace Go.Proofs.YtbegdcjofnfkiaaGreatDoor
open Go.RowKit Go.Shelf Go.Sort

def holdV (q : Qu) (l : List Fc) (vs : List Int) : Bool := checkJ wdJ q && decide (vs.length = q.names.length) && holdsJ q l vs
def holdE (q : Qu) (vs : List Int) : Int := if checkJ wdJ q = true then (if vs.length = q.names.length then 0 else 510) else 500
/-- The query lies in its box. -/
structure QBox (q : Qu) (B : Nat) (W : World) : Prop where
  box : W.heap[B]? = some (.cells #[.slice q.nA q.nn q.nc, .slice q.sA q.sn q.sc, .slice q.aA q.an q.ac, .slice q.tA q.tn q.tc] 27 (0, 0))
theorem QBox.later {q : Qu} {B : Nat} {W W' : World} (h : QBox q B W) (hb : Below W.heap.size W W') : QBox q B W' := ⟨(hb.block _ (lt_of_heap h.box)).trans h.box⟩
theorem QBox.cells {q : Qu} {B : Nat} {W : World} (h : QBox q B W) : W.cell? ⟨B, 0, none⟩ = some (.slice q.nA q.nn q.nc) ∧ W.cell? ⟨B, 1, none⟩ = some (.slice q.sA q.sn q.sc) ∧ W.cell? ⟨B, 2, none⟩ = some (.slice q.aA q.an q.ac) ∧ W.cell? ⟨B, 3, none⟩ = some (.slice q.tA q.tn q.tc) ∧ B < W.heap.size :=
  ⟨by rw [cell_of_heap h.box]; rfl, by rw [cell_of_heap h.box]; rfl, by rw [cell_of_heap h.box]; rfl, by rw [cell_of_heap h.box]; rfl, lt_of_heap h.box⟩
set_option maxRecDepth 100000 in
set_option maxHeartbeats 4000000 in
theorem holds_any (q : Qu) (FA : Option Addr) (fn fc : Nat) (l : List Fc) (A : Option Addr) (n c : Nat) (vs : List Int) (w : World) (hq : QuIn q w w.heap.size) (hw : WordsAt w) (hl : fSl w w.heap.size FA fn fc l) (hv : iSl w w.heap.size A n c vs) :
    Calls Tryz.prog 8 #[.agg #[.slice q.nA q.nn q.nc, .slice q.sA q.sn q.sc, .slice q.aA q.an q.ac, .slice q.tA q.tn q.tc], .slice FA fn fc, .slice A n c] w fun e w' => e = .returned (.tuple #[.bool (holdV q l vs), .int .i64 (holdE q vs)]) ∧ Below w.heap.size w w' := by
  have HQu : Hid (∀ W, Below w.heap.size w W → QuIn q W W.heap.size) := fun W hb => hq.keep hb.size hb.block
  have HWd : Hid (∀ W, Below w.heap.size w W → WordsAt W) := fun W hb => hw.below hb
  have HFa : Hid (∀ W, Below w.heap.size w W → fSl W W.heap.size FA fn fc l) := fun W h => hl.keep (Rep.flat_stable _) h.size h.block
  have HV : Hid (∀ W, Below w.heap.size w W → iSl W W.heap.size A n c vs) := fun W h => hv.keep (Rep.flat_stable _) h.size h.block
  have HN := hidp hv.1
  have HLen : Hid (q.nn = q.names.length ∧ q.sn = q.shows.length ∧ q.an = q.atoms.length ∧ q.tn = q.tests.length) := ⟨hq.1.1, hq.2.1.1, hq.2.2.1.1, hq.2.2.2.1⟩
  have haq := hq.2.2.1.2.1
  have hac := hq.2.2.1.2.2.1
  have htq := hq.2.2.2.2.1
  have htc := hq.2.2.2.2.2.1
  obtain ⟨W0, hW0⟩ : ∃ W0, w.alloc (.cells #[.slice q.nA q.nn q.nc, .slice q.sA q.sn q.sc, .slice q.aA q.an q.ac, .slice q.tA q.tn q.tc] 27) = W0 := ⟨_, rfl⟩
  have hBW : Below w.heap.size w W0 := hW0 ▸ (Below.refl _ w).alloc (Nat.le_refl _) _
  have hb0 : QBox q w.heap.size W0 := ⟨hW0 ▸ World.alloc_heap_new _ _⟩
  have HBW := hidp hBW
  have HB0 := hidp hb0
  obtain ⟨x0, x1, x2, x3, l0⟩ := hb0.cells
  clear hBW hb0 hq hw hl hv
  go_enter Tryz.func8, Tryz.ntmps8
  go_wp2_with fail
  refine (qCheck_any q _ (HQu.out _ HBW.out) (HWd.out _ HBW.out)).mono ?_
  rintro e w1 ⟨rfl, hk1⟩
  have hb1 := HB0.out.later hk1
  have hB1 := HBW.out.trans (hk1.mono HBW.out.size)
  have HB1 := hidp hb1
  have HBe1 := hidp hB1
  clear hW0 x0 x1 x2 x3 l0 hB1
  obtain ⟨x0, x1, x2, x3, l0⟩ := hb1.cells
  clear hb1 hk1
  obtain ⟨ck, hck⟩ : ∃ b, checkJ wdJ q = b := ⟨_, rfl⟩
  rw [hck]
  have HCk := hidp hck
  clear hck
  cases ck
  · have HR : Hid (holdV q l vs = false ∧ holdE q vs = 500) := by show _ ∧ _; unfold holdV holdE; rw [HCk.out]; exact ⟨rfl, rfl⟩
    simp only [okE]
    go_wp2_with fail
    go_ret2
    exact ⟨by rw [HR.out.1, HR.out.2]; rfl, HBe1.out⟩
  simp only [okE]
  by_cases hn : n = q.nn
  rotate_left
  · have hne : ((n : Int) != (q.nn : Int)) = true := by simp; omega
    have HR : Hid (holdV q l vs = false ∧ holdE q vs = 510) := by
      show _ ∧ _
      unfold holdV holdE
      rw [HCk.out, if_pos rfl, if_neg (by have := HN.out; have := HLen.out.1; omega), decide_eq_false (p := vs.length = q.names.length) (by have := HN.out; have := HLen.out.1; omega)]
      exact ⟨rfl, rfl⟩
    clear hn
    go_wp2_with fail
    go_ret2
    exact ⟨by rw [HR.out.1, HR.out.2]; rfl, HBe1.out⟩
  have hVs := check_vars HCk.out
  have HVs := hidp hVs
  have HEq : Hid (n = q.nn) := hn
  have hne : ((n : Int) != (q.nn : Int)) = false := by simp; omega
  have HE : Hid (holdE q vs = 0) := by
    show _ = _
    unfold holdE
    rw [HCk.out, if_pos rfl, if_pos (by have := HN.out; have := HLen.out.1; omega)]
  have HVV : Hid (holdV q l vs = holdsJ q l vs) := by
    show _ = _
    unfold holdV
    rw [HCk.out, decide_eq_true (p := vs.length = q.names.length) (by have := HN.out; have := HLen.out.1; omega)]; rfl
  have HVar : Hid (∀ y ∈ argsJ q, VarIn y n) := fun y hy hv => by have := HVs.out.2.1 y hy hv; have := HLen.out.1; have := HEq.out; omega
  clear hn hVs
  go_wp2_with fail
  go_loopw [26] (fun i wr => ∃ k : Nat, k ≤ q.an ∧ i = .int .i64 k ∧ QBox q w.heap.size wr ∧ Below w.heap.size w wr ∧ ∀ (j : Nat) a, j < k → q.atoms[j]? = some a → atomJ l vs a = true) (fun i _ => q.an - (intOf i).toNat)
  case atStart => exact ⟨0, by omega, rfl, HB1.out, HBe1.out, fun j s h => by omega⟩
  case round =>
    obtain ⟨k, hk, rfl, hst, hbe, hok⟩ := hrel
    clear x0 x1 x2 x3 l0
    have HST := hidp hst
    have HBe := hidp hbe
    have HOK := hidp hok
    obtain ⟨x0, x1, x2, x3, l0⟩ := hst.cells
    clear hst hok hbe
    by_cases hkn : k < q.an
    · have hkn' : (k : Int) < q.an := by omega
      obtain ⟨b, off, a, cs, hA, hb, hs, hr, hc⟩ := Rows.get (HQu.out _ HBe.out).2.2.1 hkn
      obtain rfl := hr
      have c0 := hc 0 _ rfl
      have c1 := hc 1 _ rfl
      have c2 := hc 2 _ rfl
      have c3 := hc 3 _ rfl
      have c4 := hc 4 _ rfl
      have c5 := hc 5 _ rfl
      have c6 := hc 6 _ rfl
      have c7 := hc 7 _ rfl
      have c8 := hc 8 _ rfl
      rw [Nat.add_zero] at c0
      have lb := lt_of_cell c0
      have HX := hidp hs
      have hix := ix_Atoms (c := q.ac) hA hkn
      obtain ⟨W5, hW5⟩ : ∃ W5, wr.alloc (.cells #[.int .i64 a.kind, .bool a.s.var, .int .i64 a.s.n, .bool a.o.var, .int .i64 a.o.n, .bool a.v.var, .int .i64 a.v.n, .int .i64 a.term, .int .i64 a.known] 64) = W5 := ⟨_, rfl⟩
      have hs5 : QBox q w.heap.size W5 := hW5 ▸ HST.out.later ((Below.refl _ _).alloc (Nat.le_refl _) _)
      have hb5 : Below w.heap.size w W5 := hW5 ▸ HBe.out.alloc HBe.out.size _
      have HW5 := hidp hW5
      have HS5 := hidp hs5
      have HB5 := hidp hb5
      clear hs hA hc hW5 hs5 hb5
      go_wp2_with fail
      rw [HW5.out]
      refine (atom_any a FA fn fc l A n c vs _ (HFa.out _ HB5.out) (HV.out _ HB5.out) (HVar.out _ (args_atom (List.mem_of_getElem? HX.out) (by simp))) (HVar.out _ (args_atom (List.mem_of_getElem? HX.out) (by simp))) (HVar.out _ (args_atom (List.mem_of_getElem? HX.out) (by simp)))).mono ?_
      rintro e w6 ⟨rfl, hk6⟩
      have hs6 := HS5.out.later hk6
      have hb6 := HB5.out.trans (hk6.mono HB5.out.size)
      obtain ⟨p1, hp1⟩ : ∃ p, atomJ l vs a = p := ⟨_, rfl⟩
      rw [hp1]
      have HP1 := hidp hp1
      have HS6 := hidp hs6
      have HB6 := hidp hb6
      clear hp1 hs6 hb6 hk6 x0 x1 x2 x3 l0 c0 c1 c2 c3 c4 c5 c6 c7 c8 lb
      cases p1
      · have HR : Hid (holdsJ q l vs = false) := by
          show _ = _
          unfold holdsJ
          rw [Bool.eq_false_iff]
          intro h
          simp only [Bool.and_eq_true, List.all_eq_true] at h
          have := h.1 a (List.mem_of_getElem? HX.out)
          rw [HP1.out] at this; cases this
        go_wp2_with fail
        go_ret2
        exact ⟨by rw [HVV.out, HR.out, HE.out]; rfl, HB6.out⟩
      · go_wp2_with fail
        go_roundw
        case rel => exact ⟨k + 1, by omega, by go_num, HS6.out, HB6.out, fun j t hj ht => by
          rcases Nat.lt_or_ge j k with h | h
          · exact HOK.out j t h ht
          · obtain rfl : j = k := by omega
            rw [HX.out] at ht
            obtain rfl := Option.some.inj ht
            exact HP1.out⟩
        case measure => simp [intOf]; omega
    · obtain rfl : k = q.an := by omega
      have HOK3 : Hid (q.atoms.all (atomJ l vs) = true) := List.all_eq_true.2 fun a ha => by
        obtain ⟨i, hi⟩ := List.mem_iff_getElem?.1 ha
        exact HOK.out i a (by have := (List.getElem?_eq_some_iff.1 hi).1; have := HLen.out.2.2.1; omega) hi
      have hkk : ¬ ((q.an : Int) < q.an) := by omega
      clear HOK
      go_wp2_with fail
      go_loopw [39] (fun i wr => ∃ k : Nat, k ≤ q.tn ∧ i = .int .i64 k ∧ QBox q w.heap.size wr ∧ Below w.heap.size w wr ∧ ∀ (j : Nat) a, j < k → q.tests[j]? = some a → testJ vs a = true) (fun i _ => q.tn - (intOf i).toNat)
      case atStart => exact ⟨0, by omega, rfl, HST.out, HBe.out, fun j s h => by omega⟩
      case round =>
        rename World => wb
        obtain ⟨k, hk, rfl, hst, hbe, hok⟩ := hrel
        clear x0 x1 x2 x3 l0
        have HST := hidp hst
        have HBe := hidp hbe
        have HOK := hidp hok
        obtain ⟨x0, x1, x2, x3, l0⟩ := hst.cells
        clear hst hok hbe
        by_cases hkn : k < q.tn
        · have hkn' : (k : Int) < q.tn := by omega
          obtain ⟨b, off, t, cs, hA, hb, hs, hr, hc⟩ := Rows.get (HQu.out _ HBe.out).2.2.2 hkn
          obtain rfl := hr
          have c0 := hc 0 _ rfl
          have c1 := hc 1 _ rfl
          have c2 := hc 2 _ rfl
          have c3 := hc 3 _ rfl
          have c4 := hc 4 _ rfl
          rw [Nat.add_zero] at c0
          have lb := lt_of_cell c0
          have HX := hidp hs
          have hix := ix_Tests (c := q.tc) hA hkn
          obtain ⟨W5, hW5⟩ : ∃ W5, wb.alloc (.cells #[.int .i64 t.op, .bool t.a.var, .int .i64 t.a.n, .bool t.b.var, .int .i64 t.b.n] 67) = W5 := ⟨_, rfl⟩
          have hs5 : QBox q w.heap.size W5 := hW5 ▸ HST.out.later ((Below.refl _ _).alloc (Nat.le_refl _) _)
          have hb5 : Below w.heap.size w W5 := hW5 ▸ HBe.out.alloc HBe.out.size _
          have HW5 := hidp hW5
          have HS5 := hidp hs5
          have HB5 := hidp hb5
          clear hs hA hc hW5 hs5 hb5
          go_wp2_with fail
          rw [HW5.out]
          refine (test_any t A n c vs _ (HV.out _ HB5.out) (HVar.out _ (args_test (List.mem_of_getElem? HX.out) (by simp))) (HVar.out _ (args_test (List.mem_of_getElem? HX.out) (by simp)))).mono ?_
          rintro e w6 ⟨rfl, hk6⟩
          have hs6 := HS5.out.later hk6
          have hb6 := HB5.out.trans (hk6.mono HB5.out.size)
          obtain ⟨p1, hp1⟩ : ∃ p, testJ vs t = p := ⟨_, rfl⟩
          rw [hp1]
          have HP1 := hidp hp1
          have HS6 := hidp hs6
          have HB6 := hidp hb6
          clear hp1 hs6 hb6 hk6 x0 x1 x2 x3 l0 c0 c1 c2 c3 c4 lb
          cases p1
          · have HR : Hid (holdsJ q l vs = false) := by
              show _ = _
              unfold holdsJ
              rw [Bool.eq_false_iff]
              intro h
              simp only [Bool.and_eq_true, List.all_eq_true] at h
              have := h.2 t (List.mem_of_getElem? HX.out)
              rw [HP1.out] at this; cases this
            go_wp2_with fail
            go_ret2
            exact ⟨by rw [HVV.out, HR.out, HE.out]; rfl, HB6.out⟩
          · go_wp2_with fail
            go_roundw
            case rel => exact ⟨k + 1, by omega, by go_num, HS6.out, HB6.out, fun j t hj ht => by
              rcases Nat.lt_or_ge j k with h | h
              · exact HOK.out j t h ht
              · obtain rfl : j = k := by omega
                rw [HX.out] at ht
                obtain rfl := Option.some.inj ht
                exact HP1.out⟩
            case measure => simp [intOf]; omega
        · obtain rfl : k = q.tn := by omega
          have HR : Hid (holdsJ q l vs = true) := by
            show _ = _
            unfold holdsJ
            rw [HOK3.out, Bool.true_and]
            exact List.all_eq_true.2 fun a ha => by
              obtain ⟨i, hi⟩ := List.mem_iff_getElem?.1 ha
              exact HOK.out i a (by have := (List.getElem?_eq_some_iff.1 hi).1; have := HLen.out.2.2.2; omega) hi
          have hkk : ¬ ((q.tn : Int) < q.tn) := by omega
          clear HOK
          go_wp2_with fail
          go_ret2
          exact ⟨by rw [HVV.out, HR.out, HE.out]; rfl, HBe.out⟩
end Go.Proofs.YtbegdcjofnfkiaaGreatDoor
