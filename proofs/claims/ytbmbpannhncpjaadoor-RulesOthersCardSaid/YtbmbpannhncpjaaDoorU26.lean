/- RulesOthers walked (printed by tools/gen88.py). -/
import Derived.Test.YtbmbpannhncpjaaDoorU20
import Derived.Test.YtbmbpannhncpjaaDoorU21
import Derived.Test.YtbmbpannhncpjaaDoorU12
import Derived.Test.YtbmbpannhncpjaaDoorUP3
import Derived.Test.YtbmbpannhncpjaaDoorInApp
import Derived.Test.YtbmbpannhncpjaaDoorRelT
import Derived.Test.YtbmbpannhncpjaaDoorPut
import Derived.Deep.RegionLaw
namespace Go.Proofs.YtbmbpannhncpjaaDoor
open Go.RowKit Go.Sort Go.Shelf

theorem step_append_known {P : Program} {ops : Array Oper} {o : Oper} {a : Act} {w w' : World} {K : Act → World → Prop} {Q : Exit → Act → World → Prop} {E : Prop} {v u v' : Value}
    (hg : o.guard = none) (s x : Operand) (t : TypeId) (hop : o.op = Op.call { callee := Callee.builtin Builtin.append, args := #[s, x], argTypes := #[t, t] })
    (hs : a.eval s = v) (hx : a.eval x = u) (hrun : (Builtin.append_ #[t, t] o.type #[v, u]).run P w = .ok v' w') (hK : K (a.put o.dst v') w') :
    if Region.wanted o (yielded ops a.tmps) = true then Oper.wp P o a w K Q else E := by
  have hw : Region.wanted o (yielded ops a.tmps) = true := by simp [Region.wanted, hg]
  rw [if_pos hw]
  unfold Oper.wp
  simp [execOp, hop, resolve, invoke, builtin, hs, hx, hrun, Result.andThen]
  exact hK
theorem step_append_cps {P : Program} {ops : Array Oper} {o : Oper} {a : Act} {w : World} {K : Act → World → Prop} {Q : Exit → Act → World → Prop} {E : Prop} {v u : Value} {R : Value → World → Prop}
    (hg : o.guard = none) (s x : Operand) (t : TypeId) (hop : o.op = Op.call { callee := Callee.builtin Builtin.append, args := #[s, x], argTypes := #[t, t] })
    (hs : a.eval s = v) (hx : a.eval x = u) (hrun : ∃ v' w', (Builtin.append_ #[t, t] o.type #[v, u]).run P w = .ok v' w' ∧ R v' w') (hK : ∀ v' w', R v' w' → K (a.put o.dst v') w') :
    if Region.wanted o (yielded ops a.tmps) = true then Oper.wp P o a w K Q else E := by
  obtain ⟨v', w', hrun, hR⟩ := hrun
  exact step_append_known hg s x t hop hs hx hrun (hK v' w' hR)
theorem snInfo : (Tryd.prog.info? 49).map (fun i => (i.zero, i.size, i.bytes)) = some (some (.agg #[.int .i64 0, .int .i64 0, .int .i64 0, .bool false]), 4, 32) := by kernel_rfl
/-- The situation that the law builds: its box, and what was appended so far. -/
def XBox (B : Nat) (s : Si) (W : World) (A : Option Addr) (n c : Nat) (L : List Sn) : Prop :=
  W.heap[B]? = some (.cells #[.slice A n c, .int .i64 s.earned, .int .i64 s.num, .int .i64 s.den] 29 (0, 0)) ∧ W.ownsRow (B + 1) 49 4 (.slice A n c) n (L.flatMap Sn.enc)

theorem XBox.keep {B : Nat} {s : Si} {W W' : World} {A : Option Addr} {n c : Nat} {L : List Sn} (h : XBox B s W A n c L) (hb : Below W.heap.size W W') : XBox B s W' A n c L :=
  ⟨(hb.block _ (lt_of_heap h.1)).trans h.1, own_keepB h.2 fun g e => hb.block g (h.2.lt g e).2⟩
set_option maxRecDepth 100000 in
set_option maxHeartbeats 8000000 in
theorem others_calls (hx : Nat) (x : Ru) (s : Si) (w : World) (hr : RuIn hx w w.heap.size x) (hs : SiIn w w.heap.size s) (hkk : KindsAt w) :
    Calls Tryd.prog 8 #[.agg #[.int .i64 x.op, .int .i64 x.course, .string x.name, .int .i64 x.n, .int .i64 x.d, .slice x.kA x.kn x.kc], .agg #[.slice s.sA s.sn s.sc, .int .i64 s.earned, .int .i64 s.num, .int .i64 s.den]] w fun e w' => e = .returned (.bool true) ∧ Below w.heap.size w w' := by
  have lk := hkk.lt
  have HKK := hidp hkk
  have hcs := hs.2.2.1
  have hls := hs.2.1
  have HN := hidp hs.1
  have HRu : Hid (∀ W, Below w.heap.size w W → RuIn hx W W.heap.size x) := fun W h => hr.keep h.size h.block
  have HSa : Hid (∀ W, Below w.heap.size w W → SiIn W W.heap.size s) := fun W h => hs.keep h.size h.block
  clear hr hs hkk

  obtain ⟨W0, hW0⟩ : ∃ W0, ((w.alloc (.cells #[.int .i64 x.op, .int .i64 x.course, .string x.name, .int .i64 x.n, .int .i64 x.d, .slice x.kA x.kn x.kc] 24)).alloc (.cells #[.slice s.sA s.sn s.sc, .int .i64 s.earned, .int .i64 s.num, .int .i64 s.den] 29)) = W0 := ⟨_, rfl⟩
  have hBW : Below w.heap.size w W0 := by rw [← hW0]; exact (((Below.refl _ w).alloc (by first | exact Nat.le_refl _ | (simp <;> omega)) _).alloc (by first | exact Nat.le_refl _ | (simp <;> omega)) _)
  have g0 : W0.heap[w.heap.size]? = some (.cells #[.int .i64 x.op, .int .i64 x.course, .string x.name, .int .i64 x.n, .int .i64 x.d, .slice x.kA x.kn x.kc] 24 (0, 0)) := by
    rw [← hW0, Below.heap_alloc _ _ _ (by simp <;> omega)]
    have := World.alloc_heap_new w (.cells #[.int .i64 x.op, .int .i64 x.course, .string x.name, .int .i64 x.n, .int .i64 x.d, .slice x.kA x.kn x.kc] 24)
    exact this
  have g1 : W0.heap[w.heap.size + 1]? = some (.cells #[.slice s.sA s.sn s.sc, .int .i64 s.earned, .int .i64 s.num, .int .i64 s.den] 29 (0, 0)) := by
    rw [← hW0]
    have := World.alloc_heap_new (w.alloc (.cells #[.int .i64 x.op, .int .i64 x.course, .string x.name, .int .i64 x.n, .int .i64 x.d, .slice x.kA x.kn x.kc] 24)) (.cells #[.slice s.sA s.sn s.sc, .int .i64 s.earned, .int .i64 s.num, .int .i64 s.den] 29)
    rwa [World.size_alloc] at this
  have HW0 := hidp hW0
  have G0 := hidp g0
  have l0 := lt_of_heap g0
  have G1 := hidp g1
  have l1 := lt_of_heap g1
  have HBW := hidp hBW
  have x0 := cell_of_heap (o := 0) g0
  have x1 := cell_of_heap (o := 1) g0
  have x2 := cell_of_heap (o := 2) g0
  have x3 := cell_of_heap (o := 3) g0
  have x4 := cell_of_heap (o := 4) g0
  have x5 := cell_of_heap (o := 5) g0
  have z0 := cell_of_heap (o := 0) g1
  have z1 := cell_of_heap (o := 1) g1
  have z2 := cell_of_heap (o := 2) g1
  have z3 := cell_of_heap (o := 3) g1
  simp only [List.getElem?_toArray, List.getElem?_cons_zero, List.getElem?_cons_succ] at x0 x1 x2 x3 x4 x5 z0 z1 z2 z3
  clear hW0 g0 g1
  go_enter Tryd.func8, Tryd.ntmps8
  go_wp2_with fail
  rw [HW0.out]
  refine (sane_any W0 (HKK.out.below HBW.out lk)).mono ?_
  rintro e w1 ⟨rfl, h1⟩
  have b1 := HBW.out.trans (h1.mono HBW.out.size)
  clear x0 x1 x2 x3 x4 x5 z0 z1 z2 z3
  have e0 := (h1.block _ l0).trans G0.out
  have e1 := (h1.block _ l1).trans G1.out
  have x0 := cell_of_heap (o := 0) e0
  have x1 := cell_of_heap (o := 1) e0
  have x2 := cell_of_heap (o := 2) e0
  have x3 := cell_of_heap (o := 3) e0
  have x4 := cell_of_heap (o := 4) e0
  have x5 := cell_of_heap (o := 5) e0
  have z0 := cell_of_heap (o := 0) e1
  have z1 := cell_of_heap (o := 1) e1
  have z2 := cell_of_heap (o := 2) e1
  have z3 := cell_of_heap (o := 3) e1
  simp only [List.getElem?_toArray, List.getElem?_cons_zero, List.getElem?_cons_succ] at x0 x1 x2 x3 x4 x5 z0 z1 z2 z3
  have m0 := lt_of_heap e0
  have m1 := lt_of_heap e1
  clear e0 e1
  obtain ⟨q0, hq0⟩ : ∃ q, fewB x = q := ⟨_, rfl⟩
  have hc := vFew_any hx x w1 (HRu.out w1 b1)
  rw [hq0] at hc
  have HC := hidp hc
  have Q0 := hidp hq0
  clear hc hq0
  cases q0
  · skip
    go_wp2_with fail
    refine HC.out.mono ?_
    rintro e w2 ⟨rfl, h2'⟩
    have h2 := h1.trans (h2'.mono h1.size)
    have b2 := HBW.out.trans (h2.mono HBW.out.size)
    go_wp2_with fail
    go_ret
    exact ⟨rfl, b2⟩
  go_wp2_with fail
  refine HC.out.mono ?_
  rintro e w2 ⟨rfl, h2'⟩
  have h2 := h1.trans (h2'.mono h1.size)
  have b2 := HBW.out.trans (h2.mono HBW.out.size)
  clear x0 x1 x2 x3 x4 x5 z0 z1 z2 z3 m0 m1
  have e0 := (h2.block _ l0).trans G0.out
  have e1 := (h2.block _ l1).trans G1.out
  have x0 := cell_of_heap (o := 0) e0
  have x1 := cell_of_heap (o := 1) e0
  have x2 := cell_of_heap (o := 2) e0
  have x3 := cell_of_heap (o := 3) e0
  have x4 := cell_of_heap (o := 4) e0
  have x5 := cell_of_heap (o := 5) e0
  have z0 := cell_of_heap (o := 0) e1
  have z1 := cell_of_heap (o := 1) e1
  have z2 := cell_of_heap (o := 2) e1
  have z3 := cell_of_heap (o := 3) e1
  simp only [List.getElem?_toArray, List.getElem?_cons_zero, List.getElem?_cons_succ] at x0 x1 x2 x3 x4 x5 z0 z1 z2 z3
  have m0 := lt_of_heap e0
  have m1 := lt_of_heap e1
  clear e0 e1
  by_cases hl1 : 50 < s.sn
  · go_wp2_with fail
    go_ret
    exact ⟨rfl, b2⟩
  obtain ⟨q2, hq2⟩ : ∃ q, checkB x = q := ⟨_, rfl⟩
  have hc := uCheck_any hx x w2 (HRu.out w2 b2) (HKK.out.below b2 lk)
  rw [hq2] at hc
  have HC := hidp hc
  have Q2 := hidp hq2
  clear hc hq2
  cases q2
  · skip
    dsimp only [okOr] at HC
    go_wp2_with fail
    refine HC.out.mono ?_
    rintro e w3 ⟨rfl, h3'⟩
    have h3 := h2.trans (h3'.mono h2.size)
    have b3 := HBW.out.trans (h3.mono HBW.out.size)
    go_wp2_with fail
    go_ret
    exact ⟨rfl, b3⟩
  dsimp only [okOr] at HC
  go_wp2_with fail
  refine HC.out.mono ?_
  rintro e w3 ⟨rfl, h3'⟩
  have h3 := h2.trans (h3'.mono h2.size)
  have b3 := HBW.out.trans (h3.mono HBW.out.size)
  clear x0 x1 x2 x3 x4 x5 z0 z1 z2 z3 m0 m1
  have e0 := (h3.block _ l0).trans G0.out
  have e1 := (h3.block _ l1).trans G1.out
  have x0 := cell_of_heap (o := 0) e0
  have x1 := cell_of_heap (o := 1) e0
  have x2 := cell_of_heap (o := 2) e0
  have x3 := cell_of_heap (o := 3) e0
  have x4 := cell_of_heap (o := 4) e0
  have x5 := cell_of_heap (o := 5) e0
  have z0 := cell_of_heap (o := 0) e1
  have z1 := cell_of_heap (o := 1) e1
  have z2 := cell_of_heap (o := 2) e1
  have z3 := cell_of_heap (o := 3) e1
  simp only [List.getElem?_toArray, List.getElem?_cons_zero, List.getElem?_cons_succ] at x0 x1 x2 x3 x4 x5 z0 z1 z2 z3
  have m0 := lt_of_heap e0
  have m1 := lt_of_heap e1
  clear e0 e1
  obtain ⟨q3, hq3⟩ : ∃ q, fitsB s = q := ⟨_, rfl⟩
  have hc := uFits_any s w3 (HSa.out w3 b3)
  rw [hq3] at hc
  have HC := hidp hc
  have Q3 := hidp hq3
  clear hc hq3
  cases q3
  · skip
    dsimp only [okOr] at HC
    go_wp2_with fail
    refine HC.out.mono ?_
    rintro e w4 ⟨rfl, h4'⟩
    have h4 := h3.trans (h4'.mono h3.size)
    have b4 := HBW.out.trans (h4.mono HBW.out.size)
    go_wp2_with fail
    go_ret
    exact ⟨rfl, b4⟩
  dsimp only [okOr] at HC
  go_wp2_with fail
  refine HC.out.mono ?_
  rintro e w4 ⟨rfl, h4'⟩
  have h4 := h3.trans (h4'.mono h3.size)
  have b4 := HBW.out.trans (h4.mono HBW.out.size)
  clear x0 x1 x2 x3 x4 x5 z0 z1 z2 z3 m0 m1
  have e0 := (h4.block _ l0).trans G0.out
  have e1 := (h4.block _ l1).trans G1.out
  have x0 := cell_of_heap (o := 0) e0
  have x1 := cell_of_heap (o := 1) e0
  have x2 := cell_of_heap (o := 2) e0
  have x3 := cell_of_heap (o := 3) e0
  have x4 := cell_of_heap (o := 4) e0
  have x5 := cell_of_heap (o := 5) e0
  have z0 := cell_of_heap (o := 0) e1
  have z1 := cell_of_heap (o := 1) e1
  have z2 := cell_of_heap (o := 2) e1
  have z3 := cell_of_heap (o := 3) e1
  simp only [List.getElem?_toArray, List.getElem?_cons_zero, List.getElem?_cons_succ] at x0 x1 x2 x3 x4 x5 z0 z1 z2 z3
  have m0 := lt_of_heap e0
  have m1 := lt_of_heap e1
  clear e0 e1
  go_wp2_with fail
  refine (uCourses_any hx x w4 (HRu.out w4 b4) (by have := parts_len Q2.out; omega)).mono ?_
  rintro e w6 ⟨A, m, c, cs0, rfl, hp, hd, h6'⟩
  have h6 := h4.trans (h6'.mono h4.size)
  have b6 := HBW.out.trans (h6.mono HBW.out.size)
  obtain ⟨cs, hcs0⟩ : ∃ cs, (cs0.mergeSort fun x y => decide (x ≤ y)) = cs := ⟨_, rfl⟩
  rw [hcs0] at hd
  have hpm : cs.Perm (courseSet (partsD 1 x)) := by rw [← hcs0]; exact (List.mergeSort_perm _ _).trans hp
  have HND : Hid cs.Nodup := (hpm.nodup_iff).2 (courseSet_nodup _)
  have HMEM : Hid (∀ k, k ∈ cs ↔ k ∈ courseSet (partsD 1 x)) := fun k => hpm.mem_iff
  have HD : Hid (∀ W, Below w6.heap.size w6 W → ISl W W.heap.size A m c cs) := fun W h => Rows.keep iStable hd h.size h.block
  have hm := hd.1
  have hcl := hd.2.1
  have hcm := hd.2.2.1
  have hlen : m ≤ 200 := by
    have h1 := parts_len Q2.out
    have h2 := courseSet_len (partsD 1 x)
    have h3 := hpm.length_eq
    omega
  have HM := hidp hm
  clear hp hpm hd hcs0 hm
  clear x0 x1 x2 x3 x4 x5 z0 z1 z2 z3 m0 m1
  have e0 := (h6.block _ l0).trans G0.out
  have e1 := (h6.block _ l1).trans G1.out
  have x0 := cell_of_heap (o := 0) e0
  have x1 := cell_of_heap (o := 1) e0
  have x2 := cell_of_heap (o := 2) e0
  have x3 := cell_of_heap (o := 3) e0
  have x4 := cell_of_heap (o := 4) e0
  have x5 := cell_of_heap (o := 5) e0
  have z0 := cell_of_heap (o := 0) e1
  have z1 := cell_of_heap (o := 1) e1
  have z2 := cell_of_heap (o := 2) e1
  have z3 := cell_of_heap (o := 3) e1
  simp only [List.getElem?_toArray, List.getElem?_cons_zero, List.getElem?_cons_succ] at x0 x1 x2 x3 x4 x5 z0 z1 z2 z3
  have m0 := lt_of_heap e0
  have m1 := lt_of_heap e1
  clear e0 e1
  obtain ⟨i0, hi, hz, hss, hbb⟩ := info_parts snInfo
  obtain ⟨BX, hBX⟩ : ∃ b, w6.heap.size = b := ⟨_, rfl⟩
  obtain ⟨W7, hW7⟩ : ∃ W7, w6.alloc (.cells #[.slice none 0 0, .int .i64 s.earned, .int .i64 s.num, .int .i64 s.den] 29) = W7 := ⟨_, rfl⟩
  have hx7 : XBox BX s W7 none 0 0 [] := ⟨by rw [← hW7, ← hBX]; exact World.alloc_heap_new _ _, World.ownsRow_nil _ _ _ _⟩
  have hb7 : Below w6.heap.size w6 W7 := by rw [← hW7]; exact (Below.refl _ w6).alloc (Nat.le_refl _) _
  have hs7 : BX < W7.heap.size := lt_of_heap hx7.1
  have HX7 := hidp hx7
  go_wp2_with fail
  try rw [hW7]
  try rw [hBX]
  have HBX := hidp hBX
  clear hW7 hx7 hBX
  go_loopw [7] (fun i wr => ∃ (q : Nat) (A' : Option Addr) (n' c' : Nat), q ≤ s.sn ∧ i = .int .i64 q ∧ XBox BX s wr A' n' c' (othersL cs (s.seen.take q)) ∧ n' ≤ q * 200 ∧ Below w6.heap.size w6 wr) (fun i _ => s.sn - (intOf i).toNat)
  case atStart => exact ⟨0, none, 0, 0, by omega, rfl, HX7.out, by omega, hb7⟩
  case round =>
    obtain ⟨q, A', n', c', hq, rfl, hxb, hn', hbe⟩ := hrel
    have hw := h6.trans (hbe.mono h6.size)
    have bw := HBW.out.trans (hw.mono HBW.out.size)
    have HXB := hidp hxb
    have HBE := hidp hbe
    clear hxb
    clear x0 x1 x2 x3 x4 x5 z0 z1 z2 z3 m0 m1
    have e0 := (hw.block _ l0).trans G0.out
    have e1 := (hw.block _ l1).trans G1.out
    have x0 := cell_of_heap (o := 0) e0
    have x1 := cell_of_heap (o := 1) e0
    have x2 := cell_of_heap (o := 2) e0
    have x3 := cell_of_heap (o := 3) e0
    have x4 := cell_of_heap (o := 4) e0
    have x5 := cell_of_heap (o := 5) e0
    have z0 := cell_of_heap (o := 0) e1
    have z1 := cell_of_heap (o := 1) e1
    have z2 := cell_of_heap (o := 2) e1
    have z3 := cell_of_heap (o := 3) e1
    simp only [List.getElem?_toArray, List.getElem?_cons_zero, List.getElem?_cons_succ] at x0 x1 x2 x3 x4 x5 z0 z1 z2 z3
    have m0 := lt_of_heap e0
    have m1 := lt_of_heap e1
    clear e0 e1
    by_cases hlt : q < s.sn
    · skip
      obtain ⟨b, off, y, e2, hb', hzk, c0, c1, c2, c3⟩ := snSl.get (HSa.out wr bw) hlt
      have HZ := hidp hzk
      have hqn : (q : Int) < s.sn := by omega
      have hbl := lt_of_cell c0
      rw [e2] at z0
      have HE2 := hidp e2
      clear hzk e2
      go_wp2_with fail
      go_loopw [8] (fun k wr2 => ∃ (j : Nat) (A' : Option Addr) (n' c' : Nat), j ≤ m ∧ k = .int .i64 j ∧ XBox BX s wr2 A' n' c' (othersL cs (s.seen.take q) ++ List.replicate ((cs.take j).count y.course) y) ∧ n' ≤ q * 200 + j ∧ Below w6.heap.size w6 wr2) (fun k _ => m - (intOf k).toNat)
      case atStart => exact ⟨0, A', n', c', by omega, rfl, by simpa using HXB.out, by omega, HBE.out⟩
      case round =>
        clear HXB hn' hbe HBE bw hw c0 c1 c2 c3 hb' hbl m0 m1
        obtain ⟨j, A2, n2, c2', hj, rfl, hxb, hn2, hbe⟩ := hrel
        have hw := h6.trans (hbe.mono h6.size)
        have bw := HBW.out.trans (hw.mono HBW.out.size)
        have HXB := hidp hxb
        have HBE := hidp hbe
        have xb0 := cell_of_heap (o := 0) hxb.1
        have xb1 := cell_of_heap (o := 1) hxb.1
        have xb2 := cell_of_heap (o := 2) hxb.1
        have xb3 := cell_of_heap (o := 3) hxb.1
        simp only [List.getElem?_toArray, List.getElem?_cons_zero, List.getElem?_cons_succ] at xb0 xb1 xb2 xb3
        have lxb := lt_of_heap hxb.1
        clear hxb
        obtain ⟨b3, off3, y3, e23, hb', hz3, c0, c1, c2, c3⟩ := snSl.get (HSa.out wr bw) hlt
        obtain ⟨rfl, rfl⟩ : b = b3 ∧ off = off3 := by rw [HE2.out] at e23; simpa using e23
        obtain rfl : y = y3 := by rw [HZ.out] at hz3; exact Option.some.inj hz3
        have hbl := lt_of_cell c0
        clear hz3 e23
        clear x0 x1 x2 x3 x4 x5 z0 z1 z2 z3
        have e0 := (hw.block _ l0).trans G0.out
        have e1 := (hw.block _ l1).trans G1.out
        have x0 := cell_of_heap (o := 0) e0
        have x1 := cell_of_heap (o := 1) e0
        have x2 := cell_of_heap (o := 2) e0
        have x3 := cell_of_heap (o := 3) e0
        have x4 := cell_of_heap (o := 4) e0
        have x5 := cell_of_heap (o := 5) e0
        have z0 := cell_of_heap (o := 0) e1
        have z1 := cell_of_heap (o := 1) e1
        have z2 := cell_of_heap (o := 2) e1
        have z3 := cell_of_heap (o := 3) e1
        simp only [List.getElem?_toArray, List.getElem?_cons_zero, List.getElem?_cons_succ] at x0 x1 x2 x3 x4 x5 z0 z1 z2 z3
        have m0 := lt_of_heap e0
        have m1 := lt_of_heap e1
        clear e0 e1
        rw [HE2.out] at z0
        by_cases hlk : j < m
        · skip
          obtain ⟨bl, ol, zc, el, hbl', hzc, d0⟩ := iSl.get (HD.out wr HBE.out) hlk
          have hjm : (j : Int) < m := by omega
          have lbl := lt_of_cell d0
          have HZC := hidp hzc
          subst el
          clear hzc
          go_wp2_with fail
          obtain ⟨qz, hqz⟩ : ∃ q, (zc == y.course) = q := ⟨_, rfl⟩
          refine wp_region_S wr.heap.size 11 (fun _ => false) (Nat.le_refl _) (by kernel_rfl) (by kernel_rfl) (by kernel_rfl) ?_
          dsimp only [List.take, List.drop]
          apply relS_det (mask := [])
          · rfl
          · kernel_rfl
          · kernel_rfl
          · dsimp only [oblS]
            rintro w9 h9
            go_simp
            exact ⟨Below.refl _ _, rfl⟩
          dsimp only [List.nil_append, List.cons_append]
          apply relS_det (mask := [false])
          · rfl
          · kernel_rfl
          · kernel_rfl
          · dsimp only [oblS]
            rintro w9 h9
            go_simp
            exact ⟨Below.refl _ _, rfl⟩
          dsimp only [List.nil_append, List.cons_append]
          apply relS_det (mask := [true, true])
          · rfl
          · kernel_rfl
          · kernel_rfl
          · dsimp only [oblS]
            rintro w9 h9
            go_simp
            exact ⟨Below.refl _ _, rfl⟩
          dsimp only [List.nil_append, List.cons_append]
          apply relS_det (mask := [false, false, true])
          · rfl
          · kernel_rfl
          · kernel_rfl
          · dsimp only [oblS]
            rintro w9 h9
            have hc9 := (bcell h9).1
            go_simp
            exact ⟨Below.refl _ _, rfl⟩
          dsimp only [List.nil_append, List.cons_append]
          apply relS_det (mask := [false, false, false, false])
          · rfl
          · kernel_rfl
          · kernel_rfl
          · dsimp only [oblS]
            rintro w9 h9
            go_simp
            exact ⟨Below.refl _ _, rfl⟩
          dsimp only [List.nil_append, List.cons_append]
          apply relS_det (mask := [false, false, false, false, true])
          · rfl
          · kernel_rfl
          · kernel_rfl
          · dsimp only [oblS]
            rintro w9 h9
            have hc9 := (bcell h9).1
            go_simp
            exact ⟨Below.refl _ _, rfl⟩
          dsimp only [List.nil_append, List.cons_append]
          apply relS_det (mask := [false, false, false, false, false, false])
          · rfl
          · kernel_rfl
          · kernel_rfl
          · dsimp only [oblS]
            rintro w9 h9
            go_simp
            exact ⟨Below.refl _ _, rfl⟩
          dsimp only [List.nil_append, List.cons_append]
          apply relS_det (mask := [false, false, false, false, false, true, true])
          · rfl
          · kernel_rfl
          · kernel_rfl
          · dsimp only [oblS]
            rintro w9 h9
            go_simp
            exact ⟨Below.refl _ _, rfl⟩
          dsimp only [List.nil_append, List.cons_append]
          apply relS_det (mask := [false, false, false, false, false, false, false, true])
          · rfl
          · kernel_rfl
          · kernel_rfl
          · dsimp only [oblS]
            rintro w9 h9
            go_simp
            exact ⟨Below.refl _ _, rfl⟩
          dsimp only [List.nil_append, List.cons_append]
          apply relS_det (mask := [false, false, false, false, false, false, false, false, true])
          · rfl
          · kernel_rfl
          · kernel_rfl
          · dsimp only [oblS]
            rintro w9 h9
            have hc9 := (bcell h9).1
            go_simp
            exact ⟨Below.refl _ _, rfl⟩
          dsimp only [List.nil_append, List.cons_append]
          apply relS_det (mask := [false, false, false, true, false, false, false, false, false, true]) (x := .bool qz)
          · rfl
          · kernel_rfl
          · kernel_rfl
          · dsimp only [oblS]
            rintro w9 h9
            go_simp
            exact ⟨Below.refl _ _, rfl⟩
          dsimp only [List.nil_append, List.cons_append]
          refine relS_end (by rfl) ?_
          dsimp only [finS]
          -- rintro  w8 hb
          rintro w8 h8
          have hbe8 := hbe.trans (h8.mono hbe.size)
          have HE8 := hidp hbe8
          have HXB8 := hidp (HXB.out.keep h8)
          cases qz
          · have hne : zc ≠ y.course := by simpa using hqz
            have HX : Hid ((cs.take (j + 1)).count y.course = (cs.take j).count y.course) := by show _ = _; rw [count_step HZC.out, if_neg hne]; rfl
            clear hqz hne
            go_simp
            go_wp2_with fail
            go_roundw
            case rel => exact ⟨j + 1, A2, n2, c2', by omega, by go_num, by rw [HX.out]; exact HXB8.out, by omega, HE8.out⟩
            case measure => simp [intOf]; omega
          have heq : zc = y.course := by simpa using hqz
          have HX : Hid ((cs.take (j + 1)).count y.course = (cs.take j).count y.course + 1) := by show _ = _; rw [count_step HZC.out, if_pos heq]
          clear hqz heq c0 c1 c2 c3 hb' hbl xb0 xb1 xb2 xb3 lxb d0 lbl x0 x1 x2 x3 x4 x5 z0 z1 z2 z3 m0 m1
          have hw8 := h6.trans (hbe8.mono h6.size)
          have bw8 := HBW.out.trans (hw8.mono HBW.out.size)
          have xb0 := cell_of_heap (o := 0) HXB8.out.1
          have xb1 := cell_of_heap (o := 1) HXB8.out.1
          have xb2 := cell_of_heap (o := 2) HXB8.out.1
          have xb3 := cell_of_heap (o := 3) HXB8.out.1
          simp only [List.getElem?_toArray, List.getElem?_cons_zero, List.getElem?_cons_succ] at xb0 xb1 xb2 xb3
          have lxb := lt_of_heap HXB8.out.1
          obtain ⟨b3, off3, y3, e23, hb', hz3, c0, c1, c2, c3⟩ := snSl.get (HSa.out w8 bw8) hlt
          obtain ⟨rfl, rfl⟩ : b = b3 ∧ off = off3 := by rw [HE2.out] at e23; simpa using e23
          obtain rfl : y = y3 := by rw [HZ.out] at hz3; exact Option.some.inj hz3
          have hbl := lt_of_cell c0
          clear hz3 e23
          have e0 := (hw8.block _ l0).trans G0.out
          have e1 := (hw8.block _ l1).trans G1.out
          have x0 := cell_of_heap (o := 0) e0
          have x1 := cell_of_heap (o := 1) e0
          have x2 := cell_of_heap (o := 2) e0
          have x3 := cell_of_heap (o := 3) e0
          have x4 := cell_of_heap (o := 4) e0
          have x5 := cell_of_heap (o := 5) e0
          have z0 := cell_of_heap (o := 0) e1
          have z1 := cell_of_heap (o := 1) e1
          have z2 := cell_of_heap (o := 2) e1
          have z3 := cell_of_heap (o := 3) e1
          simp only [List.getElem?_toArray, List.getElem?_cons_zero, List.getElem?_cons_succ] at x0 x1 x2 x3 x4 x5 z0 z1 z2 z3
          have m0 := lt_of_heap e0
          have m1 := lt_of_heap e1
          clear e0 e1
          rw [HE2.out] at z0
          go_simp
          go_wp2_with fail
          clear xb1 xb2 xb3
          have HBd : Hid (BX < w8.heap.size) := lt_of_heap HXB8.out.1
          go_region_law (
            (refine step_append_cps rfl (.tmp 62) (.tmp 68) 25 rfl rfl rfl (run_append_rows (P := Tryd.prog) (enc := Sn.enc) (base := BX + 1) (s := [y]) (l := othersL cs (s.seen.take q) ++ List.replicate ((cs.take j).count y.course) y) Tryd.underlying25 hi hz hss hbb rfl Sn.enc_len (by decide) Sn.enc_one (own_keepB HXB8.out.2 (fun g e => Below.heap_alloc w8 _ g (HXB8.out.2.lt g e).2)) (rows_of_heap (l := [y]) Sn.enc_len (World.alloc_heap_new w8 _) (Nat.le_refl _) (by decide) rfl) (by omega) (by omega) (by have := HBd.out; show BX + 1 ≤ (w8.alloc _).heap.size; simp; omega)) ?_
             rintro v' w' ⟨ho, hg, hat⟩
             obtain ⟨A5, c5, rfl, _⟩ := own_rows Sn.enc_len (by decide) ho
             have hhx : w'.heap[BX]? = some (.cells #[.slice A2 n2 c2', .int .i64 s.earned, .int .i64 s.num, .int .i64 s.den] 29 (0, 0)) := by
               rw [hg.block BX (by simp; have := HBd.out; omega) (fun e => by have := (HXB8.out.2.lt BX e.symm).1; omega)]
               exact (Below.heap_alloc w8 _ BX HBd.out).trans HXB8.out.1
             have hk0 := cell_of_heap (o := 0) hhx
             have hk1 := frozen_of_heap (o := 0) hhx
             simp only [List.getElem?_toArray, List.getElem?_cons_zero] at hk0))
          all_goals
            have hnx : XBox BX s (w'.setCell ⟨BX, 0, none⟩ (.slice A5 (n2 + 1) c5)) A5 (n2 + 1) c5 (othersL cs (s.seen.take q) ++ List.replicate ((cs.take (j + 1)).count y.course) y) := by
              refine ⟨by have := heap_setU hhx 0 (.slice A5 (n2 + 1) c5); simpa using this, ?_⟩
              rw [HX.out, List.replicate_succ', ← List.append_assoc]
              exact own_keepB ho (fun g e => Below.heap_setCell _ _ _ g (by have := (ho.lt g e).1; show g ≠ BX; omega))
            have hbx : Below w6.heap.size w6 (w'.setCell ⟨BX, 0, none⟩ (.slice A5 (n2 + 1) c5)) :=
              (((HE8.out.alloc HE8.out.size _).drew).grown hg (by have := HE8.out.size; show w6.heap.size ≤ (w8.alloc _).heap.size; simp; omega) (fun g e => by have := (HXB8.out.2.lt g e).1; have := HBX.out; omega)).setCell (by have := HBX.out; show w6.heap.size ≤ BX; omega) _
            have HNX := hidp hnx
            have HBX9 := hidp hbx
            clear hnx hbx ho hg hat hhx hk0 hk1 xb0 lxb c0 c1 c2 c3
            go_wp2_with fail
            go_roundw
            case rel => exact ⟨j + 1, A5, n2 + 1, c5, by omega, by go_num, HNX.out, by omega, HBX9.out⟩
            case measure => simp [intOf]; omega
        · obtain rfl : j = m := by omega
          have hjj : ¬ ((j : Int) < j) := by omega
          have HX : Hid (othersL cs (s.seen.take (q + 1)) = othersL cs (s.seen.take q) ++ List.replicate ((cs.take j).count y.course) y) := by
            show _ = _
            have hT : cs.take j = cs := List.take_of_length_le (by have := HM.out; omega)
            rw [othersL_step HZ.out, hT]
          go_wp2_with fail
          go_roundw
          case rel => exact ⟨q + 1, A2, n2, c2', by omega, by go_num, by rw [HX.out]; exact HXB.out, by omega, HBE.out⟩
          case measure => simp [intOf]; omega
    · skip
      obtain rfl : q = s.sn := by omega
      have hqq : ¬ ((s.sn : Int) < s.sn) := by omega
      have xb0 := cell_of_heap (o := 0) HXB.out.1
      have xb1 := cell_of_heap (o := 1) HXB.out.1
      have xb2 := cell_of_heap (o := 2) HXB.out.1
      have xb3 := cell_of_heap (o := 3) HXB.out.1
      simp only [List.getElem?_toArray, List.getElem?_cons_zero, List.getElem?_cons_succ] at xb0 xb1 xb2 xb3
      have lxb := lt_of_heap HXB.out.1
      have hL : othersL cs (s.seen.take s.sn) = s.seen.filter fun y => decide (y.course ∈ courseSet (partsD 1 x)) := by
        have hT : s.seen.take s.sn = s.seen := List.take_of_length_le (by rw [← HN.out]; omega)
        rw [hT, othersL_filter HND.out]
        exact List.filter_congr fun y _ => by rw [decide_eq_decide]; exact HMEM.out _
      have hrow : SiIn wr wr.heap.size ⟨A', n', c', s.earned, s.num, s.den, othersL cs (s.seen.take s.sn)⟩ := by
        obtain ⟨A6, cp6, e6, hrow6⟩ := own_rows Sn.enc_len (by decide) HXB.out.2
        obtain ⟨rfl, rfl⟩ : A' = A6 ∧ c' = cp6 := by simpa using e6
        exact hrow6
      have HSt : Hid (∀ W, Below wr.heap.size wr W → SiIn W W.heap.size ⟨A', n', c', s.earned, s.num, s.den, othersL cs (s.seen.take s.sn)⟩) := fun W h => hrow.keep h.size h.block
      have hft : fitsB ⟨A', n', c', s.earned, s.num, s.den, othersL cs (s.seen.take s.sn)⟩ = true := others_fits hL rfl rfl rfl Q3.out
      obtain ⟨v, hv⟩ : ∃ v, valR s x = v := ⟨_, rfl⟩
      have hvt : valR ⟨A', n', c', s.earned, s.num, s.den, othersL cs (s.seen.take s.sn)⟩ x = v := by rw [← hv]; exact others_law hL rfl rfl rfl Q2.out
      have HF : Hid (∀ W, Below wr.heap.size wr W → Calls Tryd.prog 21 #[.agg #[.slice A' n' c', .int .i64 s.earned, .int .i64 s.num, .int .i64 s.den]] W fun e w' => e = .returned (.int .i64 0) ∧ Below W.heap.size W w') := fun W h => by
        have hc := uFits_any ⟨A', n', c', s.earned, s.num, s.den, othersL cs (s.seen.take s.sn)⟩ W (HSt.out W h)
        rw [hft] at hc; exact hc
      have HHt : Hid (∀ W, Below wr.heap.size wr W → Calls Tryd.prog 22 #[.agg #[.int .i64 x.op, .int .i64 x.course, .string x.name, .int .i64 x.n, .int .i64 x.d, .slice x.kA x.kn x.kc], .agg #[.slice A' n' c', .int .i64 s.earned, .int .i64 s.num, .int .i64 s.den]] W fun e w' => e = .returned (.bool v) ∧ Below W.heap.size W w') := fun W h => by
        have hc := holds12_any hx x ⟨A', n', c', s.earned, s.num, s.den, othersL cs (s.seen.take s.sn)⟩ W (HRu.out W (bw.trans (h.mono bw.size))) (HSt.out W h) (HKK.out.below (bw.trans (h.mono bw.size)) lk)
        rw [holdsB_eq Q2.out hft, hvt] at hc; exact hc
      have HHs : Hid (∀ W, Below wr.heap.size wr W → Calls Tryd.prog 22 #[.agg #[.int .i64 x.op, .int .i64 x.course, .string x.name, .int .i64 x.n, .int .i64 x.d, .slice x.kA x.kn x.kc], .agg #[.slice s.sA s.sn s.sc, .int .i64 s.earned, .int .i64 s.num, .int .i64 s.den]] W fun e w' => e = .returned (.bool v) ∧ Below W.heap.size W w') := fun W h => by
        have hc := holds12_any hx x s W (HRu.out W (bw.trans (h.mono bw.size))) (HSa.out W (bw.trans (h.mono bw.size))) (HKK.out.below (bw.trans (h.mono bw.size)) lk)
        rw [holdsB_eq Q2.out Q3.out, hv] at hc; exact hc
      clear hL hrow hft hv hvt
      go_wp2_with fail
      refine wp_region_S wr.heap.size 13 (fun _ => false) (Nat.le_refl _) (by kernel_rfl) (by kernel_rfl) (by kernel_rfl) ?_
      dsimp only [List.take, List.drop]
      apply relS_det (mask := [])
      · rfl
      · kernel_rfl
      · kernel_rfl
      · dsimp only [oblS]
        rintro w9 h9
        have hc9 := (bcell h9).1
        go_simp
        exact ⟨Below.refl _ _, rfl⟩
      dsimp only [List.nil_append, List.cons_append]
      apply relS_det (mask := [true]) (x := .int .i64 0)
      · rfl
      · kernel_rfl
      · kernel_rfl
      · dsimp only [oblS]
        rintro w9 h9
        have hc9 := (bcell h9).1
        go_simp
        refine (HF.out w9 h9).mono ?_
        rintro e w1 ⟨rfl, hb⟩
        exact ⟨_, rfl, hb, rfl⟩
      dsimp only [List.nil_append, List.cons_append]
      apply relS_det (mask := [false, true])
      · rfl
      · kernel_rfl
      · kernel_rfl
      · dsimp only [oblS]
        rintro w9 h9
        go_simp
        exact ⟨Below.refl _ _, rfl⟩
      dsimp only [List.nil_append, List.cons_append]
      apply relS_det (mask := [false, false, true])
      · rfl
      · kernel_rfl
      · kernel_rfl
      · dsimp only [oblS]
        rintro w9 h9
        go_simp
        exact ⟨Below.refl _ _, rfl⟩
      dsimp only [List.nil_append, List.cons_append]
      apply relS_detg (mask := [false, false, false, true]) (t := 74) (want := true)
      · rfl
      · kernel_rfl
      · kernel_rfl
      · dsimp only [oblS]
        refine ⟨by rfl, ?_⟩
        rintro w9 h9
        have hc9 := (bcell h9).1
        go_simp
        exact ⟨Below.refl _ _, rfl⟩
      dsimp only [List.nil_append, List.cons_append]
      apply relS_detg (mask := [false, false, false, true, false]) (t := 74) (want := true)
      · rfl
      · kernel_rfl
      · kernel_rfl
      · dsimp only [oblS]
        refine ⟨by rfl, ?_⟩
        rintro w9 h9
        have hc9 := (bcell h9).1
        go_simp
        exact ⟨Below.refl _ _, rfl⟩
      dsimp only [List.nil_append, List.cons_append]
      apply relS_detg (mask := [false, false, false, true, true, true]) (t := 74) (want := true) (x := .bool v)
      · rfl
      · kernel_rfl
      · kernel_rfl
      · dsimp only [oblS]
        refine ⟨by rfl, ?_⟩
        rintro w9 h9
        have hc9 := (bcell h9).1
        go_simp
        refine (HHt.out w9 h9).mono ?_
        rintro e w1 ⟨rfl, hb⟩
        exact ⟨_, rfl, hb, rfl⟩
      dsimp only [List.nil_append, List.cons_append]
      apply relS_detg (mask := [false, false, false, true, false, false, false]) (t := 74) (want := true)
      · rfl
      · kernel_rfl
      · kernel_rfl
      · dsimp only [oblS]
        refine ⟨by rfl, ?_⟩
        rintro w9 h9
        have hc9 := (bcell h9).1
        go_simp
        exact ⟨Below.refl _ _, rfl⟩
      dsimp only [List.nil_append, List.cons_append]
      apply relS_detg (mask := [false, false, false, true, false, false, false, false]) (t := 74) (want := true)
      · rfl
      · kernel_rfl
      · kernel_rfl
      · dsimp only [oblS]
        refine ⟨by rfl, ?_⟩
        rintro w9 h9
        have hc9 := (bcell h9).1
        go_simp
        exact ⟨Below.refl _ _, rfl⟩
      dsimp only [List.nil_append, List.cons_append]
      apply relS_detg (mask := [false, false, false, true, false, false, false, true, true]) (t := 74) (want := true) (x := .bool v)
      · rfl
      · kernel_rfl
      · kernel_rfl
      · dsimp only [oblS]
        refine ⟨by rfl, ?_⟩
        rintro w9 h9
        have hc9 := (bcell h9).1
        go_simp
        refine (HHs.out w9 h9).mono ?_
        rintro e w1 ⟨rfl, hb⟩
        exact ⟨_, rfl, hb, rfl⟩
      dsimp only [List.nil_append, List.cons_append]
      apply relS_detg (mask := [false, false, false, true, false, false, true, false, false, true]) (t := 74) (want := true) (x := .bool true)
      · rfl
      · kernel_rfl
      · kernel_rfl
      · dsimp only [oblS]
        refine ⟨by rfl, ?_⟩
        rintro w9 h9
        cases v <;> (go_simp; exact ⟨Below.refl _ _, rfl⟩)
      dsimp only [List.nil_append, List.cons_append]
      apply relS_det (mask := [false, false, false, true, false, false, false, false, false, false, true]) (x := .bool true)
      · rfl
      · kernel_rfl
      · kernel_rfl
      · dsimp only [oblS]
        rintro w9 h9
        go_simp
        exact ⟨Below.refl _ _, rfl⟩
      dsimp only [List.nil_append, List.cons_append]
      apply relS_det (mask := [false, false, false, false, false, false, false, false, false, false, false, true])
      · rfl
      · kernel_rfl
      · kernel_rfl
      · dsimp only [oblS]
        rintro w9 h9
        go_simp
        exact ⟨Below.refl _ _, rfl⟩
      dsimp only [List.nil_append, List.cons_append]
      refine relS_end (by rfl) ?_
      dsimp only [finS]
      -- rintro  w8 hb
      rintro w8 h8
      go_simp
      go_wp2_with fail
      go_ret
      exact ⟨rfl, bw.trans (h8.mono bw.size)⟩
end Go.Proofs.YtbmbpannhncpjaaDoor
