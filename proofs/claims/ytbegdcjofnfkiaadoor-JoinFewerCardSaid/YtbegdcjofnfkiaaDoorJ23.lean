/- The law's normal: its closure place. -/
import Derived.Test.YtbegdcjofnfkiaaDoorJ21
import Derived.Test.YtbegdcjofnfkiaaDoorM8
import Derived.Test.YtbegdcjofnfkiaaDoorM4
import Derived.Test.YtbegdcjofnfkiaaDoorM1
namespace Go.Proofs.YtbegdcjofnfkiaaDoor
open Go.RowKit Go.Shelf

/-- The order of variables, one more argument placed; the argument's new number. -/
def plO (o : List Int) (a : Ar) : List Int := if a.var = true then ordStep o a.n else o
def plN (o : List Int) (a : Ar) : Int := if a.var = true then ren (ordStep o a.n) a.n else a.n
structure PlPost (Bo base : Nat) (v : Value) (O : List Int) (a : Ar) (w : World) (e : Ending) (w' : World) : Prop where
  ret : e = .returned (.agg #[.bool a.var, .int .i64 (plN O a)])
  own : ∃ v', w'.heap[Bo]? = some (.cells #[v'] 23 (0, 0)) ∧ w'.ownsRow base 3 1 v' (plO O a).length ((plO O a).flatMap iEnc) ∧ ∀ g, v'.ownBlock = some g → g ≠ Bo ∧ (v.ownBlock = some g ∨ w.heap.size ≤ g)
  kept : Kept (fun b => b = Bo ∨ v.ownBlock = some b) w w'
theorem plO_var {o : List Int} {n : Int} : plO o ⟨true, n⟩ = ordStep o n := rfl
theorem plN_found {o : List Int} {n : Int} {k : Nat} (h : o[k]? = some n) (hn : n ∉ o.take k) : plO o ⟨true, n⟩ = o ∧ plN o ⟨true, n⟩ = k := by
  have hm : n ∈ o := List.mem_of_getElem? h
  have e : ordStep o n = o := by unfold ordStep; rw [if_pos hm]
  refine ⟨by rw [plO_var, e], ?_⟩
  show ren (ordStep o n) n = k
  rw [e]
  unfold ren
  refine ixB_at h fun j hj hja => hn ?_
  exact List.mem_of_getElem? (by rw [List.getElem?_take, if_pos hj]; exact hja)
theorem plN_new {o : List Int} {n : Int} (hn : n ∉ o) : plO o ⟨true, n⟩ = o ++ [n] ∧ plN o ⟨true, n⟩ = o.length := by
  have e : ordStep o n = o ++ [n] := by unfold ordStep; rw [if_neg hn]
  refine ⟨by rw [plO_var, e], ?_⟩
  show ren (ordStep o n) n = o.length
  rw [e]
  unfold ren
  refine ixB_at (by simp) fun j hj hja => hn ?_
  rw [List.getElem?_append_left hj] at hja
  exact List.mem_of_getElem? hja
set_option maxRecDepth 100000 in
set_option maxHeartbeats 4000000 in
theorem place_no (Bo base : Nat) (v : Value) (O : List Int) (n : Int) (w : World) (hB : w.heap[Bo]? = some (.cells #[v] 23 (0, 0))) (hO : w.ownsRow base 3 1 v O.length (O.flatMap iEnc)) (hne : ∀ g, v.ownBlock = some g → g ≠ Bo) :
    Calls Tryd.prog 43 #[.agg #[.bool false, .int .i64 n], .pointer (some ⟨Bo, 0, none⟩)] w (PlPost Bo base v O ⟨false, n⟩ w) := by
  have hBl := lt_of_heap hB
  have HB := hidp hB
  have HO := hidp hO
  have HNe := hidp hne
  obtain ⟨W0, hW0⟩ : ∃ W0, (w.alloc (.cells #[.bool false, .int .i64 n] 44)).alloc (.cells #[.bool false, .int .i64 n] 44) = W0 := ⟨_, rfl⟩
  have hb0 : Below w.heap.size w W0 := by rw [← hW0]; exact ((Below.refl _ _).alloc (Nat.le_refl _) _).alloc (by simp) _
  have HW0 := hidp hW0
  have HB0 := hidp hb0
  clear hB hO hne hW0 hb0
  go_enter Tryd.func43, Tryd.ntmps43
  go_wp2_with fail
  refine bodyPost_ret (v := .agg #[.bool false, .int .i64 n]) ?_ rfl ⟨rfl, ?_, ?_⟩
  · simp [results, Tryd.f43, go_sem]
  · rw [HW0.out]
    exact ⟨v, (HB0.out.block _ hBl).trans HB.out, own_keepB HO.out fun g hg => HB0.out.block g (HO.out.lt g hg).2, fun g hg => ⟨HNe.out g hg, .inl hg⟩⟩
  · rw [HW0.out]
    exact kept_of_below HB0.out fun b h1 h2 => by omega
theorem place_end {Bo base : Nat} {v : Value} {O : List Int} {n : Int} {k : Nat} {w W : World} {tmps : Array Value} (h3 : tmps.getD 3 undef = .pointer (some ⟨w.heap.size + 1, 0, none⟩)) (hBo : Bo < w.heap.size) (hv : ∀ g, v.ownBlock = some g → g < w.heap.size)
    (g3 : W.heap[w.heap.size + 1]? = some (.cells #[.bool false, .int .i64 0] 44 (0, 0))) (hk : Kept (fun b => b = Bo ∨ v.ownBlock = some b) w W) (hN : plN O ⟨true, n⟩ = k)
    (own : ∃ v', W.heap[Bo]? = some (.cells #[v'] 23 (0, 0)) ∧ W.ownsRow base 3 1 v' (plO O ⟨true, n⟩).length ((plO O ⟨true, n⟩).flatMap iEnc) ∧ ∀ g, v'.ownBlock = some g → g ≠ Bo ∧ (v.ownBlock = some g ∨ w.heap.size + 2 ≤ g)) :
    bodyPost Tryd.prog Tryd.f43 (PlPost Bo base v O ⟨true, n⟩ w) .ret { tmps := tmps, defers := [] } (((W.setCell ⟨w.heap.size, 1, none⟩ (.int .i64 k)).setCell ⟨w.heap.size + 1, 0, none⟩ (.bool true)).setCell ⟨w.heap.size + 1, 1, none⟩ (.int .i64 k)) := by
  have y0 := cell_of_heap (o := 0) g3
  have y1 := cell_of_heap (o := 1) g3
  simp only [List.getElem?_toArray, List.getElem?_cons_zero, List.getElem?_cons_succ] at y0 y1
  have h3' : tmps[3]?.getD undef = .pointer (some ⟨w.heap.size + 1, 0, none⟩) := by simpa using h3
  have hkeep : ∀ b, b ≠ w.heap.size → b ≠ w.heap.size + 1 → (((W.setCell ⟨w.heap.size, 1, none⟩ (.int .i64 k)).setCell ⟨w.heap.size + 1, 0, none⟩ (.bool true)).setCell ⟨w.heap.size + 1, 1, none⟩ (.int .i64 k)).heap[b]? = W.heap[b]? := fun b h1 h2 =>
    heap_set_ne (heap_set_ne (heap_set_ne rfl h1 _ _) h2 _ _) h2 _ _
  refine bodyPost_ret (v := .agg #[.bool true, .int .i64 k]) ?_ rfl ⟨by rw [hN], ?_, ?_⟩
  · simp [results, Tryd.f43, go_sem, h3', y0, y1]
  · obtain ⟨v', h1, h2, h4⟩ := own
    refine ⟨v', (hkeep _ (by omega) (by omega)).trans h1, own_keepB h2 fun g hg => hkeep g ?_ ?_, fun g hg => ⟨(h4 g hg).1, (h4 g hg).2.imp id fun h => by omega⟩⟩
    · rcases (h4 g hg).2 with h | h
      · have := hv g h; omega
      · omega
    · rcases (h4 g hg).2 with h | h
      · have := hv g h; omega
      · omega
  · exact ⟨hk.os, hk.tape, hk.output, by simpa [World.setCell] using hk.size, fun b hb hm => (hkeep b (by omega) (by omega)).trans (hk.block b hb hm)⟩
set_option maxRecDepth 100000 in
set_option maxHeartbeats 4000000 in
theorem place_var (Bo base : Nat) (v : Value) (O : List Int) (n : Int) (w : World) (hB : w.heap[Bo]? = some (.cells #[v] 23 (0, 0))) (hO : w.ownsRow base 3 1 v O.length (O.flatMap iEnc)) (hne : ∀ g, v.ownBlock = some g → g ≠ Bo) (hbase : base ≤ w.heap.size) (hlen : O.length ≤ 1000) :
    Calls Tryd.prog 43 #[.agg #[.bool true, .int .i64 n], .pointer (some ⟨Bo, 0, none⟩)] w (PlPost Bo base v O ⟨true, n⟩ w) := by
  obtain ⟨i0, hi, hz, hss, hbb⟩ := info_parts iInfo
  have hBl := lt_of_heap hB
  have HO := hidp hO
  have HNe := hidp hne
  obtain ⟨A, c, rfl, hrow⟩ := own_rows iEnc_len (by decide) hO
  obtain ⟨m, hm⟩ : ∃ m, O.length = m := ⟨_, rfl⟩
  rw [hm] at hrow hlen hB hne
  have HB := hidp hB
  have HM := hidp hm
  have hmc := hrow.2.1
  have hcc := hrow.2.2.1
  obtain ⟨W0, hW0⟩ : ∃ W0, (w.alloc (.cells #[.bool true, .int .i64 n] 44)).alloc (.cells #[.bool false, .int .i64 0] 44) = W0 := ⟨_, rfl⟩
  have hb0 : Below w.heap.size w W0 := by rw [← hW0]; exact ((Below.refl _ _).alloc (Nat.le_refl _) _).alloc (by simp) _
  have g2 : W0.heap[w.heap.size]? = some (.cells #[.bool true, .int .i64 n] 44 (0, 0)) := by
    rw [← hW0, Below.heap_alloc _ _ _ (by simp)]; exact World.alloc_heap_new _ _
  have g3 : W0.heap[w.heap.size + 1]? = some (.cells #[.bool false, .int .i64 0] 44 (0, 0)) := by
    rw [← hW0]; have := World.alloc_heap_new (w.alloc (.cells #[.bool true, .int .i64 n] 44)) (.cells #[.bool false, .int .i64 0] 44); rwa [World.size_alloc] at this
  have hz0 : W0.heap.size = w.heap.size + 2 := by rw [← hW0]; simp
  have HRow : Hid (∀ W, Below W0.heap.size W0 W → iSl W W.heap.size A m c O) := fun W h => hrow.keep (Rep.flat_stable _) (by have := h.size; omega) fun b hb => (h.block b (by omega)).trans (hb0.block b hb)
  have HBo : Hid (∀ W, Below W0.heap.size W0 W → W.heap[Bo]? = some (.cells #[.slice A m c] 23 (0, 0))) := fun W h => (h.block _ (by omega)).trans ((hb0.block _ hBl).trans hB)
  have HG2 : Hid (∀ W, Below W0.heap.size W0 W → W.heap[w.heap.size]? = some (.cells #[.bool true, .int .i64 n] 44 (0, 0))) := fun W h => (h.block _ (by omega)).trans g2
  have HG3 : Hid (∀ W, Below W0.heap.size W0 W → W.heap[w.heap.size + 1]? = some (.cells #[.bool false, .int .i64 0] 44 (0, 0))) := fun W h => (h.block _ (by omega)).trans g3
  have HW0 := hidp hW0
  have HB0 := hidp hb0
  have HZ0 := hidp hz0
  clear hB hO hne hW0 hb0 hm hrow g2 g3 hz0
  go_enter Tryd.func43, Tryd.ntmps43
  go_wp2_with fail
  rw [HW0.out]
  go_loopw [4] (fun i wr => ∃ k : Nat, k ≤ m ∧ i = .int .i64 k ∧ n ∉ O.take k ∧ Below W0.heap.size W0 wr) (fun i _ => m - (intOf i).toNat)
  case atStart => exact ⟨0, by omega, rfl, by simp, Below.refl _ _⟩
  case round =>
    obtain ⟨k, hk, rfl, hno, hbe⟩ := hrel
    have HNo := hidp hno
    clear hno
    have x0 := cell_of_heap (o := 0) (HBo.out _ hbe)
    have x1 := cell_of_heap (o := 1) (HG2.out _ hbe)
    simp only [List.getElem?_toArray, List.getElem?_cons_zero, List.getElem?_cons_succ] at x0 x1
    have l0 := lt_of_cell x0
    have l1 := lt_of_cell x1
    have HBe := hidp hbe
    by_cases hkm : k < m
    · obtain ⟨b, off, y, rfl, hb, hzy, c0⟩ := iSl.get (HRow.out _ hbe) hkm
      have HY := hidp hzy
      have lb := lt_of_cell c0
      obtain ⟨bo, hbo⟩ : ∃ bo, (!(y == n)) = bo := ⟨_, rfl⟩
      have hbo' : (y != n) = bo := by rw [← hbo]; rfl
      have HBO := hidp hbo
      have hkn : (k : Int) < m := by omega
      have hke : ((k : Int) == (m : Int)) = false := by simp; omega
      clear hzy hbo hbe
      go_wp2_with fail
      refine wp_region_below wr.heap.size (by kernel_rfl) (by kernel_rfl) ?_
      repeat
        first
        | go_big_quiet_skip
        | (refine q_step (by rfl) ?_
           apply Exists.intro
           refine ⟨fun w9 h9 => ?_, ?_⟩
           · have hc9 := (bcell h9).1
             go_simp
             first | done | rfl
           go_simp)
      refine wpQuiet_nil ?_
      intro w9 hb9
      have hB9 := HBe.out.trans (hb9.mono HBe.out.size)
      have HB9 := hidp hB9
      clear x0 x1 l0 l1 c0 lb hb9
      cases bo
      · have hP := plN_found (o := O) (n := n) (k := k) (by rw [HY.out]; have := HBO.out; simp at this; rw [this]) HNo.out
        have HP := hidp hP
        have x0 := cell_of_heap (o := 0) (HG2.out _ hB9)
        have f0 := frozen_of_heap (o := 1) (HG2.out _ hB9)
        have x1 := cell_of_heap (o := 1) (HG2.out _ hB9)
        have y0 := cell_of_heap (o := 0) (HG3.out _ hB9)
        have y1 := cell_of_heap (o := 1) (HG3.out _ hB9)
        have e0 := frozen_of_heap (o := 0) (HG3.out _ hB9)
        have e1 := frozen_of_heap (o := 1) (HG3.out _ hB9)
        have z0 := cell_of_heap (o := 0) (HBo.out _ hB9)
        simp only [List.getElem?_toArray, List.getElem?_cons_zero, List.getElem?_cons_succ] at x0 x1 y0 y1 z0
        have l2 := lt_of_cell x0
        have l3 := lt_of_cell y0
        have lo := lt_of_cell z0
        have hbz := HB9.out.size
        have hz0 := HZ0.out
        clear hP hB9
        go_wp2_with fail
        refine place_end rfl hBl (fun g hg => (HO.out.lt g hg).2) (HG3.out _ HB9.out) (kept_of_below (HB0.out.trans (HB9.out.mono HB0.out.size)) fun b h1 h2 => by omega) HP.out.2 ?_
        rw [HP.out.1]
        exact ⟨_, HM.out ▸ HBo.out _ HB9.out, own_keepB HO.out fun g hg => ((HB0.out.trans (HB9.out.mono HB0.out.size)).block g (HO.out.lt g hg).2), fun g hg => ⟨HNe.out g hg, .inl hg⟩⟩
      · go_wp2_with fail
        go_roundw
        case rel => exact ⟨k + 1, by omega, by go_num, by
          rw [take_snoc HY.out]
          intro h
          rcases List.mem_append.1 h with h | h
          · exact HNo.out h
          · have h2 := HBO.out
            rw [List.mem_singleton.1 h] at h2
            simp at h2, HB9.out⟩
        case measure => simp [intOf]; omega
    · obtain rfl : k = m := by omega
      have hkk : ¬ ((k : Int) < k) := by omega
      clear hbe
      go_wp2_with fail
      refine wp_region_below wr.heap.size (by kernel_rfl) (by kernel_rfl) ?_
      repeat
        first
        | go_big_quiet_skip
        | (refine q_step (by rfl) ?_
           apply Exists.intro
           refine ⟨fun w9 h9 => ?_, ?_⟩
           · have hc9 := (bcell h9).1
             go_simp
             first | done | rfl
           go_simp)
      refine wpQuiet_nil ?_
      intro w9 hb9
      have hB9 := HBe.out.trans (hb9.mono HBe.out.size)
      have HB9 := hidp hB9
      clear x0 x1 l0 l1 hb9
      have hO9 : w9.ownsRow base 3 1 (.slice A O.length c) O.length (O.flatMap iEnc) := own_keepB HO.out fun g hg => (HB0.out.trans (HB9.out.mono HB0.out.size)).block g (HO.out.lt g hg).2
      have hz9 := HB9.out.size
      have hz0 := HZ0.out
      obtain ⟨v5, w5, hrun, hown5, hg5, hat5⟩ := run_append_one (P := Tryd.prog) (ty := 23) (l := O) (enc := iEnc) (w := w9) (base := base) Tryd.underlying23 hi hz hss hbb rfl iEnc_len (by decide) iEnc_one hO9 n (by rw [HM.out]; omega) (by rw [HM.out]; omega) (by omega)
      have hPn := plN_new (o := O) (n := n) (by have h := HNo.out; rwa [List.take_of_length_le (by rw [HM.out]; exact Nat.le_refl _)] at h)
      have HP := hidp hPn
      rw [HM.out] at hrun hown5
      obtain ⟨A5, c5, rfl, _⟩ := own_rows iEnc_len (by decide) hown5
      have e5 : w5.heap[Bo]? = some (.cells #[.slice A k c] 23 (0, 0)) := (hg5.block Bo (by simp; omega) (fun e => HNe.out Bo e.symm rfl)).trans ((Below.heap_alloc _ _ _ (by omega)).trans (HBo.out _ HB9.out))
      have hs5 := hg5.size
      simp only [World.size_alloc] at hs5
      have hk5 : Kept (fun b => (Value.slice A O.length c).ownBlock = some b) w w5 := ((kept_of_below (HB0.out.trans (HB9.out.mono HB0.out.size)) fun b h1 h2 => by omega).alloc _).grown hg5 fun g e => .inl e
      have HK5 := hidp hk5
      have keep5 : ∀ b cs, w.heap.size ≤ b → b < w9.heap.size → w9.heap[b]? = cs → w5.heap[b]? = cs := fun b cs h1 h2 h => (hg5.block b (by simp; omega) (fun e => by have := (HO.out.lt b e.symm).2; omega)).trans ((Below.heap_alloc _ _ _ h2).trans h)
      have g25 := keep5 _ _ (Nat.le_refl _) (by omega) (HG2.out _ HB9.out)
      have g35 := keep5 _ _ (by omega) (by omega) (HG3.out _ HB9.out)
      have HG25 := hidp g25
      have HG35 := hidp g35
      have HE5 := hidp e5
      have HO5 := hidp hown5
      have HAT := hidp hat5
      have HRun := hidp hrun
      have x0 := cell_of_heap (o := 0) (HBo.out _ HB9.out)
      have x2 := cell_of_heap (o := 1) (HG2.out _ HB9.out)
      have d0 := cell_of_heap (o := 0) g25
      have d1 := cell_of_heap (o := 1) g25
      have fd1 := frozen_of_heap (o := 1) g25
      have y0 := cell_of_heap (o := 0) g35
      have y1 := cell_of_heap (o := 1) g35
      have fy0 := frozen_of_heap (o := 0) g35
      have fy1 := frozen_of_heap (o := 1) g35
      have z0 := cell_of_heap (o := 0) e5
      have fz0 := frozen_of_heap (o := 0) e5
      simp only [List.getElem?_toArray, List.getElem?_cons_zero, List.getElem?_cons_succ] at x0 x2 d0 d1 y0 y1 z0
      have l0 := lt_of_cell x0
      have l2 := lt_of_cell x2
      have ld := lt_of_cell d0
      have ly := lt_of_cell y0
      have lz := lt_of_cell z0
      clear hrun hown5 hg5 hat5 hPn e5 hk5 keep5 g25 g35 hO9 hB9 hs5 hz9 hz0 hkk
      go_wp2_with (at_builtin; refine wpList_append_known rfl (.tmp 28) (.tmp 31) 23 rfl rfl rfl HRun.out ?_)
      refine place_end rfl hBl (fun g hg => (HO.out.lt g hg).2) (heap_set_ne HG35.out (by omega) _ _) (HK5.out.mono (fun b _ h => .inr h) |>.setCell (.inl (.inl rfl)) _) (by rw [HP.out.2, HM.out]) ?_
      rw [HP.out.1]
      refine ⟨_, heap_set1 HE5.out _, ?_, fun g hg => ?_⟩
      · rw [List.length_append, List.length_singleton, HM.out]
        exact own_keepB HO5.out fun g hg => heap_set_ne rfl (by
          rcases HAT.out with h | h
          · rw [h] at hg; exact HNe.out g hg
          · rw [h] at hg; injection hg with hg; omega) _ _
      · rcases HAT.out with h | h
        · rw [h] at hg; exact ⟨HNe.out g hg, .inl hg⟩
        · rw [h] at hg
          injection hg with hg
          have := HB9.out.size
          have := HZ0.out
          exact ⟨by omega, .inr (by omega)⟩
theorem place_any (Bo base : Nat) (v : Value) (O : List Int) (a : Ar) (w : World) (hB : w.heap[Bo]? = some (.cells #[v] 23 (0, 0))) (hO : w.ownsRow base 3 1 v O.length (O.flatMap iEnc)) (hne : ∀ g, v.ownBlock = some g → g ≠ Bo) (hbase : base ≤ w.heap.size) (hlen : O.length ≤ 1000) :
    Calls Tryd.prog 43 #[.agg #[.bool a.var, .int .i64 a.n], .pointer (some ⟨Bo, 0, none⟩)] w (PlPost Bo base v O a w) := by
  obtain ⟨b, n⟩ := a
  cases b
  · exact place_no Bo base v O n w hB hO hne
  · exact place_var Bo base v O n w hB hO hne hbase hlen
end Go.Proofs.YtbegdcjofnfkiaaDoor
