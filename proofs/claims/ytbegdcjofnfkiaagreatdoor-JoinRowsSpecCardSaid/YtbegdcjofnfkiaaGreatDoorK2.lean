/- The reference's order of names. -/
import Derived.Test.YtbegdcjofnfkiaaGreatDoorK1
namespace Go.Proofs.YtbegdcjofnfkiaaGreatDoor
open Go.RowKit Go.Shelf Go.Sort

theorem orderJ_snoc (l : List Int) (n : Int) : orderJ (l ++ [n]) = if n ∈ orderJ l then orderJ l else orderJ l ++ [n] := by unfold orderJ; rw [List.foldl_append]; rfl
theorem snoc_indK {P : List Int → Prop} (h0 : P []) (h1 : ∀ l a, P l → P (l ++ [a])) (l : List Int) : P l := by
  have h : ∀ m : List Int, P m.reverse := by
    intro m
    induction m with
    | nil => exact h0
    | cons a m ih => rw [List.reverse_cons]; exact h1 _ _ ih
  have := h l.reverse
  rwa [List.reverse_reverse] at this
theorem orderJ_len (l : List Int) : (orderJ l).length ≤ l.length := by
  refine snoc_indK (P := fun l => (orderJ l).length ≤ l.length) ?_ (fun l a ih => ?_) l
  · simp [orderJ]
  · rw [orderJ_snoc]
    split <;> simp <;> omega
theorem own_lower {w : World} {b b' k n : Nat} {e : TypeId} {v : Value} {xs : List Value} (h : w.ownsRow b e k v n xs) (hb : b' ≤ b) : w.ownsRow b' e k v n xs := by
  obtain ⟨h1, h2⟩ := h
  refine ⟨h1, ?_⟩
  rcases h2 with h2 | ⟨g, cap, cur, h3, h4, h5⟩
  · exact .inl h2
  · exact .inr ⟨g, cap, cur, h3, Nat.le_trans hb h4, h5⟩
theorem varsA_step {l : List Ar} {k : Nat} {a : Ar} (h : l[k]? = some a) : varsA (l.take (k + 1)) = varsA (l.take k) ++ (if a.var = true then [a.n] else []) := by
  unfold varsA
  rw [take_snoc h, List.filter_append, List.map_append]
  cases hv : a.var <;> simp [hv]
theorem varsA_len : ∀ l : List Ar, (varsA l).length ≤ l.length := fun l => by
  unfold varsA; rw [List.length_map]; exact List.length_filter_le _ _
theorem ar_getK {n₀ n c k : Nat} {A : Option Addr} {l : List Ar} {W : World} (h : Rows 2 (Rep.flat arEnc) W n₀ A n c l) (hk : k < n) :
    ∃ b off a, A = some ⟨b, off, none⟩ ∧ b < n₀ ∧ l[k]? = some a ∧ W.cell? ⟨b, off + k * 2, none⟩ = some (.bool a.var) ∧ W.cell? ⟨b, off + k * 2 + 1, none⟩ = some (.int .i64 a.n) := by
  obtain ⟨b, off, m, cs, e, hlt, hk', rfl, hc⟩ := Rows.get h hk
  exact ⟨b, off, m, e, hlt, hk', hc 0 _ rfl, hc 1 _ rfl⟩
set_option maxRecDepth 100000 in
set_option maxHeartbeats 8000000 in
theorem r50order_any (q : Qu) (w : World) (hq : QuIn q w w.heap.size) (hs8 : q.sn ≤ 1000) (ha6 : q.an ≤ 1000) (ht6 : q.tn ≤ 1000) :
    Calls Tryz.prog 70 #[.agg #[.slice q.nA q.nn q.nc, .slice q.sA q.sn q.sc, .slice q.aA q.an q.ac, .slice q.tA q.tn q.tc]] w fun e w' => ∃ A n c, e = .returned (.slice A n c) ∧ iSl w' w'.heap.size A n c (orderJ (varsJ q)) ∧ Below w.heap.size w w' := by
  obtain ⟨i0, hi, hz, hss, hbb⟩ := info_parts iInfo
  have HQu : Hid (∀ W, Below w.heap.size w W → QuIn q W W.heap.size) := fun W hb => hq.keep hb.size hb.block
  have HLen : Hid (q.sn = q.shows.length ∧ q.an = q.atoms.length ∧ q.tn = q.tests.length) := ⟨hq.2.1.1, hq.2.2.1.1, hq.2.2.2.1⟩
  obtain ⟨W0, hW0⟩ : ∃ W0, w.alloc (.cells #[.slice q.nA q.nn q.nc, .slice q.sA q.sn q.sc, .slice q.aA q.an q.ac, .slice q.tA q.tn q.tc] 27) = W0 := ⟨_, rfl⟩
  have hBW : Below w.heap.size w W0 := hW0 ▸ (Below.refl _ w).alloc (Nat.le_refl _) _
  have hb0 : QBox q w.heap.size W0 := ⟨hW0 ▸ World.alloc_heap_new _ _⟩
  have hz0 : W0.heap.size = w.heap.size + 1 := by rw [← hW0]; simp
  have HBW := hidp hBW
  have HB0 := hidp hb0
  have HW0 := hidp hW0
  have HZ0 := hidp hz0
  clear hBW hb0 hq hW0 hz0
  go_enter Tryz.func70, Tryz.ntmps70
  go_wp2_with fail
  rw [HW0.out]
  have hoe := own_empty W0 (w.heap.size + 1) 1 3 (by rw [HZ0.out]; exact Nat.le_refl _)
  have HOe : Hid ((W0.alloc (.cells #[] 3)).ownsRow (w.heap.size + 1) 3 1 (.slice (some ⟨w.heap.size + 1, 0, none⟩) 0 0) 0 []) := by
    show World.ownsRow _ _ _ _ _ _ _
    have h := hoe
    rw [HZ0.out] at h
    exact h
  have hb1 : Below W0.heap.size W0 (W0.alloc (.cells #[] 3)) := (Below.refl _ _).alloc (Nat.le_refl _) _
  go_loopw [3, 4] (fun v i wr => ∃ (k : Nat) (L : List Int), k ≤ q.sn ∧ i = .int .i64 k ∧ (∃ A c, v = .slice A L.length c) ∧ wr.ownsRow (w.heap.size + 1) 3 1 v L.length (L.flatMap iEnc) ∧ L = orderJ (q.shows.take k) ∧ QBox q w.heap.size wr ∧ Below w.heap.size w wr) (fun _ i _ => q.sn - (intOf i).toNat)
  case atStart => exact ⟨0, [], by omega, rfl, ⟨_, _, rfl⟩, HOe.out, by rw [List.take_zero]; rfl, HB0.out.later hb1, HBW.out.trans (hb1.mono HBW.out.size)⟩
  case round =>
  obtain ⟨k, L, hk, rfl, ⟨A3, c3, rfl⟩, hown, hL, hqb, hbe⟩ := hrel
  have HOw := hidp hown
  have HQb := hidp hqb
  have HBe := hidp hbe
  have HL := hidp hL
  obtain ⟨x0, x1, x2, x3, l0⟩ := hqb.cells
  have hbr := hbe.size
  have hbr1 : w.heap.size + 1 ≤ wr.heap.size := by have := lt_of_heap hqb.box; omega
  have hlen : L.length ≤ k := by rw [hL]; exact Nat.le_trans (orderJ_len _) (by rw [List.length_take]; omega)
  obtain ⟨A3', c3', he3, hr3⟩ := own_rows iEnc_len (by decide) hown
  injection he3 with e1 _ e3
  subst e1 e3
  have hlc := hr3.2.1
  have hlcc := hr3.2.2.1
  clear hoe hb1 hL hqb hbe
  by_cases hkn : k < q.sn
  · have hkn' : (k : Int) < q.sn := by omega
    obtain ⟨b, off, x, hA, _, hx, c0⟩ := iSl.get (HQu.out _ HBe.out).2.1 hkn
    have hix := fun W => ix_Ints (c := q.sc) hA hkn W
    simp only [Nat.mul_one] at hix
    have la := lt_of_cell c0
    have HX := hidp hx
    have HR3 := hidp hr3
    clear hx hA hr3
    go_wp2_with fail
    refine (r50has_any A3 L.length c3 L x _ HR3.out).mono ?_
    rintro e w1 ⟨rfl, rfl⟩
    by_cases hin : x ∈ L
    · rw [decide_eq_true hin]
      have HIn := hidp hin
      clear hin
      go_wp2_with fail
      go_roundw
      case rel => exact ⟨k + 1, L, by omega, by go_num, ⟨_, _, rfl⟩, HOw.out, by rw [take_snoc HX.out, orderJ_snoc, ← HL.out, if_pos HIn.out], HQb.out, HBe.out⟩
      case measure => simp [intOf]; omega
    · rw [decide_eq_false hin]
      have HIn := hidp hin
      obtain ⟨v5, w5', hrun, hown5, hg5, hat5⟩ := run_append_one (P := Tryz.prog) (ty := 23) (l := L) (enc := iEnc) (w := wr) (base := w.heap.size + 1) Tryz.underlying23 hi hz hss hbb rfl iEnc_len (by decide) iEnc_one hown x (by omega) (by omega) hbr1
      obtain ⟨A5, c5, rfl, _⟩ := own_rows iEnc_len (by decide) hown5
      have hb5 : Below (w.heap.size + 1) wr w5' := ((Below.refl _ _).alloc hbr1 _).grown hg5 (by simp; omega) fun g hg => (hown.lt g hg).1
      have HR5 := hidp hrun
      have HO5 := hidp hown5
      have HB5 := hidp hb5
      clear hin hrun hown5 hb5 hown hg5 hat5
      go_wp2_with (at_builtin; refine wpList_append_known rfl (.tmp 23) (.tmp 29) 23 rfl rfl rfl HR5.out ?_)
      go_roundw
      case rel => exact ⟨k + 1, L ++ [x], by omega, by go_num, ⟨_, _, by rw [List.length_append]; rfl⟩, by rw [List.length_append]; exact HO5.out, by rw [take_snoc HX.out, orderJ_snoc, ← HL.out, if_neg HIn.out], ⟨(HB5.out.block _ (by omega)).trans HQb.out.box⟩, HBe.out.trans (HB5.out.mono (by omega))⟩
      case measure => simp [intOf]; omega
  have hke : k = q.sn := by omega
  subst hke
  have hkk : ¬ ((q.sn : Int) < q.sn) := by omega
  have HL1 : Hid (L = orderJ q.shows) := by
    have h := HL.out
    rw [List.take_of_length_le (by rw [← HLen.out.1]; exact Nat.le_refl _)] at h
    exact h
  clear HL
  rename World => wm
  clear hown hr3
  go_wp2_with fail
  refine (r50args_any q _ (HQu.out _ HBe.out) ha6 ht6).mono ?_
  rintro e w1 ⟨GA, gn, gc, rfl, hg, hgn, hbg⟩
  have hgl : (argsJ q).length = 3 * q.an + 2 * q.tn := by unfold argsJ; rw [List.length_append, argsA_len, argsT_len, ← HLen.out.2.1, ← HLen.out.2.2]
  have hgb : gn ≤ 5000 := by omega
  have HGn := hidp hgn
  have HG := hidp (own_lower hg (b' := w.heap.size + 1) (by omega))
  have HO1 : Hid (w1.ownsRow (w.heap.size + 1) 3 1 (.slice A3 L.length c3) L.length (L.flatMap iEnc)) := own_keepB HOw.out fun g hg => hbg.block g (HOw.out.lt g hg).2
  have HB1 := hidp (HBe.out.trans (hbg.mono HBe.out.size))
  have hz1 : w.heap.size + 1 ≤ w1.heap.size := by have := hbg.size; omega
  clear hg hgn hgl hbg HOw HQb HBe x0 x1 x2 x3 l0 hbr hbr1
  go_wp2_with fail
  go_loopw [3, 6] (fun v i wr => ∃ (k : Nat) (L : List Int), k ≤ gn ∧ i = .int .i64 k ∧ (∃ A c, v = .slice A L.length c) ∧ wr.ownsRow (w.heap.size + 1) 3 1 v L.length (L.flatMap iEnc) ∧ L = orderJ (q.shows ++ varsA ((argsJ q).take k)) ∧ wr.ownsRow (w.heap.size + 1) 62 2 (.slice GA gn gc) gn ((argsJ q).flatMap arEnc) ∧ Below w.heap.size w wr ∧ w.heap.size + 1 ≤ wr.heap.size) (fun _ i _ => gn - (intOf i).toNat)
  case atStart => exact ⟨0, L, by omega, rfl, ⟨_, _, rfl⟩, HO1.out, by rw [List.take_zero]; show L = orderJ (q.shows ++ []); rw [List.append_nil]; exact HL1.out, HG.out, HB1.out, hz1⟩
  case round =>
  obtain ⟨k, L, hk, rfl, ⟨A4, c4, rfl⟩, hown, hL, hg, hbe, hbr1⟩ := hrel
  have HOw := hidp hown
  have HBe := hidp hbe
  have HL := hidp hL
  have HGr := hidp hg
  have hlen : L.length ≤ 6000 := by
    rw [hL]
    refine Nat.le_trans (orderJ_len _) ?_
    rw [List.length_append]
    have h1 := varsA_len ((argsJ q).take k)
    rw [List.length_take] at h1
    have h2 := HLen.out.1
    omega
  obtain ⟨A4', c4', he4, hr4⟩ := own_rows iEnc_len (by decide) hown
  injection he4 with e1 _ e3
  subst e1 e3
  obtain ⟨GA', gc', he5, hr5⟩ := own_rows arEnc_len (by decide) hg
  injection he5 with e1 _ e3
  subst e1 e3
  have hlc4 := hr4.2.1
  have hlcc4 := hr4.2.2.1
  have hgc := hr5.2.1
  have hgcc := hr5.2.2.1
  clear hL hbe
  by_cases hkn : k < gn
  · have hkn' : (k : Int) < gn := by omega
    obtain ⟨b, off, a, hA, _, ha, d0, d1⟩ := ar_getK hr5 hkn
    have hix := fun W => ix_ArgsK (c := gc) hA hkn W
    have la := lt_of_cell d0
    have HAk := hidp ha
    have HR4 := hidp hr4
    clear ha hA hr4 hr5
    obtain ⟨av, hav⟩ : ∃ v, a.var = v := ⟨_, rfl⟩
    rw [hav] at d0
    have HAv := hidp hav
    clear hav
    cases av
    · go_wp2_with fail
      go_roundw
      case rel => exact ⟨k + 1, L, by omega, by go_num, ⟨_, _, rfl⟩, HOw.out, by rw [varsA_step HAk.out, HAv.out]; simpa using HL.out, HGr.out, HBe.out, hbr1⟩
      case measure => simp [intOf]; omega
    go_wp2_with fail
    refine (r50has_any A4 L.length c4 L a.n _ HR4.out).mono ?_
    rintro e w2 ⟨rfl, rfl⟩
    have hst : q.shows ++ varsA ((argsJ q).take (k + 1)) = (q.shows ++ varsA ((argsJ q).take k)) ++ [a.n] := by rw [varsA_step HAk.out, HAv.out, if_pos rfl, List.append_assoc]
    have HSt := hidp hst
    clear hst
    by_cases hin : a.n ∈ L
    · rw [decide_eq_true hin]
      have HIn := hidp hin
      clear hin
      go_wp2_with fail
      go_roundw
      case rel => exact ⟨k + 1, L, by omega, by go_num, ⟨_, _, rfl⟩, HOw.out, by rw [HSt.out, orderJ_snoc, ← HL.out, if_pos HIn.out], HGr.out, HBe.out, hbr1⟩
      case measure => simp [intOf]; omega
    · rw [decide_eq_false hin]
      have HIn := hidp hin
      obtain ⟨v5, w5', hrun, hown5, hg5, hat5⟩ := run_append_one (P := Tryz.prog) (ty := 23) (l := L) (enc := iEnc) (w := wr) (base := w.heap.size + 1) Tryz.underlying23 hi hz hss hbb rfl iEnc_len (by decide) iEnc_one hown a.n (by omega) (by omega) hbr1
      obtain ⟨A5, c5, rfl, _⟩ := own_rows iEnc_len (by decide) hown5
      have hba : Below wr.heap.size wr (wr.alloc (.cells #[.int .i64 a.n] 3)) := (Below.refl _ _).alloc (Nat.le_refl _) _
      have hb5 : Below (w.heap.size + 1) wr w5' := ((Below.refl _ _).alloc hbr1 _).grown hg5 (by simp; omega) fun g hg => (hown.lt g hg).1
      have hgk : w5'.ownsRow (w.heap.size + 1) 62 2 (.slice GA gn gc) gn ((argsJ q).flatMap arEnc) := own_keepB hg fun g hgg => by
        have h1 := (hg.lt g hgg).2
        refine (hg5.block g (by simp; omega) (fun e => ?_)).trans (hba.block g h1)
        obtain ⟨cs1, h3⟩ := own_kind hg hgg
        obtain ⟨cs2, h4⟩ := own_kind hown e.symm
        rw [h3] at h4
        injection h4 with h4
        injection h4 with _ h4
        exact absurd h4 (by decide)
      have HR5 := hidp hrun
      have HO5 := hidp hown5
      have HB5 := hidp hb5
      have HG5 := hidp hgk
      clear hin hrun hown5 hb5 hown hg5 hat5 hgk hba hg
      go_wp2_with (at_builtin; refine wpList_append_known rfl (.tmp 54) (.tmp 60) 23 rfl rfl rfl HR5.out ?_)
      go_roundw
      case rel => exact ⟨k + 1, L ++ [a.n], by omega, by go_num, ⟨_, _, by rw [List.length_append]; rfl⟩, by rw [List.length_append]; exact HO5.out, by rw [HSt.out, orderJ_snoc, ← HL.out, if_neg HIn.out], HG5.out, HBe.out.trans (HB5.out.mono (by omega)), by have := HB5.out.size; omega⟩
      case measure => simp [intOf]; omega
  have hke : k = gn := by omega
  subst hke
  have hkk2 : ¬ ((k : Int) < k) := by omega
  have HL2 : Hid (L = orderJ (varsJ q)) := by
    have h := HL.out
    rw [List.take_of_length_le (by rw [← HGn.out]; exact Nat.le_refl _)] at h
    exact h
  have HR4 := hidp hr4
  clear hown hr4 hg hr5
  go_wp2_with fail
  go_ret
  exact ⟨_, _, _, rfl, by rw [← HL2.out]; exact HR4.out, HBe.out⟩
end Go.Proofs.YtbegdcjofnfkiaaGreatDoor
