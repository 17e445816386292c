/- RulesDual walked (printed by tools/gen86.py). -/
import Derived.Test.YtbmbpannhncpjaaDoorU20
import Derived.Test.YtbmbpannhncpjaaDoorU21
import Derived.Test.YtbmbpannhncpjaaDoorU12
import Derived.Test.YtbmbpannhncpjaaDoorU11
import Derived.Test.YtbmbpannhncpjaaDoorUR
import Derived.Test.YtbmbpannhncpjaaDoorInApp
namespace Go.Proofs.YtbmbpannhncpjaaDoor
open Go.RowKit Go.Sort

set_option maxRecDepth 100000 in
set_option maxHeartbeats 8000000 in
theorem dual_calls (hh : Nat) (A : Option Addr) (n c : Nat) (l : List Ru) (s : Si) (w : World) (hl : ruSl hh w w.heap.size A n c l) (hs : SiIn w w.heap.size s) (hkk : KindsAt w) :
    Calls Tryd.prog 9 #[.slice A n c, .agg #[.slice s.sA s.sn s.sc, .int .i64 s.earned, .int .i64 s.num, .int .i64 s.den]] w fun e w' => e = .returned (.bool true) ∧ Below w.heap.size w w' := by
  have lk := hkk.lt
  have HKK := hidp hkk
  have hcs := hs.2.2.1
  have hls := hs.2.1
  have hcl := hl.2.2.1
  have hll := hl.2.1
  have hn := hl.1
  have HN := hidp hn
  have HL : Hid (∀ W, Below w.heap.size w W → ruSl hh W W.heap.size A n c l) := fun W h => Rows.keep (ruStable hh) hl h.size h.block
  have HSa : Hid (∀ W, Below w.heap.size w W → SiIn W W.heap.size s) := fun W h => hs.keep h.size h.block
  clear hl hs hkk hn

  obtain ⟨W0, hW0⟩ : ∃ W0, (w.alloc (.cells #[.slice s.sA s.sn s.sc, .int .i64 s.earned, .int .i64 s.num, .int .i64 s.den] 29)) = W0 := ⟨_, rfl⟩
  have hBW : Below w.heap.size w W0 := by rw [← hW0]; exact ((Below.refl _ w).alloc (by first | exact Nat.le_refl _ | (simp <;> omega)) _)
  have g0 : W0.heap[w.heap.size]? = some (.cells #[.slice s.sA s.sn s.sc, .int .i64 s.earned, .int .i64 s.num, .int .i64 s.den] 29 (0, 0)) := by
    rw [← hW0]
    have := World.alloc_heap_new w (.cells #[.slice s.sA s.sn s.sc, .int .i64 s.earned, .int .i64 s.num, .int .i64 s.den] 29)
    exact this
  have HW0 := hidp hW0
  have G0 := hidp g0
  have l0 := lt_of_heap g0
  have HBW := hidp hBW
  have z0 := cell_of_heap (o := 0) g0
  have z1 := cell_of_heap (o := 1) g0
  have z2 := cell_of_heap (o := 2) g0
  have z3 := cell_of_heap (o := 3) g0
  simp only [List.getElem?_toArray, List.getElem?_cons_zero, List.getElem?_cons_succ] at z0 z1 z2 z3
  clear hW0 g0
  go_enter Tryd.func9, Tryd.ntmps9
  go_wp2_with fail
  rw [HW0.out]
  refine (sane_any W0 (HKK.out.below HBW.out lk)).mono ?_
  rintro e w1 ⟨rfl, h1⟩
  have b1 := HBW.out.trans (h1.mono HBW.out.size)
  obtain ⟨i0, hi, hz, hss, hbb⟩ := info_parts ruInfo
  clear z0 z1 z2 z3
  have e0 := (h1.block _ l0).trans G0.out
  have z0 := cell_of_heap (o := 0) e0
  have z1 := cell_of_heap (o := 1) e0
  have z2 := cell_of_heap (o := 2) e0
  have z3 := cell_of_heap (o := 3) e0
  simp only [List.getElem?_toArray, List.getElem?_cons_zero, List.getElem?_cons_succ] at z0 z1 z2 z3
  have m0 := lt_of_heap e0
  clear e0
  go_wp2_with fail
  go_loopw [5, 6] (fun v i wr => ∃ (q : Nat) (ns : List Ru), q ≤ n ∧ i = .int .i64 q ∧ wr.ownsRow w1.heap.size 24 6 v q (ns.flatMap Ru.enc) ∧
      (∀ x ∈ ns, ∃ (b : Nat) (y : Ru), x = notR b y ∧ y ∈ l ∧ wr.heap[b]? = some (.cells y.enc.toArray 24 (0, 0)) ∧ some b ≠ v.ownBlock) ∧ (∀ s', ns.map (valR s') = (l.take q).map (fun x => !valR s' x)) ∧ (0 < q → n ≤ 8) ∧ Below w1.heap.size w1 wr) (fun _ i _ => n - (intOf i).toNat)
  case atStart => exact ⟨0, [], by omega, rfl, World.ownsRow_nil _ _ _ _, fun x hx => by simp at hx, fun _ => by simp, by omega, Below.refl _ _⟩
  case round =>
    obtain ⟨q, ns, hq, rfl, hown, hns, hva, h8, hbe⟩ := hrel
    obtain ⟨A4, cp4, rfl, hrow⟩ := own_rows Ru.enc_len (by decide) hown
    have HO := hidp hown
    have HRW := hidp hrow
    have HNS := hidp hns
    have HV := hidp hva
    have H8 := hidp h8
    have hw := h1.trans (hbe.mono h1.size)
    have bw := HBW.out.trans (hw.mono HBW.out.size)
    clear hown hrow hns hva h8
    clear z0 z1 z2 z3 m0
    have e0 := (hw.block _ l0).trans G0.out
    have z0 := cell_of_heap (o := 0) e0
    have z1 := cell_of_heap (o := 1) e0
    have z2 := cell_of_heap (o := 2) e0
    have z3 := cell_of_heap (o := 3) e0
    simp only [List.getElem?_toArray, List.getElem?_cons_zero, List.getElem?_cons_succ] at z0 z1 z2 z3
    have m0 := lt_of_heap e0
    clear e0
    by_cases hlt : q < n
    · skip
      obtain ⟨h', b, off, y, e1, e2, hb', hzk, hyr, c0, c1, c2, c3, c4, c5⟩ := ruSl.get (HL.out wr bw) hlt
      have HZ := hidp hzk
      have HA2 := hidp e2
      subst e2
      have hqn : (q : Int) < n := by omega
      have hbl := lt_of_cell c0
      have hR0 : ∀ W, Below wr.heap.size wr W → RuIn h' W W.heap.size y := fun W h => hyr.keep h.size h.block
      have HR0 := hidp hR0
      have HE1 := hidp e1
      obtain ⟨q0, hq0⟩ : ∃ q, fewB y = q := ⟨_, rfl⟩
      have hc := vFew_any h' y wr (hR0 wr (Below.refl _ _))
      rw [hq0] at hc
      have HC := hidp hc
      clear hc hq0 hR0 hyr hzk e1
      cases q0
      · go_wp2_with fail
        refine HC.out.mono ?_
        rintro e w2 ⟨rfl, h2⟩
        go_wp2_with fail
        go_ret
        exact ⟨rfl, bw.trans (h2.mono bw.size)⟩
      by_cases hl8 : 8 < n
      · go_wp2_with fail
        refine HC.out.mono ?_
        rintro e w2 ⟨rfl, h2⟩
        go_wp2_with fail
        go_ret
        exact ⟨rfl, bw.trans (h2.mono bw.size)⟩
      by_cases hl50 : 50 < s.sn
      · go_wp2_with fail
        refine HC.out.mono ?_
        rintro e w2 ⟨rfl, h2'⟩
        have h2 := hw.trans (h2'.mono hw.size)
        clear z0 z1 z2 z3 m0
        have e0 := (h2.block _ l0).trans G0.out
        have z0 := cell_of_heap (o := 0) e0
        have z1 := cell_of_heap (o := 1) e0
        have z2 := cell_of_heap (o := 2) e0
        have z3 := cell_of_heap (o := 3) e0
        simp only [List.getElem?_toArray, List.getElem?_cons_zero, List.getElem?_cons_succ] at z0 z1 z2 z3
        have m0 := lt_of_heap e0
        clear e0
        go_wp2_with fail
        go_ret
        exact ⟨rfl, bw.trans (h2'.mono bw.size)⟩
      have hbe8 : n ≤ 8 := by omega
      have hcase2 : Hid (∀ w2, Below wr.heap.size wr w2 → w2.ownsRow w1.heap.size 24 6 (.slice A4 q cp4) q (ns.flatMap Ru.enc)) := fun w2 h2 => own_keepB HO.out (fun g e => h2.block g (HO.out.lt g e).2)
      go_wp2_with fail
      refine HC.out.mono ?_
      rintro e w2 ⟨rfl, h2'⟩
      have h2 := hw.trans (h2'.mono hw.size)
      have bw2 := bw.trans (h2'.mono bw.size)
      have hbe2 := hbe.trans (h2'.mono hbe.size)
      have HO2 := hidp (hcase2.out w2 h2')
      have cz := HL.out w2 bw2
      clear c0 c1 c2 c3 c4 c5 hb' hbl
      obtain ⟨h3, b3, off3, y3, e13, e23, hb', hz3, hyr3, c0, c1, c2, c3, c4, c5⟩ := ruSl.get cz hlt
      obtain ⟨rfl, rfl⟩ : b = b3 ∧ off = off3 := by simpa using e23
      obtain rfl : y = y3 := by rw [HZ.out] at hz3; exact Option.some.inj hz3
      have hbl := lt_of_cell c0
      clear hz3 hyr3 cz e13 e23
      clear z0 z1 z2 z3 m0
      have e0 := (h2.block _ l0).trans G0.out
      have z0 := cell_of_heap (o := 0) e0
      have z1 := cell_of_heap (o := 1) e0
      have z2 := cell_of_heap (o := 2) e0
      have z3 := cell_of_heap (o := 3) e0
      simp only [List.getElem?_toArray, List.getElem?_cons_zero, List.getElem?_cons_succ] at z0 z1 z2 z3
      have m0 := lt_of_heap e0
      clear e0
      obtain ⟨v', w5, hrun, hown', hg, hat⟩ := run_append_one (P := Tryd.prog) (ty := 22) (l := ns) (enc := Ru.enc) (w := w2.alloc (.cells y.enc.toArray 24)) (base := w1.heap.size) Tryd.underlying22 hi hz hss hbb rfl Ru.enc_len (by decide) Ru.enc_one (HO2.out.alloc _) (notR w2.heap.size y) (by omega) (by omega) (by have := hbe2.size; simp; omega)
      have hb5 : Below w1.heap.size w1 w5 := ((hbe2.alloc hbe2.size _).alloc (by have := hbe2.size; simp; omega) _).grown hg (by have := hbe2.size; simp; omega) (fun g e => (HO2.out.lt g e).1)
      have hns5 : ∀ x ∈ ns ++ [notR w2.heap.size y], ∃ (b : Nat) (y : Ru), x = notR b y ∧ y ∈ l ∧ w5.heap[b]? = some (.cells y.enc.toArray 24 (0, 0)) ∧ some b ≠ v'.ownBlock := by
        have hge := hg.size
        simp only [World.size_alloc] at hge
        have hnw : (w2.alloc (.cells y.enc.toArray 24)).heap[w2.heap.size]? = some (.cells y.enc.toArray 24 (0, 0)) := World.alloc_heap_new _ _
        have hov : ∀ g, (Value.slice A4 q cp4).ownBlock = some g → g < w2.heap.size := fun g e => (HO2.out.lt g e).2
        intro x hx
        rcases List.mem_append.1 hx with hx | hx
        · obtain ⟨b0, y0, e0, hy0, hb0, hne⟩ := HNS.out x hx
          have hlb := lt_of_heap hb0
          have hs2 := h2'.size
          refine ⟨b0, y0, e0, hy0, ?_, ?_⟩
          · rw [hg.block b0 (by simp; omega) hne, Below.heap_alloc _ _ _ (by simp; omega), Below.heap_alloc _ _ _ (by omega), h2'.block b0 hlb]
            exact hb0
          · rcases hat with h | h
            · rw [h]; exact hne
            · rw [h]; simp; omega
        · obtain rfl := List.mem_singleton.1 hx
          refine ⟨w2.heap.size, y, rfl, List.mem_of_getElem? HZ.out, ?_, ?_⟩
          · rw [hg.block _ (by simp; omega) (fun e => by have := hov _ e.symm; omega), Below.heap_alloc _ _ _ (by simp)]
            exact hnw
          · rcases hat with h | h
            · rw [h]; intro e; have := hov _ e.symm; omega
            · rw [h]; simp; omega
      have hva5 : ∀ s', (ns ++ [notR w2.heap.size y]).map (valR s') = (l.take (q + 1)).map (fun x => !valR s' x) := fun s' => by
        rw [take_snoc HZ.out, List.map_append, List.map_append, HV.out s']
        simp [valR_notR]
      have HO' := hidp hown'
      have HNS5 := hidp hns5
      have HV5 := hidp hva5
      have HA5 := hidp hat
      obtain ⟨A5, c5', rfl, _⟩ := own_rows Ru.enc_len (by decide) hown'
      simp only [World.size_alloc] at hrun
      have HR0' := hidp hrun
      clear hown' hrun hg hat hns5 hva5 hcase2 HC HR0 HE1 HNS HV
      go_wp2_with (at_builtin; refine wpList_append_known rfl (.tmp 44) (.tmp 51) 22 rfl rfl rfl HR0'.out ?_)
      go_roundw
      case rel => exact ⟨q + 1, ns ++ [notR w2.heap.size y], by omega, by go_num, HO'.out, HNS5.out, HV5.out, fun _ => hbe8, hb5⟩
      case measure => simp [intOf]; omega
    · skip
      obtain rfl : q = n := by omega
      have hnn : ¬ ((q : Int) < q) := by omega
      obtain ⟨W4, hW4⟩ : ∃ W4, ((((((wr.alloc (.cells #[.int .i64 1, .int .i64 0, .string ⟨#[]⟩, .int .i64 0, .int .i64 0, .slice A q c] 24)).alloc (.cells #[.int .i64 4, .int .i64 0, .string ⟨#[]⟩, .int .i64 0, .int .i64 0, .slice (some ⟨wr.heap.size, 0, none⟩) 1 1] 24)).alloc (.cells #[.int .i64 2, .int .i64 0, .string ⟨#[]⟩, .int .i64 0, .int .i64 0, .slice A4 q cp4] 24)).alloc (.cells #[.int .i64 2, .int .i64 0, .string ⟨#[]⟩, .int .i64 0, .int .i64 0, .slice A q c] 24)).alloc (.cells #[.int .i64 4, .int .i64 0, .string ⟨#[]⟩, .int .i64 0, .int .i64 0, .slice (some ⟨wr.heap.size + 1 + 1 + 1, 0, none⟩) 1 1] 24)).alloc (.cells #[.int .i64 1, .int .i64 0, .string ⟨#[]⟩, .int .i64 0, .int .i64 0, .slice A4 q cp4] 24)) = W4 := ⟨_, rfl⟩
      have hB4 : Below wr.heap.size wr W4 := by rw [← hW4]; exact (((((((Below.refl _ wr).alloc (by simp <;> omega) _).alloc (by simp <;> omega) _).alloc (by simp <;> omega) _).alloc (by simp <;> omega) _).alloc (by simp <;> omega) _).alloc (by simp <;> omega) _)
      have k0 : W4.heap[wr.heap.size]? = some (.cells #[.int .i64 1, .int .i64 0, .string ⟨#[]⟩, .int .i64 0, .int .i64 0, .slice A q c] 24 (0, 0)) := by
        rw [← hW4, Below.heap_alloc _ _ _ (by simp <;> omega), Below.heap_alloc _ _ _ (by simp <;> omega), Below.heap_alloc _ _ _ (by simp <;> omega), Below.heap_alloc _ _ _ (by simp <;> omega), Below.heap_alloc _ _ _ (by simp <;> omega)]
        have := World.alloc_heap_new wr (.cells #[.int .i64 1, .int .i64 0, .string ⟨#[]⟩, .int .i64 0, .int .i64 0, .slice A q c] 24)
        exact this
      have k1 : W4.heap[wr.heap.size + 1]? = some (.cells #[.int .i64 4, .int .i64 0, .string ⟨#[]⟩, .int .i64 0, .int .i64 0, .slice (some ⟨wr.heap.size, 0, none⟩) 1 1] 24 (0, 0)) := by
        rw [← hW4, Below.heap_alloc _ _ _ (by simp <;> omega), Below.heap_alloc _ _ _ (by simp <;> omega), Below.heap_alloc _ _ _ (by simp <;> omega), Below.heap_alloc _ _ _ (by simp <;> omega)]
        have := World.alloc_heap_new (wr.alloc (.cells #[.int .i64 1, .int .i64 0, .string ⟨#[]⟩, .int .i64 0, .int .i64 0, .slice A q c] 24)) (.cells #[.int .i64 4, .int .i64 0, .string ⟨#[]⟩, .int .i64 0, .int .i64 0, .slice (some ⟨wr.heap.size, 0, none⟩) 1 1] 24)
        rwa [World.size_alloc] at this
      have k2 : W4.heap[wr.heap.size + 1 + 1]? = some (.cells #[.int .i64 2, .int .i64 0, .string ⟨#[]⟩, .int .i64 0, .int .i64 0, .slice A4 q cp4] 24 (0, 0)) := by
        rw [← hW4, Below.heap_alloc _ _ _ (by simp <;> omega), Below.heap_alloc _ _ _ (by simp <;> omega), Below.heap_alloc _ _ _ (by simp <;> omega)]
        have := World.alloc_heap_new ((wr.alloc (.cells #[.int .i64 1, .int .i64 0, .string ⟨#[]⟩, .int .i64 0, .int .i64 0, .slice A q c] 24)).alloc (.cells #[.int .i64 4, .int .i64 0, .string ⟨#[]⟩, .int .i64 0, .int .i64 0, .slice (some ⟨wr.heap.size, 0, none⟩) 1 1] 24)) (.cells #[.int .i64 2, .int .i64 0, .string ⟨#[]⟩, .int .i64 0, .int .i64 0, .slice A4 q cp4] 24)
        rwa [World.size_alloc, World.size_alloc] at this
      have k3 : W4.heap[wr.heap.size + 1 + 1 + 1]? = some (.cells #[.int .i64 2, .int .i64 0, .string ⟨#[]⟩, .int .i64 0, .int .i64 0, .slice A q c] 24 (0, 0)) := by
        rw [← hW4, Below.heap_alloc _ _ _ (by simp <;> omega), Below.heap_alloc _ _ _ (by simp <;> omega)]
        have := World.alloc_heap_new (((wr.alloc (.cells #[.int .i64 1, .int .i64 0, .string ⟨#[]⟩, .int .i64 0, .int .i64 0, .slice A q c] 24)).alloc (.cells #[.int .i64 4, .int .i64 0, .string ⟨#[]⟩, .int .i64 0, .int .i64 0, .slice (some ⟨wr.heap.size, 0, none⟩) 1 1] 24)).alloc (.cells #[.int .i64 2, .int .i64 0, .string ⟨#[]⟩, .int .i64 0, .int .i64 0, .slice A4 q cp4] 24)) (.cells #[.int .i64 2, .int .i64 0, .string ⟨#[]⟩, .int .i64 0, .int .i64 0, .slice A q c] 24)
        rwa [World.size_alloc, World.size_alloc, World.size_alloc] at this
      have k4 : W4.heap[wr.heap.size + 1 + 1 + 1 + 1]? = some (.cells #[.int .i64 4, .int .i64 0, .string ⟨#[]⟩, .int .i64 0, .int .i64 0, .slice (some ⟨wr.heap.size + 1 + 1 + 1, 0, none⟩) 1 1] 24 (0, 0)) := by
        rw [← hW4, Below.heap_alloc _ _ _ (by simp <;> omega)]
        have := World.alloc_heap_new ((((wr.alloc (.cells #[.int .i64 1, .int .i64 0, .string ⟨#[]⟩, .int .i64 0, .int .i64 0, .slice A q c] 24)).alloc (.cells #[.int .i64 4, .int .i64 0, .string ⟨#[]⟩, .int .i64 0, .int .i64 0, .slice (some ⟨wr.heap.size, 0, none⟩) 1 1] 24)).alloc (.cells #[.int .i64 2, .int .i64 0, .string ⟨#[]⟩, .int .i64 0, .int .i64 0, .slice A4 q cp4] 24)).alloc (.cells #[.int .i64 2, .int .i64 0, .string ⟨#[]⟩, .int .i64 0, .int .i64 0, .slice A q c] 24)) (.cells #[.int .i64 4, .int .i64 0, .string ⟨#[]⟩, .int .i64 0, .int .i64 0, .slice (some ⟨wr.heap.size + 1 + 1 + 1, 0, none⟩) 1 1] 24)
        rwa [World.size_alloc, World.size_alloc, World.size_alloc, World.size_alloc] at this
      have k5 : W4.heap[wr.heap.size + 1 + 1 + 1 + 1 + 1]? = some (.cells #[.int .i64 1, .int .i64 0, .string ⟨#[]⟩, .int .i64 0, .int .i64 0, .slice A4 q cp4] 24 (0, 0)) := by
        rw [← hW4]
        have := World.alloc_heap_new (((((wr.alloc (.cells #[.int .i64 1, .int .i64 0, .string ⟨#[]⟩, .int .i64 0, .int .i64 0, .slice A q c] 24)).alloc (.cells #[.int .i64 4, .int .i64 0, .string ⟨#[]⟩, .int .i64 0, .int .i64 0, .slice (some ⟨wr.heap.size, 0, none⟩) 1 1] 24)).alloc (.cells #[.int .i64 2, .int .i64 0, .string ⟨#[]⟩, .int .i64 0, .int .i64 0, .slice A4 q cp4] 24)).alloc (.cells #[.int .i64 2, .int .i64 0, .string ⟨#[]⟩, .int .i64 0, .int .i64 0, .slice A q c] 24)).alloc (.cells #[.int .i64 4, .int .i64 0, .string ⟨#[]⟩, .int .i64 0, .int .i64 0, .slice (some ⟨wr.heap.size + 1 + 1 + 1, 0, none⟩) 1 1] 24)) (.cells #[.int .i64 1, .int .i64 0, .string ⟨#[]⟩, .int .i64 0, .int .i64 0, .slice A4 q cp4] 24)
        rwa [World.size_alloc, World.size_alloc, World.size_alloc, World.size_alloc, World.size_alloc] at this
      have hs4 : W4.heap.size = wr.heap.size + 1 + 1 + 1 + 1 + 1 + 1 := by rw [← hW4]; simp only [World.size_alloc]
      have hw4 := hw.trans (hB4.mono hw.size)
      have bw4 := HBW.out.trans (hw4.mono HBW.out.size)
      have e9 := (hw4.block _ l0).trans G0.out
      have y0 := cell_of_heap (o := 0) e9
      have y1 := cell_of_heap (o := 1) e9
      have y2 := cell_of_heap (o := 2) e9
      have y3 := cell_of_heap (o := 3) e9
      simp only [List.getElem?_toArray, List.getElem?_cons_zero, List.getElem?_cons_succ] at y0 y1 y2 y3
      rw [← hW4] at y0 y1 y2 y3
      have HW4 := hidp hW4
      have hL4 := HL.out W4 bw4
      have hNL : ruSl (hh + 1) W4 W4.heap.size A4 q cp4 ns := by
        have hown4 : W4.ownsRow w1.heap.size 24 6 (.slice A4 q cp4) q (ns.flatMap Ru.enc) := own_keepB HO.out (fun g e => hB4.block g (HO.out.lt g e).2)
        obtain ⟨A6, cp6, e6, hrow6⟩ := own_rows Ru.enc_len (by decide) hown4
        obtain ⟨rfl, rfl⟩ : A4 = A6 ∧ cp4 = cp6 := by simpa using e6
        refine ruSl_flat hrow6 fun x hx => ?_
        obtain ⟨b0, y0', e0, hy0, hb0, -⟩ := HNS.out x hx
        subst e0
        have hlb := lt_of_heap hb0
        obtain ⟨k0, hk0⟩ := List.mem_iff_getElem?.1 hy0
        have hkq : k0 < q := by
          have := (List.getElem?_eq_some_iff.1 hk0).1
          have := HN.out
          omega
        obtain ⟨h', b', off', y', e1', e2', _, hz', hyr', _⟩ := ruSl.get hL4 hkq
        obtain rfl : y0' = y' := by rw [hk0] at hz'; exact Option.some.inj hz'
        subst e1'
        exact notR_in ((hB4.block _ hlb).trans hb0) (by omega) hyr'
      have HRa : Hid (RuIn (hh + 1) W4 W4.heap.size (notR wr.heap.size (allR A q c l))) := ru_one (x := allR A q c l) k0 (by omega) hL4
      have HRb : Hid (RuIn (hh + 1) W4 W4.heap.size (anyR A4 q cp4 ns)) := hNL
      have HRc : Hid (RuIn (hh + 1) W4 W4.heap.size (notR (wr.heap.size + 1 + 1 + 1) (anyR A q c l))) := ru_one (x := anyR A q c l) k3 (by omega) hL4
      have HRd : Hid (RuIn (hh + 1) W4 W4.heap.size (allR A4 q cp4 ns)) := hNL
      have HVs : Hid (ns.map (valR s) = l.map (fun x => !valR s x)) := by
        have := HV.out s
        rwa [List.take_of_length_le (by have := HN.out; omega)] at this
      have K1 := hidp k1
      have K2 := hidp k2
      have K4 := hidp k4
      have K5 := hidp k5
      have HB4 := hidp hB4
      have HS4 := hidp hs4
      clear hW4 hL4 hNL k0 k1 k2 k3 k4 k5 e9 hs4
      obtain ⟨va, hva⟩ : ∃ z9, holdsB (notR wr.heap.size (allR A q c l)) s = z9 := ⟨_, rfl⟩
      obtain ⟨vb, hvb⟩ : ∃ z9, holdsB (anyR A4 q cp4 ns) s = z9 := ⟨_, rfl⟩
      obtain ⟨vc, hvc⟩ : ∃ z9, holdsB (notR (wr.heap.size + 1 + 1 + 1) (anyR A q c l)) s = z9 := ⟨_, rfl⟩
      obtain ⟨vd, hvd⟩ : ∃ z9, holdsB (allR A4 q cp4 ns) s = z9 := ⟨_, rfl⟩
      obtain ⟨ea, hea⟩ : ∃ z9, holdsE (notR wr.heap.size (allR A q c l)) s = z9 := ⟨_, rfl⟩
      obtain ⟨eb, heb⟩ : ∃ z9, holdsE (anyR A4 q cp4 ns) s = z9 := ⟨_, rfl⟩
      obtain ⟨ec, hec⟩ : ∃ z9, holdsE (notR (wr.heap.size + 1 + 1 + 1) (anyR A q c l)) s = z9 := ⟨_, rfl⟩
      obtain ⟨ed, hed⟩ : ∃ z9, holdsE (allR A4 q cp4 ns) s = z9 := ⟨_, rfl⟩
      have HVA := hidp hva
      have HVB := hidp hvb
      have HVC := hidp hvc
      have HVD := hidp hvd
      have HEA := hidp hea
      have HEB := hidp heb
      have HEC := hidp hec
      have HED := hidp hed
      have HCa : Hid (∀ W, Below W4.heap.size W4 W → Calls Tryd.prog 12 #[.agg #[.int .i64 4, .int .i64 0, .string ⟨#[]⟩, .int .i64 0, .int .i64 0, .slice (some ⟨wr.heap.size, 0, none⟩) 1 1], .agg #[.slice s.sA s.sn s.sc, .int .i64 s.earned, .int .i64 s.num, .int .i64 s.den]] W fun e w' => e = .returned (.tuple #[.bool va, .int .i64 ea]) ∧ Below W.heap.size W w') := fun W h => by
        have hc := uHolds_any (hh + 1) (notR wr.heap.size (allR A q c l)) s W (HRa.out.keep h.size h.block) (HSa.out W (bw4.trans (h.mono bw4.size))) (HKK.out.below (bw4.trans (h.mono bw4.size)) lk)
        rw [HVA.out, HEA.out] at hc; exact hc
      have HCb : Hid (∀ W, Below W4.heap.size W4 W → Calls Tryd.prog 12 #[.agg #[.int .i64 2, .int .i64 0, .string ⟨#[]⟩, .int .i64 0, .int .i64 0, .slice A4 q cp4], .agg #[.slice s.sA s.sn s.sc, .int .i64 s.earned, .int .i64 s.num, .int .i64 s.den]] W fun e w' => e = .returned (.tuple #[.bool vb, .int .i64 eb]) ∧ Below W.heap.size W w') := fun W h => by
        have hc := uHolds_any (hh + 1) (anyR A4 q cp4 ns) s W (HRb.out.keep h.size h.block) (HSa.out W (bw4.trans (h.mono bw4.size))) (HKK.out.below (bw4.trans (h.mono bw4.size)) lk)
        rw [HVB.out, HEB.out] at hc; exact hc
      have HCc : Hid (∀ W, Below W4.heap.size W4 W → Calls Tryd.prog 12 #[.agg #[.int .i64 4, .int .i64 0, .string ⟨#[]⟩, .int .i64 0, .int .i64 0, .slice (some ⟨wr.heap.size + 1 + 1 + 1, 0, none⟩) 1 1], .agg #[.slice s.sA s.sn s.sc, .int .i64 s.earned, .int .i64 s.num, .int .i64 s.den]] W fun e w' => e = .returned (.tuple #[.bool vc, .int .i64 ec]) ∧ Below W.heap.size W w') := fun W h => by
        have hc := uHolds_any (hh + 1) (notR (wr.heap.size + 1 + 1 + 1) (anyR A q c l)) s W (HRc.out.keep h.size h.block) (HSa.out W (bw4.trans (h.mono bw4.size))) (HKK.out.below (bw4.trans (h.mono bw4.size)) lk)
        rw [HVC.out, HEC.out] at hc; exact hc
      have HCd : Hid (∀ W, Below W4.heap.size W4 W → Calls Tryd.prog 12 #[.agg #[.int .i64 1, .int .i64 0, .string ⟨#[]⟩, .int .i64 0, .int .i64 0, .slice A4 q cp4], .agg #[.slice s.sA s.sn s.sc, .int .i64 s.earned, .int .i64 s.num, .int .i64 s.den]] W fun e w' => e = .returned (.tuple #[.bool vd, .int .i64 ed]) ∧ Below W.heap.size W w') := fun W h => by
        have hc := uHolds_any (hh + 1) (allR A4 q cp4 ns) s W (HRd.out.keep h.size h.block) (HSa.out W (bw4.trans (h.mono bw4.size))) (HKK.out.below (bw4.trans (h.mono bw4.size)) lk)
        rw [HVD.out, HED.out] at hc; exact hc
      have hE : ∀ x z, holdsE x s = z → (z = 0 ∧ checkB x = true ∧ fitsB s = true) ∨ z = 120 := fun x z h => by
        unfold holdsE at h
        cases hx : checkB x <;> cases hf : fitsB s <;> simp [hx, hf, okOr] at h <;> simp [h.symm]
      have hD := dual_law s HVs.out
      have hfin : ea = 0 → eb = 0 → ec = 0 → ed = 0 → va = vb ∧ vc = vd := by
        intro z1 z2 z3 z4
        obtain ⟨_, k1, k2⟩ := (hE _ _ hea).resolve_right (by omega)
        obtain ⟨_, k3, _⟩ := (hE _ _ heb).resolve_right (by omega)
        obtain ⟨_, k4, _⟩ := (hE _ _ hec).resolve_right (by omega)
        obtain ⟨_, k5, _⟩ := (hE _ _ hed).resolve_right (by omega)
        rw [holdsB_eq k1 k2, valR_notR] at hva
        rw [holdsB_eq k3 k2] at hvb
        rw [holdsB_eq k4 k2, valR_notR] at hvc
        rw [holdsB_eq k5 k2] at hvd
        rw [← hva, ← hvb, ← hvc, ← hvd]
        unfold allR anyR
        rw [val_all, val_any, val_any, val_all]
        exact hD
      have hEa := hE _ _ hea
      have hEb := hE _ _ heb
      have hEc := hE _ _ hec
      have hEd := hE _ _ hed
      have HFI := hidp hfin
      have H1 : Hid (ea = 0 ∨ ea = 120) := hEa.imp (·.1) id
      have H2 : Hid (eb = 0 ∨ eb = 120) := hEb.imp (·.1) id
      have H3 : Hid (ec = 0 ∨ ec = 120) := hEc.imp (·.1) id
      have H4 : Hid (ed = 0 ∨ ed = 120) := hEd.imp (·.1) id
      clear hfin hE hD hEa hEb hEc hEd hva hvb hvc hvd hea heb hec hed
      go_wp2_with fail
      rw [HW4.out]
      refine (HCa.out W4 (Below.refl _ _)).mono ?_
      rintro e w5 ⟨rfl, h5⟩
      clear y0 y1 y2 y3
      have hls4 := HS4.out
      have hb9 := h5
      have e8 := (hb9.block _ (by rw [hls4]; omega)).trans K2.out
      have e9 := ((hw4.trans (hb9.mono hw4.size)).block _ l0).trans G0.out
      have x0 := cell_of_heap (o := 0) e8
      have x1 := cell_of_heap (o := 1) e8
      have x2 := cell_of_heap (o := 2) e8
      have x3 := cell_of_heap (o := 3) e8
      have x4 := cell_of_heap (o := 4) e8
      have x5 := cell_of_heap (o := 5) e8
      have y0 := cell_of_heap (o := 0) e9
      have y1 := cell_of_heap (o := 1) e9
      have y2 := cell_of_heap (o := 2) e9
      have y3 := cell_of_heap (o := 3) e9
      simp only [List.getElem?_toArray, List.getElem?_cons_zero, List.getElem?_cons_succ] at x0 x1 x2 x3 x4 x5 y0 y1 y2 y3
      have lx := lt_of_heap e8
      have ly := lt_of_heap e9
      clear e8 e9 hb9
      go_wp2_with fail
      refine (HCb.out w5 h5).mono ?_
      rintro e w6 ⟨rfl, h6'⟩
      have h6 := h5.trans (h6'.mono h5.size)
      clear x0 x1 x2 x3 x4 x5 y0 y1 y2 y3 lx ly
      have hb9 := h6
      have e8 := (hb9.block _ (by rw [hls4]; omega)).trans K4.out
      have e9 := ((hw4.trans (hb9.mono hw4.size)).block _ l0).trans G0.out
      have x0 := cell_of_heap (o := 0) e8
      have x1 := cell_of_heap (o := 1) e8
      have x2 := cell_of_heap (o := 2) e8
      have x3 := cell_of_heap (o := 3) e8
      have x4 := cell_of_heap (o := 4) e8
      have x5 := cell_of_heap (o := 5) e8
      have y0 := cell_of_heap (o := 0) e9
      have y1 := cell_of_heap (o := 1) e9
      have y2 := cell_of_heap (o := 2) e9
      have y3 := cell_of_heap (o := 3) e9
      simp only [List.getElem?_toArray, List.getElem?_cons_zero, List.getElem?_cons_succ] at x0 x1 x2 x3 x4 x5 y0 y1 y2 y3
      have lx := lt_of_heap e8
      have ly := lt_of_heap e9
      clear e8 e9 hb9
      go_wp2_with fail
      refine (HCc.out w6 h6).mono ?_
      rintro e w7 ⟨rfl, h7'⟩
      have h7 := h6.trans (h7'.mono h6.size)
      clear x0 x1 x2 x3 x4 x5 y0 y1 y2 y3 lx ly
      have hb9 := h7
      have e8 := (hb9.block _ (by rw [hls4]; omega)).trans K5.out
      have e9 := ((hw4.trans (hb9.mono hw4.size)).block _ l0).trans G0.out
      have x0 := cell_of_heap (o := 0) e8
      have x1 := cell_of_heap (o := 1) e8
      have x2 := cell_of_heap (o := 2) e8
      have x3 := cell_of_heap (o := 3) e8
      have x4 := cell_of_heap (o := 4) e8
      have x5 := cell_of_heap (o := 5) e8
      have y0 := cell_of_heap (o := 0) e9
      have y1 := cell_of_heap (o := 1) e9
      have y2 := cell_of_heap (o := 2) e9
      have y3 := cell_of_heap (o := 3) e9
      simp only [List.getElem?_toArray, List.getElem?_cons_zero, List.getElem?_cons_succ] at x0 x1 x2 x3 x4 x5 y0 y1 y2 y3
      have lx := lt_of_heap e8
      have ly := lt_of_heap e9
      clear e8 e9 hb9
      go_wp2_with fail
      refine (HCd.out w7 h7).mono ?_
      rintro e w8 ⟨rfl, h8'⟩
      have h8 := h7.trans (h8'.mono h7.size)
      clear x0 x1 x2 x3 x4 x5 y0 y1 y2 y3 lx ly
      rcases H1.out with rfl | rfl
      rotate_left
      · go_wp2_with fail
        go_ret
        exact ⟨rfl, bw4.trans (h8.mono bw4.size)⟩
      rcases H2.out with rfl | rfl
      rotate_left
      · go_wp2_with fail
        go_ret
        exact ⟨rfl, bw4.trans (h8.mono bw4.size)⟩
      rcases H3.out with rfl | rfl
      rotate_left
      · go_wp2_with fail
        go_ret
        exact ⟨rfl, bw4.trans (h8.mono bw4.size)⟩
      rcases H4.out with rfl | rfl
      rotate_left
      · go_wp2_with fail
        go_ret
        exact ⟨rfl, bw4.trans (h8.mono bw4.size)⟩
      obtain ⟨rfl, rfl⟩ := HFI.out rfl rfl rfl rfl
      cases va <;> cases vc
      all_goals
        go_wp2_with fail
        go_ret
        exact ⟨rfl, bw4.trans (h8.mono bw4.size)⟩
end Go.Proofs.YtbmbpannhncpjaaDoor
