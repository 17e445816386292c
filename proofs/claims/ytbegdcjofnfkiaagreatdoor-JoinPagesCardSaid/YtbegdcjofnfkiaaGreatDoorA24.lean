import Derived.Test.YtbegdcjofnfkiaaGreatDoorA23
import Derived.Deep.DeepCutAuto
import Derived.Deep.CutBlock
import Derived.Deep.RegionHeld3
import Derived.BigRegion
namespace Go.Proofs.YtbegdcjofnfkiaaGreatDoor
open Go.RowKit Go.Shelf
set_option maxRecDepth 100000 in
set_option maxHeartbeats 8000000 in
theorem pginsert_any (B base : Nat) (f : Fc) : ∀ (k p : Nat), p < k → ∀ (ps : List Pq) (root : Bool) (d : Nat) (A : Option Addr) (c : Nat) (w : World), WrB B base A c ps w → base ≤ w.heap.size → (∀ g ∈ ps, PgAt B g w) → Tr (ps.map pgV) root p d → StrP (allT (ps.map pgV) p) → Comp f (allT (ps.map pgV) p) → ps.length + 2 * (p + 1) ≤ 1000000 →
    Calls Tryz.prog 45 #[.pointer (some ⟨B, 0, none⟩), .int .i64 p, .agg #[.int .i64 f.key.kind, .int .i64 f.key.subj, .int .i64 f.key.obj, .int .i64 f.val, .int .i64 f.fr, .int .i64 f.to, .int .i64 f.known, .int .i64 f.no]] w (InsWPost B base ps f p w) := by
  intro k
  induction k with
  | zero => intro p h; omega
  | succ k ih =>
    intro p hpk ps root d A c w hw hbase hps hT hS hC hlim
    obtain ⟨b, hb⟩ : ∃ b, w.heap.size = b := ⟨_, rfl⟩
    have hlt := hT.lt
    rw [List.length_map] at hlt
    obtain ⟨g, hg⟩ : ∃ g, ps[p]? = some g := ⟨_, List.getElem?_eq_getElem hlt⟩
    have hgv : (ps.map pgV)[p]? = some (pgV g) := by rw [List.getElem?_map, hg]; rfl
    obtain ⟨g', hP⟩ := hT.pg
    obtain rfl : g' = pgV g := by have := hP.get; rw [hgv] at this; cases this; rfl
    have hga := hps g (List.mem_of_getElem? hg)
    have hBl := lt_of_heap hw.box
    obtain ⟨V0, hV0⟩ : ∃ V, w.alloc (.cells #[.int .i64 f.key.kind, .int .i64 f.key.subj, .int .i64 f.key.obj, .int .i64 f.val, .int .i64 f.fr, .int .i64 f.to, .int .i64 f.known, .int .i64 f.no] 54) = V := ⟨_, rfl⟩
    obtain ⟨W0, hW0⟩ : ∃ W0, V0.alloc (.cells #[.int .i64 0, .int .i64 0, .pointer none] 101) = W0 := ⟨_, rfl⟩
    obtain ⟨W1, hW1⟩ : ∃ W1, W0.alloc (.cells #[.slice g.fA g.fn g.fc, .slice g.kA g.kn g.kc] 86) = W1 := ⟨_, rfl⟩
    have zV : V0.heap.size = b + 1 := by rw [← hV0]; simp [hb]
    have zW : W0.heap.size = b + 2 := by rw [← hW0]; simp [zV]
    have z1 : W1.heap.size = b + 3 := by rw [← hW1]; simp [zW]
    have bV : Below w.heap.size w V0 := hV0 ▸ (Below.refl _ w).alloc (Nat.le_refl _) _
    have bW : Below w.heap.size w W0 := hW0 ▸ bV.alloc (by omega) _
    have b1 : Below w.heap.size w W1 := hW1 ▸ bW.alloc (by omega) _
    have b01 : Below W0.heap.size W0 W1 := hW1 ▸ (Below.refl _ W0).alloc (Nat.le_refl _) _
    have bV0 : Below V0.heap.size V0 W0 := hW0 ▸ (Below.refl _ V0).alloc (Nat.le_refl _) _
    have gf : W1.heap[b]? = some (.cells #[.int .i64 f.key.kind, .int .i64 f.key.subj, .int .i64 f.key.obj, .int .i64 f.val, .int .i64 f.fr, .int .i64 f.to, .int .i64 f.known, .int .i64 f.no] 54 (0, 0)) := (b01.block _ (by omega)).trans ((bV0.block _ (by omega)).trans (by rw [← hV0, ← hb]; exact World.alloc_heap_new _ _))
    have gz : W1.heap[b + 1]? = some (.cells #[.int .i64 0, .int .i64 0, .pointer none] 101 (0, 0)) := (b01.block _ (by omega)).trans (by rw [← hW0, ← zV]; exact World.alloc_heap_new _ _)
    have gp : W1.heap[b + 2]? = some (.cells #[.slice g.fA g.fn g.fc, .slice g.kA g.kn g.kc] 86 (0, 0)) := by rw [← hW1, ← zW]; exact World.alloc_heap_new _ _
    have hwW := hw.below bW
    obtain ⟨Ax, cx, hAx, hrows⟩ := own_rows pgEnc_len (by decide) hwW.own
    injection hAx with e1 e2 e3
    subst e1 e3
    obtain ⟨pb, off, g9, hA, hpb, hg9, cp0, cp1⟩ := pgSl.get hrows hlt
    obtain rfl : g = g9 := by rw [hg] at hg9; cases hg9; rfl
    have hix := fun W => ix_Pages (c := c) hA hlt W
    have cB := cell_of_heap (o := 0) hwW.box
    have lB := lt_of_heap hwW.box
    simp only [List.getElem?_toArray, List.getElem?_cons_zero] at cB
    have lp := lt_of_cell cp0
    have HW : Hid (∀ W, Below w.heap.size w W → WrB B base A c ps W) := fun W h => hw.below h
    have HPs := hidp hps
    have HIn : Hid (∀ W, Below w.heap.size w W → PgIn g W W.heap.size) := fun W h => hga.inn.keep h.size h.block
    obtain ⟨hf4, hf2⟩ := pgOk_four hP.ok
    have hfl : g.fn = g.facts.length := hga.inn.1.1
    have hkl : g.kn = g.kids.length := hga.inn.2.1
    have hf4' : g.fn ≤ 4 := by rw [hfl]; exact hf4
    have hk5 : g.kn ≤ 5 := by
      rcases hP.kids with ⟨h, _⟩ | ⟨h, _⟩
      · have : g.kids = [] := h
        rw [hkl, this]; simp
      · have : g.kids.length = g.facts.length + 1 := h
        omega
    have HFl := hidp hfl
    have HKl := hidp hkl
    have HF2 := hidp hf2
    have HA := hidp hA
    have HGf := hidp gf
    have HGz := hidp gz
    have HGp := hidp gp
    have HB1 := hidp b1
    have HZ1 := hidp z1
    have HV0 := hidp hV0
    have HW0 := hidp hW0
    have HW1 := hidp hW1
    have HGa := hidp hga
    have HP := hidp hP
    have HS := hidp hS
    have HC := hidp hC
    have HT := hidp hT
    have HG := hidp hg
    have HBs := hidp hb
    clear hfl hkl hf2 hf4 hw hps hA gf gz gp b1 z1 hga hP hS hC hT hg hgv hg9 hrows hwW bV bW b01 bV0
    go_enter Tryz.func45, Tryz.ntmps45
    go_wp2_with fail
    clear cB lB lp cp0 cp1 hix hV0 hW0 hW1
    have cP0 := cell_of_heap (o := 0) HGp.out
    have cP1 := cell_of_heap (o := 1) HGp.out
    have lP := lt_of_heap HGp.out
    simp only [List.getElem?_toArray, List.getElem?_cons_zero, List.getElem?_cons_succ] at cP0 cP1
    refine wp_region_S W1.heap.size 8 (fun _ => false) (Nat.le_refl _) (by kernel_rfl) (by kernel_rfl) (by kernel_rfl) ?_
    dsimp only [List.take, List.drop]
    apply relS_det (mask := [])
    · rfl
    · kernel_rfl
    · kernel_rfl
    · dsimp only [oblS]
      rintro w9 h9
      go_simp
      exact ⟨Below.refl _ _, rfl⟩
    dsimp only [naL, caL]
    apply relS_det (mask := [true]) (x := .slice g.fA g.fn g.fc)
    · rfl
    · kernel_rfl
    · kernel_rfl
    · dsimp only [oblS]
      rintro w9 h9
      have hc9 := (bcell h9).1
      go_simp
      exact ⟨Below.refl _ _, rfl⟩
    dsimp only [naL, caL]
    apply relS_any (mask := [false, true]) (T := fun v w => w.ownsRow (b + 3) 54 8 v g.fn (g.facts.flatMap fEnc)) (hT := fun v w w' hb h => own_keepB h fun x e => hb.block x (h.lt x e).2)
    · rfl
    · kernel_rfl
    · kernel_rfl
    · dsimp only [oblS]
      rintro w9 h9 T' hT'
      go_simp
      refine (fClone_any g.fA g.fn g.fc g.facts w9 ((HIn.out w9 (HB1.out.trans (h9.mono HB1.out.size))).1) (by omega)).mono ?_
      rintro e w7 ⟨v, rfl, hv, _, _, hb7⟩
      exact ⟨_, rfl, hb7, hT' _ _ (own_base hv fun x e => by have := (hv.lt x e).1; have := h9.size; omega)⟩
    dsimp only [naL, caL]
    apply relS_det (mask := [false, false, false])
    · rfl
    · kernel_rfl
    · kernel_rfl
    · dsimp only [oblS]
      rintro w9 h9
      go_simp
      exact ⟨Below.refl _ _, rfl⟩
    dsimp only [naL, caL]
    apply relS_det (mask := [false, false, false, true]) (x := .slice g.kA g.kn g.kc)
    · rfl
    · kernel_rfl
    · kernel_rfl
    · dsimp only [oblS]
      rintro w9 h9
      have hc9 := (bcell h9).1
      go_simp
      exact ⟨Below.refl _ _, rfl⟩
    dsimp only [naL, caL]
    apply relS_any (mask := [false, false, false, false, true]) (T := fun v w => w.ownsRow (b + 3) 3 1 v g.kn (g.kids.flatMap iEnc)) (hT := fun v w w' hb h => own_keepB h fun x e => hb.block x (h.lt x e).2)
    · rfl
    · kernel_rfl
    · kernel_rfl
    · dsimp only [oblS]
      rintro w9 h9 T' hT'
      go_simp
      refine (iClone_any g.kA g.kn g.kc g.kids w9 ((HIn.out w9 (HB1.out.trans (h9.mono HB1.out.size))).2) (by omega)).mono ?_
      rintro e w7 ⟨v, rfl, hv, _, _, hb7⟩
      exact ⟨_, rfl, hb7, hT' _ _ (own_base hv fun x e => by have := (hv.lt x e).1; have := h9.size; omega)⟩
    dsimp only [naL, caL]
    apply relS_any (mask := [false, false, true, false, false, true]) (T := fun v w => ∃ F K, v = .agg #[F, K] ∧ w.ownsRow (b + 3) 54 8 F g.fn (g.facts.flatMap fEnc) ∧ w.ownsRow (b + 3) 3 1 K g.kn (g.kids.flatMap iEnc)) (hT := fun v w w' hb ⟨F, K, e, h, h'⟩ => ⟨F, K, e, own_keepB h fun x e => hb.block x (h.lt x e).2, own_keepB h' fun x e => hb.block x (h'.lt x e).2⟩)
    · rfl
    · kernel_rfl
    · kernel_rfl
    · dsimp only [oblS]
      intro v24 v27
      rintro w9 ⟨⟨h9, t24⟩, t27⟩ T' hT'
      obtain ⟨A1, c1, rfl, _, _⟩ := own_slice fEnc_len (by decide) t24
      obtain ⟨A2, c2, rfl, _, _⟩ := own_slice iEnc_len (by decide) t27
      go_simp
      exact ⟨Below.refl _ _, hT' _ _ ⟨_, _, rfl, t24, t27⟩⟩
    dsimp only [naL, caL]
    apply relS_any (mask := [false, false, false, false, false, false, false]) (T := fun v w => ∃ x, v = .pointer (some ⟨x, 0, none⟩) ∧ W1.heap.size ≤ x ∧ w.heap[x]? = some (.cells #[.slice none 0 0, .slice none 0 0] 86 (0, 0))) (hT := fun v w w' hb ⟨x, hv, hl, hh⟩ => ⟨x, hv, hl, (hb.block x (lt_of_heap hh)).trans hh⟩)
    · rfl
    · kernel_rfl
    · kernel_rfl
    · dsimp only [oblS]
      rintro w9 h9 T' hT'
      go_simp
      exact ⟨(Below.refl _ _).alloc (Nat.le_refl _) _, hT' _ _ ⟨_, rfl, h9.size, World.alloc_heap_new _ _⟩⟩
    dsimp only [naL, caL]
    refine relS_end (by rfl) ?_
    dsimp only [finS]
    rintro v24 v27 v28 v8 w8 ⟨⟨⟨⟨hb8, _⟩, _⟩, ⟨F, K, rfl, hoF, hoK⟩⟩, ⟨X8, rfl, hX8, h8⟩⟩
    obtain ⟨FA, Fc, rfl, _, hFo⟩ := own_slice fEnc_len (by decide) hoF
    obtain ⟨KA, Kc, rfl, _, hKo⟩ := own_slice iEnc_len (by decide) hoK
    have fk8 := frozen_of_heap (o := 0) h8
    have lk8 := lt_of_heap h8
    have hb89 := below_setRow hb8 hX8 (putAt #[.slice none 0 0, .slice none 0 0] 0 [.slice FA g.fn Fc, .slice KA g.kn Kc])
    have h9 := setRow_heap w8 X8 _ (putAt #[.slice none 0 0, .slice none 0 0] 0 [.slice FA g.fn Fc, .slice KA g.kn Kc]) _ _ h8
    have hne : ∀ x, x ≠ X8 → (w8.setRow X8 (putAt #[.slice none 0 0, .slice none 0 0] 0 [.slice FA g.fn Fc, .slice KA g.kn Kc])).heap[x]? = w8.heap[x]? := fun x hx => setRow_other w8 X8 x _ hx
    obtain ⟨W9, hW9⟩ : ∃ W9, w8.setRow X8 (putAt #[.slice none 0 0, .slice none 0 0] 0 [.slice FA g.fn Fc, .slice KA g.kn Kc]) = W9 := ⟨_, rfl⟩
    rw [hW9] at hb89 h9 hne
    have h9 : W9.heap[X8]? = some (.cells #[.slice FA g.fn Fc, .slice KA g.kn Kc] 86 (0, 0)) := h9
    have hB9 : Below w.heap.size w W9 := HB1.out.trans (hb89.mono HB1.out.size)
    have hoF9 : W9.ownsRow (b + 3) 54 8 (.slice FA g.fn Fc) g.fn (g.facts.flatMap fEnc) := own_keepB hoF fun x e => hne x fun e2 => own_neT hoF h8 (by decide) (e2 ▸ e)
    have hoK9 : W9.ownsRow (b + 3) 3 1 (.slice KA g.kn Kc) g.kn (g.kids.flatMap iEnc) := own_keepB hoK fun x e => hne x fun e2 => own_neT hoK h8 (by decide) (e2 ▸ e)
    have hw9 := HW.out W9 hB9
    have hz9 : b + 3 ≤ W9.heap.size := by have := hb89.size; have := HZ1.out; omega
    have hX8' : b + 3 ≤ X8 := by have := HZ1.out; omega
    have hal : ∀ x, b + 3 ≤ x → x < W9.heap.size → Away B x W9 := fun x h1 h2 => Away.new (HW.out w (Below.refl _ _)) hB9 (by have := HBs.out; omega) h2
    have hst : InSt B base b X8 ps p w W9 (.slice FA g.fn Fc) (.slice KA g.kn Kc) g.fn g.kn g.facts g.kids A c [] := by
      have hps9 : ∀ y ∈ ps, ∀ x, PgBl y x → x < w.heap.size := fun y hy x hx => ((HPs.out y hy).away x hx).1
      refine ⟨h9, hoF9, hoK9, fun x e => hal x (hoF9.lt x e).1 (hoF9.lt x e).2, fun x e => hal x (hoK9.lt x e).1 (hoK9.lt x e).2, hal X8 hX8' (lt_of_heap h9), hX8', (hb89.block _ (by have := HZ1.out; omega)).trans HGz.out, by rw [List.append_nil]; exact hw9, ?_, ?_, (fun y hy => by cases hy), (fun y hy => by cases hy), .of_below hBl hB9, by simp⟩
      · intro y hy
        rw [List.append_nil] at hy
        exact (HPs.out y hy).turn (.of_below hBl hB9)
      · intro y hy x hx
        rw [List.append_nil] at hy
        have := hps9 y hy x hx
        have := HBs.out
        exact ⟨fun e => by have := (hoF9.lt x e).1; omega, fun e => by have := (hoK9.lt x e).1; omega, by omega⟩
    have gf9 : W9.heap[b]? = some (.cells #[.int .i64 f.key.kind, .int .i64 f.key.subj, .int .i64 f.key.obj, .int .i64 f.val, .int .i64 f.fr, .int .i64 f.to, .int .i64 f.known, .int .i64 f.no] 54 (0, 0)) := (hb89.block _ (by have := HZ1.out; omega)).trans HGf.out
    have HSt := hidp hst
    have HGf9 := hidp gf9
    have HB9 := hidp hB9
    have HO9 := hidp hoF9
    have HW9 := hidp hW9
    clear hW9 hb89 hne hoF hoK hoK9 hw9 hal hst gf9 hB9 hoF9 hX8' hX8 hz9 hb8 hFo hKo
    go_simp
    refine wpList_store_at (vs := [.slice FA g.fn Fc, .slice KA g.kn Kc]) 86 (.tmp 8) (.tmp 28) rfl rfl rfl rfl h8 (by kernel_rfl) (by simp) (by intro v hv; simp at hv; rcases hv with rfl | rfl <;> rfl) ?_
    rw [HW9.out]
    have q0 := cell_of_heap (o := 0) h9
    have q1 := cell_of_heap (o := 1) h9
    have q8 := lt_of_heap h9
    have y0 := cell_of_heap (o := 0) HGf9.out
    have y1 := cell_of_heap (o := 1) HGf9.out
    have y2 := cell_of_heap (o := 2) HGf9.out
    have y3 := cell_of_heap (o := 3) HGf9.out
    have y4 := cell_of_heap (o := 4) HGf9.out
    have y5 := cell_of_heap (o := 5) HGf9.out
    have y6 := cell_of_heap (o := 6) HGf9.out
    have y7 := cell_of_heap (o := 7) HGf9.out
    have ly := lt_of_heap HGf9.out
    simp only [List.getElem?_toArray, List.getElem?_cons_zero, List.getElem?_cons_succ] at q0 q1 y0 y1 y2 y3 y4 y5 y6 y7
    clear h8 h9 fk8 lk8 cP0 cP1 lP
    go_wp2_with fail
    obtain ⟨A9, c9, eF, hFr, _⟩ := own_slice fEnc_len (by decide) HO9.out
    injection eF with e1 e2 e3
    subst e1 e3
    refine (pgsearch_any FA g.fn Fc g.facts f W9 hFr (by omega)).mono ?_
    rintro e w3 ⟨kk, bb, rfl, hkn, hlo, hhi, hb3⟩
    have hpl : placeP g.facts f = kk := place_of (HS.out.sublist (by rw [HP.out.all]; exact facts_sub _ _)) (by have := HFl.out; omega) hlo hhi
    have HPl := hidp hpl
    have st3 := HSt.out.later HBs.out hb3
    have HSt3 := hidp st3
    have gf3 : w3.heap[b]? = some (.cells #[.int .i64 f.key.kind, .int .i64 f.key.subj, .int .i64 f.key.obj, .int .i64 f.val, .int .i64 f.fr, .int .i64 f.to, .int .i64 f.known, .int .i64 f.no] 54 (0, 0)) := (hb3.block _ (lt_of_heap HGf9.out)).trans HGf9.out
    have HGf3 := hidp gf3
    have q0 := cell_of_heap (o := 0) st3.box
    have q1 := cell_of_heap (o := 1) st3.box
    have q8 := lt_of_heap st3.box
    have q9 := frozen_of_heap (o := 0) st3.box
    have q10 := frozen_of_heap (o := 1) st3.box
    have y0 := cell_of_heap (o := 0) gf3
    have y1 := cell_of_heap (o := 1) gf3
    have y2 := cell_of_heap (o := 2) gf3
    have y3 := cell_of_heap (o := 3) gf3
    have y4 := cell_of_heap (o := 4) gf3
    have y5 := cell_of_heap (o := 5) gf3
    have y6 := cell_of_heap (o := 6) gf3
    have y7 := cell_of_heap (o := 7) gf3
    have ly := lt_of_heap gf3
    simp only [List.getElem?_toArray, List.getElem?_cons_zero, List.getElem?_cons_succ] at q0 q1 y0 y1 y2 y3 y4 y5 y6 y7
    have hbx : b ≠ X8 := by have := st3.lX; omega
    have hz3 : b + 3 ≤ w3.heap.size := by have := st3.lX; omega
    clear hlo hhi hb3 hpl st3 gf3 hFr HSt HGf9 HO9 HW9 HB1 HZ1 HGf HGz HGp HV0 HW0 HW1 HIn HA
    go_upto_if 39 with fail
    go_cut [] (fun wx => ∃ vF vK nF nK F' K' A1 c1 new, InSt B base b X8 ps p w wx vF vK nF nK F' K' A1 c1 new ∧ F'.length ≤ 5 ∧ K'.length ≤ 6 ∧ (K'.length = 0 ∨ K'.length = F'.length + 1) ∧ insW f (p + 1) (ps.map pgV) p = splitP ((ps ++ new).map pgV) ⟨F', K'⟩)
    case first =>
      by_cases hk0 : g.kn = 0
      · have hkb : (((g.kn : Int) == 0) : Bool) = true := by simp [hk0]
        have HK0 := hidp hk0
        clear hk0
        go_wp2_with fail
        refine (insF_any (b + 3) g.fn kk (.slice FA g.fn Fc) g.facts f w3.heap.size _ (HSt3.out.oF.alloc _) (World.alloc_heap_new _ _) (fun e => by have := (HSt3.out.oF.lt _ e).2; omega) (by simp; omega) (by omega) (by omega)).mono ?_
        rintro e w4 ⟨v', rfl, ho4, hat4, hk4⟩
        obtain ⟨A4, c4, rfl, _, _⟩ := own_slice fEnc_len (by decide) ho4
        have bal : Below w3.heap.size w3 (w3.alloc (.cells (fEnc f).toArray 54)) := (Below.refl _ _).alloc (Nat.le_refl _) _
        have st4 := HSt3.out.insF HBs.out bal ho4 hat4 hk4
        have HSt4 := hidp st4
        have HX4 : w4.heap[X8]? = some (.cells #[.slice FA g.fn Fc, .slice KA g.kn Kc] 86 (0, 0)) := (hk4.block X8 (by simp; omega) (own_neT HSt3.out.oF HSt3.out.box (by decide))).trans ((bal.block X8 q8).trans HSt3.out.box)
        have r0 := cell_of_heap (o := 0) HX4
        have r8 := lt_of_heap HX4
        have r9 := frozen_of_heap (o := 0) HX4
        simp only [List.getElem?_toArray, List.getElem?_cons_zero] at r0
        clear hat4 hk4 bal st4 ho4 HX4 q0 q1 q8 q9 q10 y0 y1 y2 y3 y4 y5 y6 y7 ly
        go_wp2_with fail
        go_meet
        refine ⟨_, _, _, _, _, _, _, _, _, HSt4.out, ?_, ?_, ?_, ?_⟩
        · have := HFl.out; simp; omega
        · have := HKl.out; omega
        · left; rw [← HKl.out]; exact HK0.out
        · have hnil : g.kids = [] := List.eq_nil_of_length_eq_zero (by rw [← HKl.out]; exact HK0.out)
          rw [insW_leaf HP.out.get (show (pgV g).kids.length = 0 by rw [← HK0.out, HKl.out]; rfl)]
          show splitP _ _ = _
          rw [List.append_nil, hnil]
          have : placeP (pgV g).facts f = kk := HPl.out
          rw [this]
          show splitP _ ⟨insAt g.facts kk f, []⟩ = _
          unfold insAt
          simp
      · have hkb : (((g.kn : Int) == 0) : Bool) = false := by simp; omega
        have hkp : g.kn = g.fn + 1 := by
          rcases HP.out.kids with ⟨h, _⟩ | ⟨h, _⟩
          · have h : g.kids = [] := h
            rw [HKl.out, h] at hk0; simp at hk0
          · have h : g.kids.length = g.facts.length + 1 := h
            rw [HKl.out, HFl.out]; exact h
        have hkk : kk < g.kn := by omega
        have HKp := hidp hkp
        clear hkp
        obtain ⟨kid, hkid, hkid0, hkidp, ⟨d', _, hTk⟩, hsubk⟩ := HP.out.kid (fun e => by have h2 : g.kids = [] := e; have h3 := HKl.out; rw [h2] at h3; exact hk0 h3) (i := kk) (show kk ≤ g.facts.length by have := HFl.out; omega)
        obtain ⟨q, rfl⟩ : ∃ q : Nat, kid = (q : Int) := ⟨kid.toNat, by omega⟩
        rw [Int.toNat_natCast] at hTk hsubk
        have hqp : q < p := by omega
        obtain ⟨G, hG⟩ : ∃ G, KA = some ⟨G, 0, none⟩ := by
          rcases HSt3.out.oK.2 with ⟨h1, h2⟩ | ⟨G, cap, cur, h1, _⟩
          · have := HSt3.out.oK.1
            rw [h2] at this; simp at this; omega
          · cases h1; exact ⟨G, rfl⟩
        subst hG
        have hGo : (Value.slice (some ⟨G, 0, none⟩) g.kn Kc).ownBlock = some G := rfl
        have hcK : w3.cell? ⟨G, kk, none⟩ = some (.int .i64 q) := kid_cell HSt3.out.oK hkid
        have hlG := lt_of_cell hcK
        have hix2 := fun W => ix_intsP (c := Kc) (show some (⟨G, 0, none⟩ : Addr) = some ⟨G, 0, none⟩ from rfl) hkk W
        simp only [Nat.zero_add] at hix2
        have HTk := hidp hTk
        have HSk := hidp (HS.out.sublist hsubk)
        have HCk : Hid (Comp f (allT (ps.map pgV) q)) := fun x hx => HC.out x (hsubk.subset hx)
        have HKid := hidp hkid
        have HRec : Hid (∀ W, Below w3.heap.size w3 W → Calls Tryz.prog 45 #[.pointer (some ⟨B, 0, none⟩), .int .i64 q, .agg #[.int .i64 f.key.kind, .int .i64 f.key.subj, .int .i64 f.key.obj, .int .i64 f.val, .int .i64 f.fr, .int .i64 f.to, .int .i64 f.known, .int .i64 f.no]] W (InsWPost B base ps f q W)) := fun W hW =>
          ih q (by omega) ps false d' A c W (by have := HSt3.out.wr.below hW; rwa [List.append_nil] at this) (by have := hW.size; have := HBs.out; omega) (fun y hy => (HSt3.out.pages y (by rw [List.append_nil]; exact hy)).turn (.of_below (lt_of_heap HSt3.out.wr.box) hW)) HTk.out HSk.out HCk.out (by omega)
        have hB3 := lt_of_heap HSt3.out.wr.box
        clear hkid hkid0 hkidp hTk hsubk hk0
        go_wp2_with fail
        refine wp_region_YS (WrR B) 9 (fun k => k == 7) (fun k => k == 7) (fun k => k == 0 || k == 1 || k == 2 || k == 3 || k == 4 || k == 5 || k == 6 || k == 7) (fun _ _ _ h k => h.trans k) (fun w1 w2 h hb => .of_below (by rcases h with rfl | h; exact hB3; exact Nat.lt_of_lt_of_le h.lt h.size) hb) (by kernel_rfl) (by kernel_rfl) (by kernel_rfl) (by kernel_rfl) (by kernel_rfl) (by kernel_rfl) ?_
        dsimp only [List.take, List.drop]
        apply zs_det (mask := []) (S := (Below w3.heap.size w3)) (m := (fun w => Below w.heap.size w)) (x := .pointer (some ⟨B, 0, none⟩)) (hS := by rfl) (hm := by rfl) (hg := by kernel_rfl) (hk := by kernel_rfl)
        · dsimp only [oblS]
          rintro w9 h9
          go_simp
          exact ⟨Below.refl _ _, rfl⟩
        dsimp only [naL, caL]
        apply zs_det (mask := [false]) (S := (Below w3.heap.size w3)) (m := (fun w => Below w.heap.size w)) (hS := by rfl) (hm := by rfl) (hg := by kernel_rfl) (hk := by kernel_rfl)
        · dsimp only [oblS]
          rintro w9 h9
          go_simp
          exact ⟨Below.refl _ _, rfl⟩
        dsimp only [naL, caL]
        apply zs_det (mask := [false, true]) (S := (Below w3.heap.size w3)) (m := (fun w => Below w.heap.size w)) (x := .slice (some ⟨G, 0, none⟩) g.kn Kc) (hS := by rfl) (hm := by rfl) (hg := by kernel_rfl) (hk := by kernel_rfl)
        · dsimp only [oblS]
          rintro w9 h9
          have hc9 := (bcell h9).1
          go_simp
          exact ⟨Below.refl _ _, rfl⟩
        dsimp only [naL, caL]
        apply zs_det (mask := [false, false, false]) (S := (Below w3.heap.size w3)) (m := (fun w => Below w.heap.size w)) (x := .int .i64 kk) (hS := by rfl) (hm := by rfl) (hg := by kernel_rfl) (hk := by kernel_rfl)
        · dsimp only [oblS]
          rintro w9 h9
          go_simp
          exact ⟨Below.refl _ _, rfl⟩
        dsimp only [naL, caL]
        apply zs_det (mask := [false, false, true, true]) (S := (Below w3.heap.size w3)) (m := (fun w => Below w.heap.size w)) (x := .pointer (some ⟨G, kk, none⟩)) (hS := by rfl) (hm := by rfl) (hg := by kernel_rfl) (hk := by kernel_rfl)
        · dsimp only [oblS]
          rintro w9 h9
          have hi9 := hix2 w9
          go_simp
          exact ⟨Below.refl _ _, rfl⟩
        dsimp only [naL, caL]
        apply zs_det (mask := [false, false, false, false, true]) (S := (Below w3.heap.size w3)) (m := (fun w => Below w.heap.size w)) (x := .int .i64 q) (hS := by rfl) (hm := by rfl) (hg := by kernel_rfl) (hk := by kernel_rfl)
        · dsimp only [oblS]
          rintro w9 h9
          have hc9 := (bcell h9).1
          go_simp
          exact ⟨Below.refl _ _, rfl⟩
        dsimp only [naL, caL]
        apply zs_det (mask := [false, false, false, false, false, false]) (S := (Below w3.heap.size w3)) (m := (fun w => Below w.heap.size w)) (x := .agg #[.int .i64 f.key.kind, .int .i64 f.key.subj, .int .i64 f.key.obj, .int .i64 f.val, .int .i64 f.fr, .int .i64 f.to, .int .i64 f.known, .int .i64 f.no]) (hS := by rfl) (hm := by rfl) (hg := by kernel_rfl) (hk := by kernel_rfl)
        · dsimp only [oblS]
          rintro w9 h9
          have hc9 := (bcell h9).1
          go_simp
          exact ⟨Below.refl _ _, rfl⟩
        dsimp only [naL, caL]
        apply zs_any (mask := [true, false, false, false, false, true, true]) (S := (Below w3.heap.size w3)) (m := (WrR B)) (T := fun v w => ∃ new one two up o A' c', v = grV one two up ∧ InsDone B base ps f q w3 w new one two up o A' c') (hT := fun v w w' hb ⟨new, one, two, up, o, A', c', e, h⟩ => ⟨new, one, two, up, o, A', c', e, h.later hb⟩) (hf := by kernel_rfl) (hS := by rfl) (hm := by rfl) (hg := by kernel_rfl) (hk := by kernel_rfl)
        · dsimp only [oblS]
          rintro w9 h9 T' hT'
          go_simp
          refine (HRec.out w9 h9).mono ?_
          rintro e w7 ⟨new, one, two, up, o, A', c', rfl, hd⟩
          have hd3 := hd.lower (.of_below hB3 h9)
          exact ⟨_, rfl, hd.turn, hT' _ _ ⟨new, one, two, up, o, A', c', rfl, hd3⟩⟩
        dsimp only [naL, caL]
        apply zs_rob (mask := [false, false, false, false, false, false, false, false]) (S := ((WrR B) w3)) (m := (fun w => Below w.heap.size w)) (T := fun v w => ∃ x, v = .pointer (some ⟨x, 0, none⟩) ∧ w3.heap.size ≤ x ∧ w.heap[x]? = some (.cells #[.int .i64 0, .int .i64 0, .pointer none] 101 (0, 0)) ∧ Away B x w ∧ B < w.heap.size) (hT := fun v w w' hb ⟨x, e, h1, h2, h3, h4⟩ => ⟨x, e, h1, (hb.block x h3.1).trans h2, h3.turn (.of_below h4 hb), Nat.lt_of_lt_of_le h4 hb.size⟩) (hR := fun v w w' hr ⟨x, e, h1, h2, h3, h4⟩ => ⟨x, e, h1, (h3.same hr).trans h2, h3.turn hr, Nat.lt_of_lt_of_le h4 hr.size⟩) (hS := by rfl) (hm := by rfl) (hg := by kernel_rfl) (hk := by kernel_rfl)
        · dsimp only [oblS]
          rintro w9 h9 T' hT'
          have hB9 : B < w9.heap.size := Nat.lt_of_lt_of_le hB3 h9.size
          have hal : Below w9.heap.size w9 (w9.alloc (.cells #[.int .i64 0, .int .i64 0, .pointer none] 101)) := (Below.refl _ _).alloc (Nat.le_refl _) _
          go_simp
          exact ⟨hal, hT' _ _ ⟨_, rfl, h9.size, World.alloc_heap_new _ _, ⟨by simp, by omega, fun ho => by have := h9.lim (fun x hx => (HSt3.out.wr.ownLt hx).2) _ (ho.below hB9 hal); omega⟩, by simp; omega⟩⟩
        dsimp only [naL, caL]
        refine zs_end [false, false, false, false, false, false, false, false, false] (by kernel_rfl) (by kernel_rfl) ?_
        dsimp only [finQ]
        rintro v54 v11 w8 ⟨⟨hb8, ⟨new, one, two, up, ov, A', c', rfl, hd⟩⟩, ⟨X11, rfl, hX11, hh11, haw, _⟩⟩
        have hps3 : ∀ y ∈ ps, ∀ x, PgBl y x → x < w3.heap.size := fun y hy x hx => ((HSt3.out.pages y (by rw [List.append_nil]; exact hy)).away x hx).1
        have hd9 := insDone_only hd (Only.setRow w8 X11 (putAt #[.int .i64 0, .int .i64 0, .pointer none] 0 [.int .i64 one, .int .i64 two, .pointer up])) hh11 haw hX11 hps3
        have hh9 : (w8.setRow X11 (putAt #[.int .i64 0, .int .i64 0, .pointer none] 0 [.int .i64 one, .int .i64 two, .pointer up])).heap[X11]? = some (.cells #[.int .i64 one, .int .i64 two, .pointer up] 101 (0, 0)) := setRow_heap w8 X11 _ _ _ _ hh11
        obtain ⟨w10, hw10⟩ : ∃ W, w8.setRow X11 (putAt #[.int .i64 0, .int .i64 0, .pointer none] 0 [.int .i64 one, .int .i64 two, .pointer up]) = W := ⟨_, rfl⟩
        have HW10 := hidp hw10
        rw [hw10] at hd9 hh9
        have st10 := HSt3.out.below HBs.out hqp hd9
        have HSt10 := hidp st10
        have HD := hidp hd9
        have HH9 := hidp hh9
        have gf10 : w10.heap[b]? = some (.cells #[.int .i64 f.key.kind, .int .i64 f.key.subj, .int .i64 f.key.obj, .int .i64 f.val, .int .i64 f.fr, .int .i64 f.to, .int .i64 f.known, .int .i64 f.no] 54 (0, 0)) := (hd9.turn.block _ (lt_of_heap HGf3.out) (by have := HBs.out; omega) (fun ho => by have := (HSt3.out.wr.own.lt b (HSt3.out.wr.ownB ho)).1; obtain ⟨cur, h2⟩ := own_heap HSt3.out.wr.own (HSt3.out.wr.ownB ho); rw [HGf3.out] at h2; cases h2)).trans HGf3.out
        have HGf10 := hidp gf10
        go_simp
        refine wpList_store_at (vs := [.int .i64 one, .int .i64 two, .pointer up]) 101 (.tmp 11) (.tmp 54) rfl rfl rfl rfl hh11 (by kernel_rfl) (by simp) (by intro v hv; simp at hv; rcases hv with rfl | rfl | rfl <;> rfl) ?_
        rw [HW10.out]
        clear hd hh11 haw hps3 hw10 hd9 hh9 st10 gf10 hb8 q0 q1 q8 q9 q10 y0 y1 y2 y3 y4 y5 y6 y7 ly hcK hlG
        have q0 := cell_of_heap (o := 0) HSt10.out.box
        have q1 := cell_of_heap (o := 1) HSt10.out.box
        have q8 := lt_of_heap HSt10.out.box
        have q9 := frozen_of_heap (o := 0) HSt10.out.box
        have q10 := frozen_of_heap (o := 1) HSt10.out.box
        have t0 := cell_of_heap (o := 0) HH9.out
        have t1 := cell_of_heap (o := 1) HH9.out
        have t2 := cell_of_heap (o := 2) HH9.out
        have t3 := lt_of_heap HH9.out
        obtain ⟨curG, hGh⟩ := own_heap HSt10.out.oK hGo
        have g1 := lt_of_heap hGh
        have g2 := frozen_of_heap (o := kk) hGh
        have g3 := kid_cell HSt10.out.oK HKid.out
        simp only [List.getElem?_toArray, List.getElem?_cons_zero, List.getElem?_cons_succ] at q0 q1 t0 t1 t2
        have hne1 : G ≠ X8 := own_neT HSt10.out.oK HSt10.out.box (by decide) |> fun h e => h (e ▸ hGo)
        have hne2 : G ≠ X11 := own_neT HSt10.out.oK HH9.out (by decide) |> fun h e => h (e ▸ hGo)
        have hset := HSt10.out.setK HBs.out (u := (one : Int)) HKid.out
        have HSet := hidp hset
        clear hset hGh
        rcases ov with _ | ⟨m, b2⟩
        · obtain rfl := HD.out.none rfl
          go_wp2_with fail
          go_meet
          refine ⟨_, _, _, _, _, _, _, _, _, HSet.out, by have := HFl.out; omega, by have := HKl.out; rw [List.length_set]; omega, by right; have := HKl.out; have := HFl.out; have := HKp.out; rw [List.length_set]; omega, ?_⟩
          have hkid : (pgV g).kids[placeP (pgV g).facts f]? = some (q : Int) := by
            have : placeP (pgV g).facts f = kk := HPl.out
            rw [this]; exact HKid.out
          rw [insW_none HP.out (fun h => by have h2 : g.kids.length = 0 := h; have := HKl.out; omega) hkid HD.out.ins]
          have : placeP (pgV g).facts f = kk := HPl.out
          rw [this]
          rfl
        · obtain ⟨htwo, u, rfl, hu, hua, hu3⟩ := HD.out.some m b2 rfl
          subst htwo
          -- the step after the kid's number
          have hK11 : (w10.setCell ⟨G, kk, none⟩ (.int .i64 one)).heap[X11]? = some (.cells #[.int .i64 one, .int .i64 b2, .pointer (some ⟨u, 0, none⟩)] 101 (0, 0)) := heap_set_ne HH9.out (fun e => hne2 e.symm) _ _
          have hneu : G ≠ u := own_neT HSt10.out.oK hu (by decide) |> fun h e => h (e ▸ hGo)
          have hKu : (w10.setCell ⟨G, kk, none⟩ (.int .i64 one)).heap[u]? = some (.cells (fEnc m).toArray 54 (0, 0)) := heap_set_ne hu (fun e => hneu e.symm) _ _
          have hFu : ∀ x, (Value.slice FA g.fn Fc).ownBlock = some x → x < w3.heap.size := fun x e => (HSt3.out.oF.lt x e).2
          have HK11 := hidp hK11
          have HKu := hidp hKu
          have HFu := hidp hFu
          have HU3 := hidp hu3
          clear hK11 hKu hFu hu hua hu3 hneu
          go_upto_region 9 with fail
          obtain ⟨W11, hW11⟩ : ∃ W, w10.setCell ⟨G, kk, none⟩ (.int .i64 one) = W := ⟨_, rfl⟩
          have HW11 := hidp hW11
          have HSe : Hid (InSt B base b X8 ps p w W11 (.slice FA g.fn Fc) (.slice (some ⟨G, 0, none⟩) g.kn Kc) g.fn g.kn g.facts (g.kids.set kk one) A' c' new) := hW11 ▸ HSet.out
          have HK1 : Hid (W11.heap[X11]? = some (.cells #[.int .i64 one, .int .i64 b2, .pointer (some ⟨u, 0, none⟩)] 101 (0, 0))) := hW11 ▸ HK11.out
          have HKv : Hid (W11.heap[u]? = some (.cells (fEnc m).toArray 54 (0, 0))) := hW11 ▸ HKu.out
          have HZ11 : Hid (W11.heap.size = w10.heap.size) := by show _ = _; rw [← hW11]; simp [World.setCell]
          have HZ10 : Hid (w3.heap.size ≤ w10.heap.size) := HD.out.turn.size
          rw [hW11]
          clear hW11 q0 q1 q8 q9 q10 t0 t1 t2 t3 g1 g2 g3 HSet HK11 HKu
          have q0 := cell_of_heap (o := 0) HSe.out.box
          have q1 := cell_of_heap (o := 1) HSe.out.box
          have q8 := lt_of_heap HSe.out.box
          have t0 := cell_of_heap (o := 0) HK1.out
          have t1 := cell_of_heap (o := 1) HK1.out
          have t2 := cell_of_heap (o := 2) HK1.out
          have t3 := lt_of_heap HK1.out
          have m0 := cell_of_heap (o := 0) HKv.out
          have m1 := cell_of_heap (o := 1) HKv.out
          have m2 := cell_of_heap (o := 2) HKv.out
          have m3 := cell_of_heap (o := 3) HKv.out
          have m4 := cell_of_heap (o := 4) HKv.out
          have m5 := cell_of_heap (o := 5) HKv.out
          have m6 := cell_of_heap (o := 6) HKv.out
          have m7 := cell_of_heap (o := 7) HKv.out
          have m8 := lt_of_heap HKv.out
          simp only [fEnc, List.getElem?_toArray, List.getElem?_cons_zero, List.getElem?_cons_succ] at q0 q1 t0 t1 t2 m0 m1 m2 m3 m4 m5 m6 m7
          refine wp_region_YS (Kept (fun x => (Value.slice FA g.fn Fc).ownBlock = some x)) 10 (fun k => k == 8) (fun k => k == 7 || k == 8) (fun k => k == 0 || k == 1 || k == 2 || k == 3 || k == 4 || k == 5 || k == 6 || k == 7 || k == 8) (fun _ _ _ h k => h.trans k) (fun w1 w2 _ hb => (Kept.refl _ w1).below hb fun x h1 h2 => by omega) (by kernel_rfl) (by kernel_rfl) (by kernel_rfl) (by kernel_rfl) (by kernel_rfl) (by kernel_rfl) ?_
          dsimp only [List.take, List.drop]
          apply zs_det (mask := []) (S := (Below W11.heap.size W11)) (m := (fun w => Below w.heap.size w)) (hS := by rfl) (hm := by rfl) (hg := by kernel_rfl) (hk := by kernel_rfl)
          · dsimp only [oblS]
            rintro w9 h9
            go_simp
            exact ⟨Below.refl _ _, rfl⟩
          dsimp only [naL, caL]
          apply zs_det (mask := [true]) (S := (Below W11.heap.size W11)) (m := (fun w => Below w.heap.size w)) (x := .slice FA g.fn Fc) (hS := by rfl) (hm := by rfl) (hg := by kernel_rfl) (hk := by kernel_rfl)
          · dsimp only [oblS]
            rintro w9 h9
            have hc9 := (bcell h9).1
            go_simp
            exact ⟨Below.refl _ _, rfl⟩
          dsimp only [naL, caL]
          apply zs_det (mask := [false, false]) (S := (Below W11.heap.size W11)) (m := (fun w => Below w.heap.size w)) (x := .int .i64 kk) (hS := by rfl) (hm := by rfl) (hg := by kernel_rfl) (hk := by kernel_rfl)
          · dsimp only [oblS]
            rintro w9 h9
            go_simp
            exact ⟨Below.refl _ _, rfl⟩
          dsimp only [naL, caL]
          apply zs_det (mask := [false, false, false]) (S := (Below W11.heap.size W11)) (m := (fun w => Below w.heap.size w)) (hS := by rfl) (hm := by rfl) (hg := by kernel_rfl) (hk := by kernel_rfl)
          · dsimp only [oblS]
            rintro w9 h9
            go_simp
            exact ⟨Below.refl _ _, rfl⟩
          dsimp only [naL, caL]
          apply zs_det (mask := [false, false, false, true]) (S := (Below W11.heap.size W11)) (m := (fun w => Below w.heap.size w)) (x := .pointer (some ⟨u, 0, none⟩)) (hS := by rfl) (hm := by rfl) (hg := by kernel_rfl) (hk := by kernel_rfl)
          · dsimp only [oblS]
            rintro w9 h9
            have hc9 := (bcell h9).1
            go_simp
            exact ⟨Below.refl _ _, rfl⟩
          dsimp only [naL, caL]
          apply zs_det (mask := [false, false, false, false, true]) (S := (Below W11.heap.size W11)) (m := (fun w => Below w.heap.size w)) (hS := by rfl) (hm := by rfl) (hg := by kernel_rfl) (hk := by kernel_rfl)
          · dsimp only [oblS]
            rintro w9 h9
            go_simp
            exact ⟨Below.refl _ _, rfl⟩
          dsimp only [naL, caL]
          apply zs_det (mask := [false, false, false, false, false, true]) (S := (Below W11.heap.size W11)) (m := (fun w => Below w.heap.size w)) (x := .agg #[.int .i64 m.key.kind, .int .i64 m.key.subj, .int .i64 m.key.obj, .int .i64 m.val, .int .i64 m.fr, .int .i64 m.to, .int .i64 m.known, .int .i64 m.no]) (hS := by rfl) (hm := by rfl) (hg := by kernel_rfl) (hk := by kernel_rfl)
          · dsimp only [oblS]
            rintro w9 h9
            have hc9 := (bcell h9).1
            go_simp
            exact ⟨Below.refl _ _, rfl⟩
          dsimp only [naL, caL]
          apply zs_any (mask := [false, false, false, false, false, false, true]) (S := (Below W11.heap.size W11)) (m := (fun w => Below w.heap.size w)) (T := fun v w => ∃ x, v = .slice (some ⟨x, 0, none⟩) 1 1 ∧ W11.heap.size ≤ x ∧ w.heap[x]? = some (.cells (fEnc m).toArray 54 (0, 0))) (hT := fun v w w' hb ⟨x, e, h1, h2⟩ => ⟨x, e, h1, (hb.block x (lt_of_heap h2)).trans h2⟩) (hf := by kernel_rfl) (hS := by rfl) (hm := by rfl) (hg := by kernel_rfl) (hk := by kernel_rfl)
          · dsimp only [oblS]
            rintro w9 h9 T' hT'
            go_simp
            exact ⟨(Below.refl _ _).alloc (Nat.le_refl _) _, hT' _ _ ⟨_, rfl, h9.size, World.alloc_heap_new _ _⟩⟩
          dsimp only [naL, caL]
          apply zs_any (mask := [false, true, true, false, false, false, false, true]) (S := (Below W11.heap.size W11)) (m := (Kept (fun x => (Value.slice FA g.fn Fc).ownBlock = some x))) (T := fun v w => ∃ A4 c4 wy, v = .slice A4 (g.fn + 1) c4 ∧ Below W11.heap.size W11 wy ∧ w.ownsRow (b + 3) 54 8 v (g.fn + 1) ((g.facts.take kk ++ [m] ++ g.facts.drop kk).flatMap fEnc) ∧ (v.ownBlock = (Value.slice FA g.fn Fc).ownBlock ∨ ∃ x, v.ownBlock = some x ∧ wy.heap.size ≤ x) ∧ Kept (fun x => (Value.slice FA g.fn Fc).ownBlock = some x) wy w) (hT := fun v w w' hb ⟨A4, c4, wy, e, h1, h2, h3, h4⟩ => ⟨A4, c4, wy, e, h1, own_keepB h2 fun x e => hb.block x (h2.lt x e).2, h3, h4.below hb (fun x h5 h6 => by have := h4.size; omega)⟩) (hf := by kernel_rfl) (hS := by rfl) (hm := by rfl) (hg := by kernel_rfl) (hk := by kernel_rfl)
          · dsimp only [oblS]
            intro v71
            rintro w9 ⟨h9, t71⟩ T' hT'
            obtain ⟨x, rfl, hx1, hx2⟩ := t71
            go_simp
            refine (insF_any (b + 3) g.fn kk (.slice FA g.fn Fc) g.facts m x w9 (own_keepB HSe.out.oF fun y e => h9.block y (HSe.out.oF.lt y e).2) hx2 (fun e => by have := (HSe.out.oF.lt _ e).2; omega) (by have := h9.size; have := HZ11.out; have := HZ10.out; omega) (by omega) (by omega)).mono ?_
            rintro e w7 ⟨v', rfl, ho4, hat4, hk4⟩
            obtain ⟨A4, c4, rfl, _, _⟩ := own_slice fEnc_len (by decide) ho4
            exact ⟨_, rfl, hk4, hT' _ _ ⟨A4, c4, w9, rfl, h9, ho4, hat4, hk4⟩⟩
          dsimp only [naL, caL]
          apply zs_det (mask := [false, false, false, false, false, false, false, false, false]) (S := ((Kept (fun x => (Value.slice FA g.fn Fc).ownBlock = some x)) W11)) (m := (fun w => Below w.heap.size w)) (hS := by rfl) (hm := by rfl) (hg := by kernel_rfl) (hk := by kernel_rfl)
          · dsimp only [oblS]
            rintro w9 h9
            go_simp
            exact ⟨Below.refl _ _, rfl⟩
          dsimp only [naL, caL]
          refine zs_end [false, false, false, false, false, false, false, true, false, false] (by kernel_rfl) (by kernel_rfl) ?_
          dsimp only [finQ]
          rintro v71 v72 w8 ⟨hb8, ⟨A4, c4, wy, rfl, hby, ho4, hat4, hk4⟩⟩
          have st12 := HSe.out.insF HBs.out hby ho4 hat4 hk4
          have hX12 : w8.heap[X8]? = some (.cells #[.slice FA g.fn Fc, .slice (some ⟨G, 0, none⟩) g.kn Kc] 86 (0, 0)) := (hk4.block X8 (by have := hby.size; omega) (own_neT HSe.out.oF HSe.out.box (by decide))).trans ((hby.block X8 q8).trans HSe.out.box)
          have hT12 : w8.heap[X11]? = some (.cells #[.int .i64 one, .int .i64 b2, .pointer (some ⟨u, 0, none⟩)] 101 (0, 0)) := (hk4.block X11 (by have := hby.size; omega) (own_neT HSe.out.oF HK1.out (by decide))).trans ((hby.block X11 t3).trans HK1.out)
          have hne : X11 ≠ X8 := fun e => by have h1 := HSe.out.box; rw [← e, HK1.out] at h1; cases h1
          have HSt12 := hidp st12
          have HX12 := hidp hX12
          have HT12 := hidp hT12
          clear q0 q1 q8 t0 t1 t2 t3 m0 m1 m2 m3 m4 m5 m6 m7 m8 st12 hX12 hT12 hat4 ho4 hk4 hby hb8
          have q0 := cell_of_heap (o := 0) HX12.out
          have q1 := cell_of_heap (o := 1) HX12.out
          have q2 := frozen_of_heap (o := 0) HX12.out
          have q3 := frozen_of_heap (o := 1) HX12.out
          have q8 := lt_of_heap HX12.out
          have t0 := cell_of_heap (o := 0) HT12.out
          have t1 := cell_of_heap (o := 1) HT12.out
          have t2 := cell_of_heap (o := 2) HT12.out
          have t3 := lt_of_heap HT12.out
          have hwr : IntKind.i64.wrap ((kk : Int) + 1) = ((kk + 1 : Nat) : Int) := IntWalk.i64_in _ (by omega)
          simp only [List.getElem?_toArray, List.getElem?_cons_zero, List.getElem?_cons_succ] at q0 q1 t0 t1 t2
          go_simp
          go_wp2_with fail
          have hz12 : (w8.setCell ⟨X8, 0, none⟩ (.slice A4 (g.fn + 1) c4)).heap.size = w8.heap.size := by simp [World.setCell]
          have bal : Below (w8.setCell ⟨X8, 0, none⟩ (.slice A4 (g.fn + 1) c4)).heap.size (w8.setCell ⟨X8, 0, none⟩ (.slice A4 (g.fn + 1) c4)) ((w8.setCell ⟨X8, 0, none⟩ (.slice A4 (g.fn + 1) c4)).alloc (.cells (iEnc (b2 : Int)).toArray 3)) := (Below.refl _ _).alloc (Nat.le_refl _) _
          have hx13 : ((w8.setCell ⟨X8, 0, none⟩ (.slice A4 (g.fn + 1) c4)).alloc (.cells (iEnc (b2 : Int)).toArray 3)).heap[w8.heap.size]? = some (.cells (iEnc (b2 : Int)).toArray 3 (0, 0)) := hz12 ▸ World.alloc_heap_new _ _
          refine (insI_any (b + 3) g.kn (kk + 1) (.slice (some ⟨G, 0, none⟩) g.kn Kc) (g.kids.set kk one) (b2 : Int) w8.heap.size _ (HSt12.out.oK.alloc _) hx13 (fun e => by have := (HSt12.out.oK.lt _ e).2; omega) (by simp; have := HSt12.out.lX; omega) (by omega) (by omega)).mono ?_
          rintro e w13 ⟨v', rfl, ho5, hat5, hk13⟩
          obtain ⟨A5, c5, rfl, _, _⟩ := own_slice iEnc_len (by decide) ho5
          have st13 := HSt12.out.insK HBs.out bal ho5 hat5 hk13
          have HSt13 := hidp st13
          have HX13 : w13.heap[X8]? = some (.cells #[.slice A4 (g.fn + 1) c4, .slice (some ⟨G, 0, none⟩) g.kn Kc] 86 (0, 0)) := (hk13.block X8 (by simp; have := q8; omega) (own_neT HSt12.out.oK HSt12.out.box (by decide))).trans ((bal.block X8 (by rw [hz12]; exact q8)).trans HSt12.out.box)
          have r0 := cell_of_heap (o := 1) HX13
          have r8 := lt_of_heap HX13
          have r9 := frozen_of_heap (o := 1) HX13
          simp only [List.getElem?_toArray, List.getElem?_cons_zero, List.getElem?_cons_succ] at r0
          clear q0 q1 q2 q3 q8 t0 t1 t2 t3 hat5 hk13 bal st13 ho5 HX13 hx13
          go_wp2_with fail
          go_meet
          refine ⟨_, _, _, _, _, _, _, _, _, HSt13.out, ?_, ?_, ?_, ?_⟩
          · have := HFl.out; simp; omega
          · have := HKl.out; simp; omega
          · right; have := HKl.out; have := HFl.out; have := HKp.out; simp; omega
          · have hkid : (pgV g).kids[placeP (pgV g).facts f]? = some (q : Int) := by
              have : placeP (pgV g).facts f = kk := HPl.out
              rw [this]; exact HKid.out
            rw [insW_some HP.out (fun h => by have h2 : g.kids.length = 0 := h; have := HKl.out; omega) hkid HD.out.ins]
            have : placeP (pgV g).facts f = kk := HPl.out
            rw [this]
            show splitP _ ⟨insAt g.facts kk m, insAt (g.kids.set kk one) (kk + 1) b2⟩ = _
            unfold insAt
            simp
    case rest =>
      obtain ⟨vF, vK, nF, nK, F, K, A1, c1, new, st, hF5, hK6, hK7, hins⟩ := hcut
      rename World => wc
      obtain ⟨FA2, cF, rfl, _, _⟩ := own_slice fEnc_len (by decide) st.oF
      obtain ⟨KA2, cK, rfl, _, _⟩ := own_slice iEnc_len (by decide) st.oK
      have hnF := own_len fEnc_len (by decide) st.oF
      have hnK := own_len iEnc_len (by decide) st.oK
      have hcF : nF ≤ cF ∧ cF ≤ 9223372036854775807 := by
        obtain ⟨A3, c3, e3, hr, _⟩ := own_slice fEnc_len (by decide) st.oF
        injection e3 with e1 e2 e3; subst e3; exact ⟨hr.2.1, hr.2.2.1⟩
      have hcK : nK ≤ cK ∧ cK ≤ 9223372036854775807 := by
        obtain ⟨A3, c3, e3, hr, _⟩ := own_slice iEnc_len (by decide) st.oK
        injection e3 with e1 e2 e3; subst e3; exact ⟨hr.2.1, hr.2.2.1⟩
      have HSt := hidp st
      have HIns := hidp hins
      have HnF := hidp hnF
      have HnK := hidp hnK
      have HPl2 := hidp (show b = w.heap.size from HBs.out.symm)
      have hfew := st.few
      have hsz1 : w.heap.size ≤ wc.heap.size := st.turn.size
      have hBc := lt_of_heap st.wr.box
      have hps0 : ∀ y ∈ ps, ∀ x, PgBl y x → x < w.heap.size := fun y hy x hx => ((HPs.out y hy).away x hx).1
      have HPs0 := hidp hps0
      have q0 := cell_of_heap (o := 0) st.box
      have q1 := cell_of_heap (o := 1) st.box
      have q8 := lt_of_heap st.box
      simp only [List.getElem?_toArray, List.getElem?_cons_zero, List.getElem?_cons_succ] at q0 q1
      clear st hins hnF hnK hps0 HSt3 HKl HFl HPl HGf3
      by_cases h4 : nF ≤ 4
      · have h4' : (nF : Int) ≤ 4 := by omega
        go_wp2_with fail
        refine (pgadd_any B base A1 c1 (ps ++ new) ⟨FA2, nF, cF, F, KA2, nK, cK, K⟩ wc HSt.out.wr (by have := HBs.out; omega) (by rw [List.length_append]; omega)).mono ?_
        rintro e w14 ⟨rfl, A6, c6, hw6, hat6, hk6⟩
        have hr6 := WrR.of_add HSt.out.wr hw6 hk6 (by rw [List.length_append]; exact hat6)
        have hd6 := HSt.out.one HBs.out (by rw [← HnF.out]; exact h4) hK6 HIns.out hw6 hr6
        have hRx := hr6.block (b + 1) (lt_of_heap HSt.out.res) (by have := HBs.out; omega) (fun ho => by obtain ⟨cur, h2⟩ := own_heap HSt.out.wr.own (HSt.out.wr.ownB ho); rw [HSt.out.res] at h2; cases h2)
        have hR6 := hRx.trans HSt.out.res
        have haw6 : Away B (b + 1) wc := ⟨lt_of_heap HSt.out.res, by have := HBs.out; omega, fun ho => by obtain ⟨cur, h2⟩ := own_heap HSt.out.wr.own (HSt.out.wr.ownB ho); rw [HSt.out.res] at h2; cases h2⟩
        have HD6 := hidp hd6
        have HAw6 := hidp (haw6.turn hr6)
        have HR6 := hidp hR6
        have r0 := cell_of_heap (o := 0) hR6
        have r1 := cell_of_heap (o := 1) hR6
        have r2 := cell_of_heap (o := 2) hR6
        have r3 := frozen_of_heap (o := 0) hR6
        have r4 := frozen_of_heap (o := 1) hR6
        have r5 := frozen_of_heap (o := 2) hR6
        have r8 := lt_of_heap hR6
        simp only [List.getElem?_toArray, List.getElem?_cons_zero, List.getElem?_cons_succ] at r0 r1 r2
        clear hw6 hat6 hk6 hr6 hd6 hRx hR6 haw6 q0 q1 q8
        go_wp2_with fail
        have hO : Only (b + 1) w14 (((w14.setCell ⟨b + 1, 0, none⟩ (.int .i64 (ps.length + new.length))).setCell ⟨b + 1, 1, none⟩ (.int .i64 0)).setCell ⟨b + 1, 2, none⟩ (.pointer none)) := ((Only.setCell _ _ _ _).trans (Only.setCell _ _ _ _)).trans (Only.setCell _ _ _ _)
        have hE := heap_setN (heap_setN (heap_setN HR6.out 0 (.int .i64 (ps.length + new.length))) 1 (.int .i64 0)) 2 (.pointer none)
        have s0 := cell_of_heap (o := 0) hE
        have s1 := cell_of_heap (o := 1) hE
        have s2 := cell_of_heap (o := 2) hE
        simp at s0 s1 s2
        refine bodyPost_ret (v := .agg #[.int .i64 (ps.length + new.length), .int .i64 0, .pointer none]) (by simp [results, Tryz.results45, go_sem, s0, s1, s2]) rfl ?_
        refine ⟨_, _, _, _, _, _, _, ?_, insDone_only HD6.out hO HR6.out HAw6.out (by have := HBs.out; omega) HPs0.out⟩
        unfold grV
        simp
      · obtain rfl : nF = 5 := by have := HnF.out; omega
        have h4' : ¬ (((5 : Nat) : Int) ≤ 4) := by omega
        obtain ⟨GF, rfl⟩ : ∃ G, FA2 = some ⟨G, 0, none⟩ := by
          rcases HSt.out.oF.2 with ⟨h1, h2⟩ | ⟨G, cap, cur, h1, _⟩
          · cases h1
          · cases h1; exact ⟨G, rfl⟩
        have hGFo : (Value.slice (some ⟨GF, 0, none⟩) 5 cF).ownBlock = some GF := rfl
        obtain ⟨mid, hmid⟩ : ∃ m, F[2]? = some m := ⟨_, List.getElem?_eq_getElem (by have := HnF.out; omega)⟩
        have HMid := hidp hmid
        obtain ⟨A3, c3, e3, hFr, _⟩ := own_slice fEnc_len (by decide) HSt.out.oF
        injection e3 with e1 e2 e3
        subst e1 e3
        have hfc : ∀ j u, (fEnc mid)[j]? = some u → wc.cell? ⟨GF, 16 + j, none⟩ = some u := by
          obtain ⟨b5, off5, x5, cs5, e5, _, hx5, rfl, hc5⟩ := hFr.get (i := 2) (by omega)
          injection e5 with e5
          injection e5 with e5 e6
          subst e5 e6
          rw [hmid] at hx5; cases hx5
          intro j u hj
          have := hc5 j u hj
          simpa using this
        have m0 := hfc 0 _ rfl
        have m1 := hfc 1 _ rfl
        have m2 := hfc 2 _ rfl
        have m3 := hfc 3 _ rfl
        have m4 := hfc 4 _ rfl
        have m5 := hfc 5 _ rfl
        have m6 := hfc 6 _ rfl
        have m7 := hfc 7 _ rfl
        simp only [Nat.add_zero, Nat.reduceAdd] at m0 m1 m2 m3 m4 m5 m6 m7
        have m8 := lt_of_cell m0
        have hi3 : ∀ W, (Instr.slice 28 (.slice (some ⟨GF, 0, none⟩) 5 cF) (some (.int .i64 3)) none none).run Tryz.prog W = .ok (.slice (some ⟨GF, 24, none⟩) 2 (cF - 3)) W := fun W => by
          obtain ⟨i0, hi, hz, hs, hb⟩ := info_parts fInfo
          have := run_cut_low W (P := Tryz.prog) Tryz.underlying28 hi (some ⟨GF, 0, none⟩) 5 cF 3 .i64 3 rfl (by omega)
          rw [this, hs, cutA, if_neg (by omega)]
          simp [addr_add]
        have hc2 : (2 : Int) ≤ cF := by omega
        clear hmid hfc hFr
        have HT13 : Hid (Below wc.heap.size wc wc) := Below.refl _ _
        go_upto_region 13 with fail
        go_cut [12, 13, 14] (fun s12 s13 s14 wx => ∃ X12 X13 X14, s12 = .pointer (some ⟨X12, 0, none⟩) ∧ s13 = .pointer (some ⟨X13, 0, none⟩) ∧ s14 = .pointer (some ⟨X14, 0, none⟩) ∧ SplSt wc wx GF cF (fEnc mid) (.slice none 0 0) (.slice none 0 0) X12 X13 X14)
        case first =>
          go_region_held3 (fun w' => w'.cell? ⟨X8, 0, none⟩ = some (.slice (some ⟨GF, 0, none⟩) 5 cF) ∧ w'.cell? ⟨GF, 16, none⟩ = some (.int .i64 mid.key.kind) ∧ w'.cell? ⟨GF, 17, none⟩ = some (.int .i64 mid.key.subj) ∧ w'.cell? ⟨GF, 18, none⟩ = some (.int .i64 mid.key.obj) ∧ w'.cell? ⟨GF, 19, none⟩ = some (.int .i64 mid.val) ∧ w'.cell? ⟨GF, 20, none⟩ = some (.int .i64 mid.fr) ∧ w'.cell? ⟨GF, 21, none⟩ = some (.int .i64 mid.to) ∧ w'.cell? ⟨GF, 22, none⟩ = some (.int .i64 mid.known) ∧ w'.cell? ⟨GF, 23, none⟩ = some (.int .i64 mid.no)) (first | (refine ⟨cellB ?_ q0, cellB ?_ m0, cellB ?_ m1, cellB ?_ m2, cellB ?_ m3, cellB ?_ m4, cellB ?_ m5, cellB ?_ m6, cellB ?_ m7⟩ <;> (repeat (first | exact Below.refl _ _ | refine Below.drew ?_ | refine Below.alloc ?_ (by simp <;> omega) _ | refine Below.setCell ?_ (by simp <;> omega) _)))) (first | fail)
          all_goals (go_wp2_with fail)
          all_goals go_meet
          all_goals (refine ⟨_, _, _, rfl, rfl, rfl, ⟨alloc3.2.2.2, by omega, by omega, by omega, ?_, ?_, ?_, by omega⟩⟩)
          all_goals (first | exact alloc3.1 | exact alloc3.2.1 | exact alloc3.2.2.1)
        case rest =>
        obtain ⟨X12, X13, X14, rfl, rfl, rfl, sp⟩ := hcut
        rename World => wd
        have st2 := HSt.out.later HBs.out sp.below
        have HSt2 := hidp st2
        have HSp := hidp sp
        have hz2 := sp.below.size
        have l12 := sp.l12
        have l13 := sp.l13
        have l14 := sp.l14
        have hne := sp.ne
        clear q0 q1 q8 m0 m1 m2 m3 m4 m5 m6 m7 m8 hi3 HT13
        have q0 := cell_of_heap (o := 0) st2.box
        have q1 := cell_of_heap (o := 1) st2.box
        have q8 := lt_of_heap st2.box
        simp only [List.getElem?_toArray, List.getElem?_cons_zero, List.getElem?_cons_succ] at q0 q1
        have sp12 := HSp.out.b12
        have sp13 := HSp.out.b13
        have x0 := cell_of_heap (o := 0) sp12
        have x1 := cell_of_heap (o := 1) sp12
        have x2 := lt_of_heap sp12
        have x3 := frozen_of_heap (o := 1) sp12
        have y0 := cell_of_heap (o := 0) sp13
        have y1 := cell_of_heap (o := 1) sp13
        have y2 := lt_of_heap sp13
        have y3 := frozen_of_heap (o := 1) sp13
        simp only [List.getElem?_toArray, List.getElem?_cons_zero, List.getElem?_cons_succ] at x0 x1 y0 y1
        clear st2 sp sp12 sp13
        go_upto_if 106 with fail
        go_cut [] (fun wx => ∃ kA1 kn1 kc1 kA2 kn2 kc2, SplSt wc wx GF cF (fEnc mid) (.slice kA1 kn1 kc1) (.slice kA2 kn2 kc2) X12 X13 X14 ∧ iSl wc wc.heap.size kA1 kn1 kc1 (K.take 3) ∧ iSl wc wc.heap.size kA2 kn2 kc2 (K.drop 3) ∧ (∀ x off, kA1 = some ⟨x, off, none⟩ → (Value.slice KA2 nK cK).ownBlock = some x) ∧ (∀ x off, kA2 = some ⟨x, off, none⟩ → (Value.slice KA2 nK cK).ownBlock = some x))
        case first =>
          by_cases hk0 : nK = 0
          · have hkb : ¬ ((0 : Int) < nK) := by omega
            have HK0 := hidp hk0
            clear hk0
            go_wp2_with fail
            go_meet
            have hKe : K = [] := List.eq_nil_of_length_eq_zero (by rw [← HnK.out]; exact HK0.out)
            refine ⟨none, 0, 0, none, 0, 0, HSp.out, ?_, ?_, (fun x off e => by cases e), (fun x off e => by cases e)⟩
            · rw [hKe]; exact Rows.nil (by omega)
            · rw [hKe]; exact Rows.nil (by omega)
          · obtain rfl : nK = 6 := by have := HnK.out; have := HnF.out; omega
            have hkb : (0 : Int) < ((6 : Nat) : Int) := by omega
            obtain ⟨GK, rfl⟩ : ∃ G, KA2 = some ⟨G, 0, none⟩ := by
              rcases HSt.out.oK.2 with ⟨h1, h2⟩ | ⟨G, cap, cur, h1, _⟩
              · cases h1
              · cases h1; exact ⟨G, rfl⟩
            obtain ⟨A3, c3, e3, hKr, hKo⟩ := own_slice iEnc_len (by decide) HSt.out.oK
            injection e3 with e1 e2 e3
            subst e1 e3
            have hc3 : (3 : Int) ≤ cK := by omega
            have hi3 : ∀ W, (Instr.slice 23 (.slice (some ⟨GK, 0, none⟩) 6 cK) (some (.int .i64 3)) none none).run Tryz.prog W = .ok (.slice (some ⟨GK, 3, none⟩) 3 (cK - 3)) W := fun W => by
              obtain ⟨i0, hi, hz, hs, hb⟩ := info_parts iInfo
              have := run_cut_low W (P := Tryz.prog) Tryz.underlying23 hi (some ⟨GK, 0, none⟩) 6 cK 3 .i64 3 rfl (by omega)
              rw [this, hs, cutA, if_neg (by omega)]
              simp [addr_add]
            have hlX8 := lt_of_heap HSt.out.box
            have hx8 : X12 ≠ X8 := by omega
            have hx9 : X13 ≠ X8 := by omega
            have hx10 : X13 ≠ X12 := fun e => hne e.symm
            have hr1 := rows_sub hKr 0 3 3 (by omega) (by omega) (by omega)
            have hr2 := rows_sub hKr 3 3 (cK - 3) (by omega) (by omega) (by omega)
            rw [List.take_of_length_le (by rw [List.length_drop]; have := HnK.out; omega)] at hr2
            have HR1 := hidp hr1
            have HR2 := hidp hr2
            have HKo := hidp hKo
            clear hr1 hr2 hKr hKo
            go_upto_region 15 with fail
            go_region_held3 (fun w' => w'.cell? ⟨X8, 1, none⟩ = some (.slice (some ⟨GK, 0, none⟩) 6 cK)) (first | go_keep) (first | fail)
            go_wp2_with fail
            go_meet
            exact ⟨_, _, _, _, _, _, HSp.out.kids _ _, by simpa using HR1.out, by simpa using HR2.out, (fun x off e => by cases e; rfl), (fun x off e => by cases e; rfl)⟩
        case rest =>
        obtain ⟨kA1, kn1, kc1, kA2, kn2, kc2, sp, hk1, hk2, ho1, ho2⟩ := hcut
        rename World => we
        have hBw : B < wc.heap.size := hBc
        have hwe := HSt.out.wr.below sp.below
        have HWe := hidp hwe
        have a12 : Away B X12 we := Away.new HSt.out.wr sp.below sp.l12 (lt_of_heap sp.b12)
        have a13 : Away B X13 we := Away.new HSt.out.wr sp.below sp.l13 (lt_of_heap sp.b13)
        have aR : Away B (b + 1) we := by
          have : Away B (b + 1) wc := ⟨lt_of_heap HSt.out.res, by have := HBs.out; omega, fun ho => by obtain ⟨cur, h2⟩ := own_heap HSt.out.wr.own (HSt.out.wr.ownB ho); rw [HSt.out.res] at h2; cases h2⟩
          exact this.turn (.of_below hBc sp.below)
        have gR : we.heap[b + 1]? = some (.cells #[.int .i64 0, .int .i64 0, .pointer none] 101 (0, 0)) := (sp.below.block _ (lt_of_heap HSt.out.res)).trans HSt.out.res
        have HC : Hid (∀ W, WrR B we W → (W.cell? ⟨X12, 0, none⟩ = some (.slice (some ⟨GF, 0, none⟩) 2 2) ∧ W.cell? ⟨X12, 1, none⟩ = some (.slice kA1 kn1 kc1) ∧ W.cell? ⟨X13, 0, none⟩ = some (.slice (some ⟨GF, 24, none⟩) 2 (cF - 3)) ∧ W.cell? ⟨X13, 1, none⟩ = some (.slice kA2 kn2 kc2))) := fun W h => by
          have h1 := (a12.same h).trans sp.b12
          have h2 := (a13.same h).trans sp.b13
          have z0 := cell_of_heap (o := 0) h1
          have z1 := cell_of_heap (o := 1) h1
          have z2 := cell_of_heap (o := 0) h2
          have z3 := cell_of_heap (o := 1) h2
          simp only [List.getElem?_toArray, List.getElem?_cons_zero, List.getElem?_cons_succ] at z0 z1 z2 z3
          exact ⟨z0, z1, z2, z3⟩
        have hx1 : X12 ≠ b + 1 := by have := HBs.out; have := lt_of_heap HSt.out.res; omega
        have hx2 : X13 ≠ b + 1 := by have := HBs.out; have := lt_of_heap HSt.out.res; omega
        have HC3 : Hid (∀ W v0 v1 v2, WrR B we W → ((((W.setCell ⟨b + 1, 0, none⟩ v0).setCell ⟨b + 1, 1, none⟩ v1).setCell ⟨b + 1, 2, none⟩ v2).cell? ⟨X12, 0, none⟩ = some (.slice (some ⟨GF, 0, none⟩) 2 2) ∧ (((W.setCell ⟨b + 1, 0, none⟩ v0).setCell ⟨b + 1, 1, none⟩ v1).setCell ⟨b + 1, 2, none⟩ v2).cell? ⟨X12, 1, none⟩ = some (.slice kA1 kn1 kc1) ∧ (((W.setCell ⟨b + 1, 0, none⟩ v0).setCell ⟨b + 1, 1, none⟩ v1).setCell ⟨b + 1, 2, none⟩ v2).cell? ⟨X13, 0, none⟩ = some (.slice (some ⟨GF, 24, none⟩) 2 (cF - 3)) ∧ (((W.setCell ⟨b + 1, 0, none⟩ v0).setCell ⟨b + 1, 1, none⟩ v1).setCell ⟨b + 1, 2, none⟩ v2).cell? ⟨X13, 1, none⟩ = some (.slice kA2 kn2 kc2))) := fun W v0 v1 v2 h => by
          obtain ⟨z0, z1, z2, z3⟩ := HC.out W h
          have e : ∀ x o, x ≠ b + 1 → (((W.setCell ⟨b + 1, 0, none⟩ v0).setCell ⟨b + 1, 1, none⟩ v1).setCell ⟨b + 1, 2, none⟩ v2).cell? ⟨x, o, none⟩ = W.cell? ⟨x, o, none⟩ := fun x o hx => World.cell?_of_block (w := W) (a := ⟨x, o, none⟩) (heap_set_ne (heap_set_ne (heap_set_ne rfl hx _ _) hx _ _) hx _ _)
          rw [e _ _ hx1, e _ _ hx1, e _ _ hx2, e _ _ hx2]
          exact ⟨z0, z1, z2, z3⟩
        have HR : Hid (∀ W, WrR B we W → W.heap[b + 1]? = some (.cells #[.int .i64 0, .int .i64 0, .pointer none] 101 (0, 0)) ∧ Away B (b + 1) W) := fun W h => ⟨(aR.same h).trans gR, aR.turn h⟩
        have HD0 : Hid (Below we.heap.size we we.drew) := (Below.refl _ _).drew
        have hsze : w.heap.size ≤ we.heap.size := Nat.le_trans hsz1 sp.below.size
        have hBe := lt_of_heap hwe.box
        have HSpE := hidp sp
        have HK1 := hidp hk1
        have HK2 := hidp hk2
        have HO1 := hidp ho1
        have HO2 := hidp ho2
        obtain ⟨z0, z1, z2, z3⟩ := HC.out we (.of_below hBe (Below.refl _ _))
        have z4 := lt_of_heap sp.b12
        have z5 := lt_of_heap sp.b13
        clear q0 q1 q8 x0 x1 x2 x3 y0 y1 y2 y3 hk1 hk2 ho1 ho2 sp hwe a12 a13 aR gR
        have hb' : base ≤ we.heap.size := by have := HBs.out; omega
        have hlen1 : (ps ++ new).length ≤ 1000000 := by rw [List.length_append]; omega
        have hlen2 : (ps ++ new ++ [(⟨some ⟨GF, 0, none⟩, 2, 2, F.take 2, kA1, kn1, kc1, K.take 3⟩ : Pq)]).length ≤ 1000000 := by simp; omega
        go_upto_region 16 with fail
        go_region_held3 (fun w' => w'.cell? ⟨X12, 0, none⟩ = some (.slice (some ⟨GF, 0, none⟩) 2 2) ∧ w'.cell? ⟨X12, 1, none⟩ = some (.slice kA1 kn1 kc1) ∧ w'.cell? ⟨X13, 0, none⟩ = some (.slice (some ⟨GF, 24, none⟩) 2 (cF - 3)) ∧ w'.cell? ⟨X13, 1, none⟩ = some (.slice kA2 kn2 kc2))
          (first | exact HC.out _ HRr2.out | exact HC3.out _ _ _ _ HRr2.out | exact HC.out _ HRr1.out | exact HC.out _ (.of_below hBe HD0.out))
          (first
            | (go_at_call 46; refine (pgadd_any B base A6 c6 (ps ++ new ++ [⟨some ⟨GF, 0, none⟩, 2, 2, F.take 2, kA1, kn1, kc1, K.take 3⟩]) ⟨some ⟨GF, 24, none⟩, 2, cF - 3, F.drop 3, kA2, kn2, kc2, K.drop 3⟩ w1 HW6.out hb6 hlen2).mono ?_; rintro e w2 ⟨rfl, A7, c7, hw7, hat7, hk7⟩; have hrr2 : WrR B we w2 := HRr1.out.trans (WrR.of_add HW6.out hw7 hk7 (by simpa [Nat.add_assoc] using hat7)); have HW7 := hidp hw7; have HRr2 := hidp hrr2; clear hw7 hat7 hk7; have r0 := cell_of_heap (o := 0) (HR.out w2 HRr2.out).1; have r1 := cell_of_heap (o := 1) (HR.out w2 HRr2.out).1; have r2 := cell_of_heap (o := 2) (HR.out w2 HRr2.out).1; have r3 := frozen_of_heap (o := 0) (HR.out w2 HRr2.out).1; have r4 := frozen_of_heap (o := 1) (HR.out w2 HRr2.out).1; have r5 := frozen_of_heap (o := 2) (HR.out w2 HRr2.out).1; have r8 := lt_of_heap (HR.out w2 HRr2.out).1; simp only [List.getElem?_toArray, List.getElem?_cons_zero, List.getElem?_cons_succ] at r0 r1 r2)
            | (go_at_call 46; refine (pgadd_any B base A1 c1 (ps ++ new) ⟨some ⟨GF, 0, none⟩, 2, 2, F.take 2, kA1, kn1, kc1, K.take 3⟩ we.drew (HWe.out.below HD0.out) hb' hlen1).mono ?_; rintro e w1 ⟨rfl, A6, c6, hw6, hat6, hk6⟩; have hrr1 : WrR B we w1 := (WrR.of_below hBe HD0.out).trans (WrR.of_add (HWe.out.below HD0.out) hw6 hk6 (by simpa [Nat.add_assoc] using hat6)); have hb6 : base ≤ w1.heap.size := Nat.le_trans hb' hrr1.size; have HW6 := hidp hw6; have HRr1 := hidp hrr1; clear hw6 hat6 hk6))
        have hd7 := HSt.out.two HBs.out HIns.out HMid.out hcF.2 (by omega) HSpE.out HK1.out HK2.out hK6 HO1.out HO2.out (A2 := A7) (c2 := c7) (by have := HW7.out; rw [List.append_assoc (ps ++ new)] at this; exact this) HRr2.out
        have HD7 := hidp hd7
        have hO : Only (b + 1) w2 (((w2.setCell ⟨b + 1, 0, none⟩ (.int .i64 (ps.length + new.length))).setCell ⟨b + 1, 1, none⟩ (.int .i64 (ps.length + (new.length + 1)))).setCell ⟨b + 1, 2, none⟩ (.pointer (some ⟨X14, 0, none⟩))) := ((Only.setCell _ _ _ _).trans (Only.setCell _ _ _ _)).trans (Only.setCell _ _ _ _)
        have hE := heap_setN (heap_setN (heap_setN (HR.out w2 HRr2.out).1 0 (.int .i64 (ps.length + new.length))) 1 (.int .i64 (ps.length + (new.length + 1)))) 2 (.pointer (some ⟨X14, 0, none⟩))
        have s0 := cell_of_heap (o := 0) hE
        have s1 := cell_of_heap (o := 1) hE
        have s2 := cell_of_heap (o := 2) hE
        simp at s0 s1 s2
        clear hd7
        go_wp2_with fail
        refine bodyPost_ret (v := .agg #[.int .i64 (ps.length + new.length), .int .i64 (ps.length + (new.length + 1)), .pointer (some ⟨X14, 0, none⟩)]) (by simp [results, Tryz.results45, go_sem, s0, s1, s2]) rfl ?_
        refine ⟨_, _, _, _, _, _, _, ?_, insDone_only HD7.out hO (HR.out w2 HRr2.out).1 (HR.out w2 HRr2.out).2 (by have := HBs.out; omega) HPs0.out⟩
        unfold grV
        simp [Int.add_assoc]
end Go.Proofs.YtbegdcjofnfkiaaGreatDoor
