/- facts.Changed walked. -/
import Derived.Test.YtoalmffhiinbbaaF28
import Derived.Test.YtoalmffhiinbbaaF24
import Derived.Test.YtoalmffhiinbbaaF17
import Derived.Test.YtoalmffhiinbbaaRelT
namespace Go.Proofs.Ytoalmffhiinbbaa
open Go.RowKit Go.Shelf Go.Sort

theorem diffB_val (l : List Fc) (k : Ky) (b a t : Int) : diffB l k b a t = !(valF l k t b == valF l k t a) := by
  unfold diffB valF
  rcases h1 : atF l k t b with _ | v <;> rcases h2 : atF l k t a with _ | u
  · simp
  · have := atF_nonneg h2
    simp; omega
  · have := atF_nonneg h1
    simp; omega
  · simp
    by_cases h : v = u <;> simp [h]
def rowPtr (n : Nat) : VT := fun v w => ∃ B, v = .pointer (some ⟨B, 0, none⟩) ∧ n ≤ B ∧ w.heap[B]? = some (.cells Try.zeroCells70 70 (0, 0))
theorem rowPtr_stable (n : Nat) : (rowPtr n).Stable := by
  rintro v w w' hb ⟨B, rfl, h1, h2⟩
  exact ⟨B, rfl, h1, (hb.block _ (lt_of_heap h2)).trans h2⟩
set_option maxRecDepth 100000 in
set_option maxHeartbeats 2000000 in
theorem fChanged_any (A : Option Addr) (n c : Nat) (l : List Fc) (before after : Int) (w : World) (hl : fSl w w.heap.size A n c l) (hn : n ≤ 1000000) :
    Calls Try.prog 24 #[.slice A n c, .int .i64 before, .int .i64 after] w (ChPost (changedF l before after) w) := by
  obtain ⟨i0, hi, hz, hs, hbb⟩ := info_parts cInfo
  obtain ⟨j0, hji, hjz, hjs, hjb⟩ := info_parts sInfo
  have hmm := @run_makeMap Try.prog
  obtain ⟨W0, hW0⟩ : ∃ W0, w.alloc (.map #[] 0) = W0 := ⟨_, rfl⟩
  have hkm0 : KM kV W0 w.heap.size ([] : List Ky) := hW0 ▸ KM.made w
  have hb0 : Below w.heap.size w W0 := hW0 ▸ (Below.refl _ w).alloc (Nat.le_refl _) _
  have HW0 := hidp hW0
  have hlen := hl.2.1
  have hcap := hl.2.2.1
  have HN := hidp hl.1
  clear hW0
  go_enter Try.func24, Try.ntmps24
  go_wp2_with fail
  rw [HW0.out]
  go_loopw [9, 20] (fun _ i wr => ∃ k : Nat, k ≤ n ∧ i = .int .i64 k ∧ KM kV wr w.heap.size (addKeys (l.take k)) ∧ Below w.heap.size w wr) (fun _ i _ => n - (intOf i).toNat)
  case atStart => exact ⟨0, by omega, rfl, hkm0, hb0⟩
  case round =>
    obtain ⟨k, hk, rfl, hkm, hbe⟩ := hrel
    have HKM := hidp hkm
    clear hkm hkm0 hb0
    by_cases hlt : k < n
    · obtain ⟨b, off, x, rfl, hb, hzk, c0, c1, c2, c3, c4, c5, c6, c7⟩ := fSl.get (hl.keep fStable (Nat.le_refl _) hbe.block) hlt
      have HZ := hidp hzk
      have hkn : (k : Int) < n := by omega
      have hbl := lt_of_cell c0
      have hkm2 : KM kV (wr.alloc (.cells #[.int .i64 x.key.kind, .int .i64 x.key.subj, .int .i64 x.key.obj, .int .i64 x.val, .int .i64 x.fr, .int .i64 x.to, .int .i64 x.known, .int .i64 x.no] 28)) w.heap.size (addKeys (l.take k)) := HKM.out.keep (Below.heap_alloc _ _ _ HKM.out.lt)
      obtain ⟨w2, hup, hkm3, hg, hsz⟩ := km_update (P := Try.prog) k_ops hkm2 x.key
      have hb2 : Below w.heap.size w w2 := (hbe.alloc hbe.size _).grown hg (by have := hbe.size; simp; omega) (fun g e => by cases e; exact Nat.le_refl _)
      have HKM3 := hidp hkm3
      have HTk : Hid (addKeys (l.take (k + 1)) = addKey (addKeys (l.take k)) x.key) := addKeys_step hzk
      clear hzk hkm2 hkm3 hg hsz
      simp only [kV] at hup
      go_wp2_with fail
      go_roundw
      case rel => exact ⟨k + 1, by omega, by go_num, by rw [HTk.out]; exact HKM3.out, hb2⟩
      case measure => simp [intOf]; omega
    · obtain rfl : n = k := by omega
      have HT : Hid (l.take n = l) := List.take_of_length_le (by rw [← HN.out]; omega)
      have HKM2 : Hid (KM kV wr w.heap.size (addKeys l)) := by have := HKM.out; rw [HT.out] at this; exact this
      clear HKM
      go_wp2_with fail
      refine (keys_any _ _).mono ?_
      rintro e w1 ⟨rfl, hw1⟩
      have hm1 : w1.heap[wr.heap.size]? = some (.cells #[.map (some w.heap.size)] 72 (0, 0)) := by rw [← hw1]; exact World.alloc_heap_new _ _
      have hkm1 : KM kV w1 w.heap.size (addKeys l) := by rw [← hw1]; exact HKM2.out.keep (Below.heap_alloc _ _ _ HKM2.out.lt)
      have hbw1 : Below w.heap.size w w1 := by rw [← hw1]; exact hbe.alloc hbe.size _
      have hlm := lt_of_heap hm1
      have hlk := hkm1.lt
      have hseq := keys1_seq wr.heap.size w.heap.size (addKeys l) w1 (cell_of_heap hm1) hkm1
      have HSq := hidp hseq
      clear hw1 hm1 hkm1 hseq
      go_wp2_with fail
      refine (sortedK_any 56 _ (enters_of Try.func56 (by kernel_rfl) rfl) _ _ w1 HSq.out (fun q h => by rcases h with h | h <;> omega) (fun xs h => by rw [h.length_eq]; have := addKeys_len l; have := HN.out; omega)).mono ?_
      rintro e w2 ⟨v, xs, d, rfl, hx, hp, hsd, ho, hb2⟩
      have hd : d = keysF l := sorted_keys hx hp hsd
      subst hd
      obtain ⟨ks, hkse⟩ : ∃ ks, keysF l = ks := ⟨_, rfl⟩
      have HKS := hidp hkse
      rw [hkse] at ho
      have hmk : ks.length ≤ 1000000 := by rw [← hkse, hp.length_eq, hx.length_eq]; have := addKeys_len l; have := HN.out; omega
      obtain ⟨mk, hmke⟩ : ∃ mk, ks.length = mk := ⟨_, rfl⟩
      rw [hmke] at ho hmk
      obtain ⟨AK, ck, rfl, hks⟩ := own_rows kEnc_len (by decide) ho
      have hB2 : Below w.heap.size w w2 := hbw1.trans (hb2.mono hbw1.size)
      have hlk2 := hks.2.1
      have hck2 := hks.2.2.1
      have HKs := hidp hks
      have HM := hidp hmke
      clear ho hkse hx hp hsd hb2 hlm hlk HSq HKM2 hbe hbw1 hks hmke hmm
      go_wp2_with fail
      go_loopw [6, 32] (fun out i wr => ∃ (k mo : Nat) (raw : List Cr), k ≤ mk ∧ i = .int .i64 k ∧ mo ≤ k ∧ wr.ownsRow w.heap.size 57 4 out mo (raw.flatMap cEnc) ∧ ChApart out raw ∧ (∀ r ∈ raw, 0 < r.2.2.1) ∧ ChOks wr raw (changedTo l before after (ks.take k)) ∧ kSl wr wr.heap.size AK mk ck ks ∧ (0 < mk → ∀ ad, AK = some ad → out.ownBlock ≠ some ad.block) ∧ Below w.heap.size w wr) (fun _ i _ => mk - (intOf i).toNat)
      case atStart => exact ⟨0, 0, [], by omega, rfl, by omega, World.ownsRow_nil _ _ _ _, fun r h => by simp at h, fun r h => by simp at h, ChOks.nil _, HKs.out, fun _ _ _ h => by simp [Value.ownBlock] at h, hB2⟩
      case round =>
        obtain ⟨k, mo, raw, hk, rfl, hmo, hown, hap, hpos, hchs, hksr, hke, hbe⟩ := hrel
        have HO := hidp hown
        have HA := hidp hap
        have HP := hidp hpos
        have HC := hidp hchs
        have HE := hidp hke
        clear hown hap hpos hchs hke hB2 HKs
        by_cases hlt : k < mk
        · obtain ⟨bk, ok, key, rfl, hbk, hzk, d0, d1, d2⟩ := kSl.get hksr hlt
          have HK := hidp hzk
          have hkn : (k : Int) < mk := by omega
          have hbkl := hbk
          clear hzk
          obtain ⟨wk, hwk⟩ : ∃ wk, wr.alloc (.cells #[.int .i64 key.kind, .int .i64 key.subj, .int .i64 key.obj] 24) = wk := ⟨_, rfl⟩
          have hbk1 : Below wr.heap.size wr wk := hwk ▸ (Below.refl _ wr).alloc (Nat.le_refl _) _
          have hkb : wk.heap[wr.heap.size]? = some (.cells #[.int .i64 key.kind, .int .i64 key.subj, .int .i64 key.obj] 24 (0, 0)) := hwk ▸ World.alloc_heap_new _ _
          have hwz : wr.heap.size < wk.heap.size := lt_of_heap hkb
          have hlk1 : ∀ W, Below wk.heap.size wk W → fSl W W.heap.size A n c l := fun W hW => (hl.keep fStable hbe.size hbe.block).keep fStable (Nat.le_trans hbk1.size hW.size) fun b hb => (hW.block b (by omega)).trans (hbk1.block b hb)
          have hkc : ∀ W, Below wk.heap.size wk W → W.cell? ⟨wr.heap.size, 0, none⟩ = some (.int .i64 key.kind) ∧ W.cell? ⟨wr.heap.size, 1, none⟩ = some (.int .i64 key.subj) ∧ W.cell? ⟨wr.heap.size, 2, none⟩ = some (.int .i64 key.obj) := fun W hW => by
            have h := (hW.block _ hwz).trans hkb
            exact ⟨cell_of_heap h, cell_of_heap h, cell_of_heap h⟩
          have HLK := hidp hlk1
          have HKC := hidp hkc
          have HBK := hidp hbk1
          have HKB := hidp hkb
          have HWK := hidp hwk
          clear hlk1 hkc hbk1 hkb hwk
          go_wp2_with fail
          clear d0 d1 d2
          rw [HWK.out]
          go_step3
          go_wp2_with fail
          refine wp_region_tail wk.heap.size 10 (fun j => j == 8 || j == 9) (Nat.le_refl _) (by kernel_rfl) (by kernel_rfl) (by kernel_rfl) ?_
          dsimp only [List.take, List.drop]
          refine relT_det (x := .slice A n c) ?_ ?_
          · intro w9 h9
            refine relAt_wanted (by rfl) ?_
            go_simp
            exact ⟨Below.refl _ _, rfl, by simp⟩
          try dsimp only [List.nil_append, List.cons_append]
          refine relT_det (x := .agg #[.int .i64 key.kind, .int .i64 key.subj, .int .i64 key.obj]) ?_ ?_
          · refine oblT_skip (by kernel_rfl) ?_
            intro w9 h9
            obtain ⟨e0, e1, e2⟩ := HKC.out w9 h9
            refine relAt_wanted (by rfl) ?_
            go_simp
            exact ⟨Below.refl _ _, rfl, by simp⟩
          try dsimp only [List.nil_append, List.cons_append]
          refine relT_det (x := .int .i64 before) ?_ ?_
          · iterate 2 refine oblT_skip (by kernel_rfl) ?_
            intro w9 h9
            refine relAt_wanted (by rfl) ?_
            go_simp
            exact ⟨Below.refl _ _, rfl, by simp⟩
          try dsimp only [List.nil_append, List.cons_append]
          refine relT_det (x := .agg (rowV l key before)) ?_ ?_
          · iterate 3 refine oblT_det (by kernel_rfl) ?_
            intro w9 h9
            refine relAt_wanted (by rfl) ?_
            go_simp
            refine (fvalues_any A n c l key before _ (HLK.out _ h9)).mono ?_
            rintro e w3 ⟨rfl, hb3⟩
            exact ⟨_, rfl, hb3, rfl, by simp⟩
          try dsimp only [List.nil_append, List.cons_append]
          refine relT_det (x := .slice A n c) ?_ ?_
          · iterate 4 refine oblT_skip (by kernel_rfl) ?_
            intro w9 h9
            refine relAt_wanted (by rfl) ?_
            go_simp
            exact ⟨Below.refl _ _, rfl, by simp⟩
          try dsimp only [List.nil_append, List.cons_append]
          refine relT_det (x := .agg #[.int .i64 key.kind, .int .i64 key.subj, .int .i64 key.obj]) ?_ ?_
          · iterate 5 refine oblT_skip (by kernel_rfl) ?_
            intro w9 h9
            obtain ⟨e0, e1, e2⟩ := HKC.out w9 h9
            refine relAt_wanted (by rfl) ?_
            go_simp
            exact ⟨Below.refl _ _, rfl, by simp⟩
          try dsimp only [List.nil_append, List.cons_append]
          refine relT_det (x := .int .i64 after) ?_ ?_
          · iterate 6 refine oblT_skip (by kernel_rfl) ?_
            intro w9 h9
            refine relAt_wanted (by rfl) ?_
            go_simp
            exact ⟨Below.refl _ _, rfl, by simp⟩
          try dsimp only [List.nil_append, List.cons_append]
          refine relT_det (x := .agg (rowV l key after)) ?_ ?_
          · iterate 4 refine oblT_skip (by kernel_rfl) ?_
            iterate 3 refine oblT_det (by kernel_rfl) ?_
            intro w9 h9
            refine relAt_wanted (by rfl) ?_
            go_simp
            refine (fvalues_any A n c l key after _ (HLK.out _ h9)).mono ?_
            rintro e w3 ⟨rfl, hb3⟩
            exact ⟨_, rfl, hb3, rfl, by simp⟩
          try dsimp only [List.nil_append, List.cons_append]
          refine relT_any (rowPtr wk.heap.size) (rowPtr_stable _) ?_ ?_
          · iterate 8 refine oblT_skip (by kernel_rfl) ?_
            intro w9 h9
            refine relAt_wanted (by rfl) ?_
            go_simp
            exact ⟨(Below.refl _ _).alloc (Nat.le_refl _) _, ⟨_, rfl, h9.size, World.alloc_heap_new _ _⟩, fun _ => ⟨_, rfl, Nat.le_refl _, by simp⟩⟩
          try dsimp only [List.nil_append, List.cons_append]
          refine relT_any (rowPtr wk.heap.size) (rowPtr_stable _) ?_ ?_
          · iterate 9 refine oblT_skip (by kernel_rfl) ?_
            intro w9 h9
            refine relAt_wanted (by rfl) ?_
            go_simp
            exact ⟨(Below.refl _ _).alloc (Nat.le_refl _) _, ⟨_, rfl, h9.size, World.alloc_heap_new _ _⟩, fun _ => ⟨_, rfl, Nat.le_refl _, by simp⟩⟩
          try dsimp only [List.nil_append, List.cons_append]
          iterate 8 refine finT_det (by rfl) ?_
          refine finT_fresh (by rfl) fun v12 => ?_
          refine finT_fresh (by rfl) fun v13 => ?_
          rintro w5 ⟨⟨hb5, ⟨B12, rfl, g12, h12⟩, -⟩, ⟨B13, rfl, g13, h13⟩, hne⟩
          have hne' : B13 ≠ B12 := by rintro rfl; simp at hne
          go_frame
          obtain ⟨R1, hR1⟩ : ∃ R, rowV l key before = R := ⟨_, rfl⟩
          obtain ⟨R2, hR2⟩ : ∃ R, rowV l key after = R := ⟨_, rfl⟩
          have hz1 := rowV_size l key before
          have hz2 := rowV_size l key after
          have ho1 := rowV_one l key before
          have ho2 := rowV_one l key after
          have ha1 := fun j hj => rowV_at l key before (j := j) hj
          have ha2 := fun j hj => rowV_at l key after (j := j) hj
          rw [hR1] at hz1 ho1 ha1
          rw [hR2] at hz2 ho2 ha2
          rw [hR1, hR2]
          have p1 : putAt Try.zeroCells70 0 R1.toList = R1 := by rw [putAt_all (by rw [zeros_row.1, Array.length_toList, hz1])]
          have p2 : putAt Try.zeroCells70 0 R2.toList = R2 := by rw [putAt_all (by rw [zeros_row.1, Array.length_toList, hz2])]
          have h13' : (w5.setRow B12 R1).heap[B13]? = some (.cells Try.zeroCells70 70 (0, 0)) := (setRow_other w5 B12 B13 R1 hne').trans h13
          refine wpList_store_at (vs := R1.toList) 70 (.tmp 12) (.tmp 39) rfl rfl rfl rfl h12 (by rw [Array.length_toList, hz1]; exact rowInfo) (by rw [Array.length_toList, hz1, zeros_row.1]; omega) ho1 ?_
          rw [p1]
          refine wpList_store_at (vs := R2.toList) 70 (.tmp 13) (.tmp 43) rfl rfl rfl rfl h13' (by rw [Array.length_toList, hz2]; exact rowInfo) (by rw [Array.length_toList, hz2, zeros_row.1]; omega) ho2 ?_
          rw [p2]
          have k12 : ((w5.setRow B12 R1).setRow B13 R2).heap[B12]? = some (.cells R1 70 (0, 0)) := (setRow_other _ B13 B12 R2 (by omega)).trans (setRow_heap _ _ _ _ _ _ h12)
          have k13 : ((w5.setRow B12 R1).setRow B13 R2).heap[B13]? = some (.cells R2 70 (0, 0)) := setRow_heap _ _ _ _ _ _ h13'
          have hb6 : Below wk.heap.size wk ((w5.setRow B12 R1).setRow B13 R2) := below_setRow (below_setRow hb5 g12 _) g13 _
          generalize ((w5.setRow B12 R1).setRow B13 R2) = wo at k12 k13 hb6 ⊢
          have hbo : Below w.heap.size w wo := hbe.trans ((HBK.out.trans (hb6.mono HBK.out.size)).mono hbe.size)
          have hbro : Below wr.heap.size wr wo := HBK.out.trans (hb6.mono HBK.out.size)
          have HK12 := hidp k12
          have HK13 := hidp k13
          have HA1 := hidp ha1
          have HA2 := hidp ha2
          have HB6 := hidp hb6
          have HBO := hidp hbo
          have HBRO := hidp hbro
          clear hR1 hR2 hz1 hz2 ho1 ho2 ha1 ha2 p1 p2 h13' h12 h13 k12 k13 hb6 hbo hbro hb5 hne hne' g12 g13
          go_wp2_with fail
          go_step3
          go_wp2_with fail
          go_loopw [14, 44] (fun tm t w2 => ∃ (z mt : Nat), z ≤ 1024 ∧ t = .int .i64 z ∧ mt = (spansTo l key before after z).length ∧ w2.ownsRow wo.heap.size 26 2 tm mt ((spansTo l key before after z).flatMap pEnc) ∧ Below wo.heap.size wo w2) (fun _ t _ => 1024 - (intOf t).toNat)
          case atStart => exact ⟨0, 0, by omega, rfl, rfl, World.ownsRow_nil _ _ _ _, Below.refl _ _⟩
          case round =>
            obtain ⟨z, mt, hzz, rfl, hmt, hown2, hb2⟩ := hrel
            have HT := hidp hmt
            have HO3 := hidp hown2
            have hmz : mt ≤ z := by rw [hmt]; exact spansTo_len _ _ _ _ _
            clear hmt hown2
            by_cases hlz : z < 1024
            · have hzl : (z : Int) < 1024 := by omega
              have hc1 : ∀ W, Below wo.heap.size wo W → W.cell? ⟨B12, z, none⟩ = some (.int .i64 (valF l key z before)) ∧ W.cell? ⟨B13, z, none⟩ = some (.int .i64 (valF l key z after)) := fun W hW =>
                ⟨(cell_of_heap ((hW.block _ (lt_of_heap HK12.out)).trans HK12.out)).trans (HA1.out z hlz), (cell_of_heap ((hW.block _ (lt_of_heap HK13.out)).trans HK13.out)).trans (HA2.out z hlz)⟩
              have HC1 := hidp hc1
              obtain ⟨V1, hV1⟩ : ∃ V, valF l key z before = V := ⟨_, rfl⟩
              obtain ⟨V2, hV2⟩ : ∃ V, valF l key z after = V := ⟨_, rfl⟩
              have HD : Hid (diffB l key before after z = !(V1 == V2)) := by show _ = _; rw [diffB_val, hV1, hV2]
              obtain ⟨eq, heq⟩ : ∃ b, (V1 == V2) = b := ⟨_, rfl⟩
              rw [hV1, hV2] at HC1
              have HE2 := hidp heq
              clear hV1 hV2 hc1
              go_wp2_with fail
              refine wp_region_below wr.heap.size (by kernel_rfl) (by kernel_rfl) ?_
              repeat
                refine q_step (by rfl) ?_
                apply Exists.intro
                refine ⟨fun w9 h9 => ?_, ?_⟩
                · obtain ⟨e1, e2⟩ := HC1.out w9 (hb2.trans (h9.mono hb2.size))
                  go_simp
                  first | done | rfl
                go_simp
              refine wpQuiet_nil ?_
              intro w3 hb3
              have hb23 := hb2.trans (hb3.mono hb2.size)
              have hown3 := own_stable _ _ _ _ _ _ _ _ hb3 HO3.out
              have HO4 := hidp hown3
              have hws := hb23.size
              clear hown3 hb3 heq
              cases eq
              · have HS : Hid (spansTo l key before after (z + 1) = joinT (spansTo l key before after z) z) := by show _ = _; rw [spansTo_step, HD.out, HE2.out]; rfl
                obtain ⟨S, hS⟩ : ∃ S, spansTo l key before after z = S := ⟨_, rfl⟩
                rw [hS] at HT HO4 HS
                obtain ⟨At, ct, rfl, rt⟩ := own_rows pEnc_len (by decide) HO4.out
                have hcapt := rt.2.2.1
                have hlent := rt.2.1
                obtain ⟨v', w5, hrun, hown', hg, hat⟩ := run_append_one (P := Try.prog) (ty := 55) (l := S) (enc := pEnc) (w := w3) (base := wo.heap.size) Try.underlying55 hji hjz hjs hjb rfl pEnc_len (by decide) pEnc_one HO4.out ((z : Int), (z : Int) + 1) (by omega) (by omega) hws
                have HO' := hidp hown'
                have HR0 := hidp hrun
                have hb5 : Below wo.heap.size wo w5 := (hb23.alloc hws _).grown hg (by simp; omega) (fun g e => (HO4.out.lt g e).1)
                have HB5 := hidp hb5
                clear hown' hg hat hrun hb5
                rcases Nat.eq_zero_or_pos mt with h0 | h0
                · subst h0
                  have HS0 : Hid (joinT S z = S ++ [((z : Int), (z : Int) + 1)]) := by
                    show _ = _; rw [List.eq_nil_of_length_eq_zero HT.out.symm]; rfl
                  go_wp2_with (at_builtin; refine wpList_append_known rfl (.tmp 77) (.tmp 82) 55 rfl rfl rfl HR0.out ?_)
                  go_roundw
                  case rel => exact ⟨z + 1, 0 + 1, by omega, by go_num, by rw [HS.out, HS0.out, List.length_append, ← HT.out]; rfl, by rw [HS.out, HS0.out]; exact HO'.out, HB5.out⟩
                  case measure => simp [intOf]; omega
                · obtain ⟨gt, offt, x, rfl, hgt, hxt, x0, x1⟩ := sSl.get rt (k := mt - 1) (by omega)
                  have hpd : decide (0 < mt) = true := by simpa using h0
                  have hpos : (1 : Int) ≤ mt := by omega
                  have hin1 : (mt : Int) - 1 < mt := by omega
                  have hwrap : IntKind.i64.wrap ((mt : Int) - 1) = (mt : Int) - 1 := IntWalk.i64_in _ (by omega)
                  have hto : ((mt : Int) - 1).toNat = mt - 1 := by omega
                  by_cases hx : x.2 = z
                  · have HS1 : Hid (joinT S z = S.set (mt - 1) (x.1, (z : Int) + 1)) := joinT_up (by rw [← HT.out]; omega) hxt hx
                    have HX := hidp hxt
                    obtain ⟨h00, hgw, rr, hrr⟩ := own_at HO4.out
                    have hfz := frozen_of_heap (o := offt + (mt - 1) * 2 + 1) hrr
                    have H00 := hidp h00
                    clear hxt hrr h00
                    go_wp2_with fail
                    go_roundw
                    case rel =>
                      obtain rfl := H00.out
                      rw [Nat.zero_add]
                      have hset := own_set pEnc_len HO4.out (by decide) HX.out (j := 1) (x' := (x.1, (z : Int) + 1)) (u := .int .i64 ((z : Int) + 1)) (by decide) rfl
                      refine ⟨z + 1, mt, by omega, by go_num, by rw [HS.out, HS1.out, List.length_set]; exact HT.out, by rw [HS.out, HS1.out]; exact hset, below_setCell hb23 hgw _⟩
                    case measure => simp [intOf]; omega
                  · have HS1 : Hid (joinT S z = S ++ [((z : Int), (z : Int) + 1)]) := joinT_new (by rw [← HT.out]; omega) hxt hx
                    clear hxt
                    go_wp2_with (at_builtin; refine wpList_append_known rfl (.tmp 77) (.tmp 82) 55 rfl rfl rfl HR0.out ?_)
                    go_roundw
                    case rel => exact ⟨z + 1, mt + 1, by omega, by go_num, by rw [HS.out, HS1.out, List.length_append, ← HT.out]; rfl, by rw [HS.out, HS1.out]; exact HO'.out, HB5.out⟩
                    case measure => simp [intOf]; omega
              · have HS : Hid (spansTo l key before after (z + 1) = spansTo l key before after z) := by show _ = _; rw [spansTo_step, HD.out, HE2.out]; rfl
                go_wp2_with fail
                go_roundw
                case rel => exact ⟨z + 1, mt, by omega, by go_num, by rw [HS.out]; exact HT.out, by rw [HS.out]; exact HO4.out, hb23⟩
                case measure => simp [intOf]; omega
            · obtain rfl : z = 1024 := by omega
              obtain ⟨S, hS⟩ : ∃ S, spansTo l key before after 1024 = S := ⟨_, rfl⟩
              have HS := hidp (show spansF l key before after = S from hS)
              rw [hS] at HT HO3
              clear hS
              obtain ⟨At, ct, rfl, rt⟩ := own_rows pEnc_len (by decide) HO3.out
              have hcapt := rt.2.2.1
              have hlent := rt.2.1
              have hbw := HBO.out.trans (hb2.mono HBO.out.size)
              have hob := HBRO.out.trans (hb2.mono HBRO.out.size)
              have hosz := HBRO.out.size
              have hownw := own_stable _ _ _ _ _ _ _ _ hob HO.out
              have HOw := hidp hownw
              have HCw := hidp (HC.out.below hob)
              have hksw := hksr.keep kStable hob.size hob.block
              clear hownw
              rcases Nat.eq_zero_or_pos mt with h0 | h0
              · subst h0
                have HTk : Hid (changedTo l before after (ks.take (k + 1)) = changedTo l before after (ks.take k)) := by
                  show _ = _; rw [take_snoc HK.out, changedTo_snoc, changeOf_no (by rw [HS.out]; exact List.eq_nil_of_length_eq_zero HT.out.symm), List.append_nil]
                go_wp2_with fail
                go_roundw
                case rel => exact ⟨k + 1, mo, raw, by omega, by go_num, by omega, HOw.out, HA.out, HP.out, by rw [HTk.out]; exact HCw.out, hksw, HE.out, hbw⟩
                case measure => simp [intOf]; omega
              · have HTk : Hid (changedTo l before after (ks.take (k + 1)) = changedTo l before after (ks.take k) ++ [(key, S)]) := by
                  show _ = _; rw [take_snoc HK.out, changedTo_snoc, changeOf_yes (by rw [HS.out]; intro h; have := HT.out; rw [h] at this; simp at this; omega), HS.out]
                obtain ⟨gt, offt, x, rfl, hgt, _⟩ := sSl.get rt (k := 0) h0
                obtain ⟨rfl, hgw, _⟩ := own_at HO3.out
                obtain ⟨e0, e1, e2⟩ := HKC.out wr (HB6.out.trans (hb2.mono HB6.out.size))
                have hws := hob.size
                obtain ⟨v', w5, hrun, hown', hg, hat⟩ := run_append_one (P := Try.prog) (ty := 46) (l := raw) (enc := cEnc) (w := wr) (base := w.heap.size) Try.underlying46 hi hz hs hbb rfl cEnc_len (by decide) cEnc_one HOw.out (key, some ⟨gt, 0, none⟩, mt, ct) (by omega) (by omega) hbw.size
                have hlu := fun g e => (HO.out.lt g e).2
                have hch5 : ChOks w5 (raw ++ [(key, some ⟨gt, 0, none⟩, mt, ct)]) (changedTo l before after (ks.take k) ++ [(key, S)]) := by
                  refine ((HCw.out.below ((Below.refl _ wr).alloc (Nat.le_refl _) _)).grown hg fun r hr ad e => HA.out r hr ad e).snoc ⟨rfl, ?_⟩
                  refine rows_keep_blk (rt.keep sStable (by simp) (fun b hb => Below.heap_alloc _ _ _ hb)) hg.size fun ad e hlt => hg.block _ hlt fun e' => ?_
                  cases e
                  have := hlu _ e'.symm
                  simp at this
                  omega
                have hap5 : ChApart v' (raw ++ [(key, some ⟨gt, 0, none⟩, mt, ct)]) := by
                  intro r hr ad e
                  rcases List.mem_append.1 hr with hr | hr
                  · rcases hat with h | h
                    · rw [h]; exact HA.out r hr ad e
                    · rw [h]
                      intro e'
                      injection e' with e'
                      have := HC.out.lt hr e (HP.out r hr)
                      omega
                  · simp at hr
                    subst hr
                    cases e
                    rcases hat with h | h
                    · rw [h]; intro e'; have := hlu _ e'; simp at this; omega
                    · rw [h]; intro e'; injection e' with e'; simp at e'; omega
                have hb5 : Below w.heap.size w w5 := (hbw.alloc hbw.size _).grown hg (by have := hbw.size; simp; omega) (fun g e => (HOw.out.lt g e).1)
                have hks5 : kSl w5 w5.heap.size (some ⟨bk, ok, none⟩) mk ck ks := by
                  refine rows_keep_blk (hksw.keep kStable (by simp) (fun b hb => Below.heap_alloc _ _ _ hb)) hg.size fun ad e hlt => hg.block _ hlt fun e' => ?_
                  exact HE.out (by omega) ad e e'.symm
                have hke5 : 0 < mk → ∀ ad, some (⟨bk, ok, none⟩ : Addr) = some ad → v'.ownBlock ≠ some ad.block := by
                  intro h0 ad e
                  rcases hat with h | h
                  · rw [h]; exact HE.out h0 ad e
                  · rw [h]; intro e'; injection e' with e'; cases e; simp at e'; omega
                have HE5 := hidp hke5
                have HO' := hidp hown'
                have HR0 := hidp hrun
                have HCH := hidp hch5
                have HAP := hidp hap5
                have HB5 := hidp hb5
                have HK5 := hidp hks5
                clear hown' hrun hch5 hap5 hb5 hks5 hke5 hg hat
                go_wp2_with (at_builtin; refine wpList_append_known rfl (.tmp 88) (.tmp 92) 46 rfl rfl rfl HR0.out ?_)
                go_roundw
                case rel => 
                  refine ⟨k + 1, mo + 1, raw ++ [(key, some ⟨gt, 0, none⟩, mt, ct)], by omega, by go_num, by omega, HO'.out, HAP.out, ?_, by rw [HTk.out]; exact HCH.out, HK5.out, HE5.out, HB5.out⟩
                  intro r hr
                  rcases List.mem_append.1 hr with hr | hr
                  · exact HP.out r hr
                  · simp at hr; subst hr; exact h0
                case measure => simp [intOf]; omega
        · obtain rfl : k = mk := by omega
          have HT : Hid (ks.take k = ks) := List.take_of_length_le (by rw [HM.out]; omega)
          obtain ⟨A5, c5, rfl, r5⟩ := own_rows cEnc_len (by decide) HO.out
          go_wp2_with fail
          go_ret
          refine ⟨A5, mo, c5, raw, rfl, r5, ?_, hbe⟩
          have := HC.out
          rw [HT.out, ← HKS.out] at this
          exact this
end Go.Proofs.Ytoalmffhiinbbaa
