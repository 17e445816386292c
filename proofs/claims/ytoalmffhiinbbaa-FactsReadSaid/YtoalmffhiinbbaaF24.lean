/- The reference's Changed walked. -/
import Derived.Test.YtoalmffhiinbbaaF23
namespace Go.Proofs.Ytoalmffhiinbbaa
open Go.RowKit Go.Shelf

theorem rows_keep_blk {α : Type} {k : Nat} {enc : α → List Value} {W W' : World} {n₀ n₁ : Nat} {A : Option Addr} {n c : Nat} {l : List α} (h : Rows k (Rep.flat enc) W n₀ A n c l) (hn : n₀ ≤ n₁) (hb : ∀ ad, A = some ad → ad.block < n₀ → W'.heap[ad.block]? = W.heap[ad.block]?) : Rows k (Rep.flat enc) W' n₁ A n c l := by
  refine ⟨h.1, h.2.1, h.2.2.1, fun hn' => ?_⟩
  obtain ⟨b, off, e, hlt, hx⟩ := h.2.2.2 hn'
  refine ⟨b, off, e, by omega, fun i x hi => ?_⟩
  obtain ⟨cs, h1, h2⟩ := hx i x hi
  have hblk : W'.heap[b]? = W.heap[b]? := hb _ e hlt
  exact ⟨cs, h1, fun j u hj => (World.cell?_of_block (w := W) (w' := W') (a := ⟨b, _, none⟩) hblk).trans (h2 j u hj)⟩
/-- The slices of the changes lie apart from the block of their own list. -/
def ChApart (out : Value) (raw : List Cr) : Prop := ∀ r ∈ raw, ∀ ad, r.2.1 = some ad → out.ownBlock ≠ some ad.block
theorem ChOks.grown {W W' : World} {raw : List Cr} {chs : List Ch} {row : Option Nat} (h : ChOks W raw chs) (hg : W.grownBy W' row) (hne : ∀ r ∈ raw, ∀ ad, r.2.1 = some ad → row ≠ some ad.block) : ChOks W' raw chs :=
  ⟨h.1, fun i r ch h1 h2 => ⟨(h.2 i r ch h1 h2).1, rows_keep_blk (h.2 i r ch h1 h2).2 hg.size fun ad e hlt => hg.block _ hlt fun e' => hne r (List.mem_of_getElem? h1) ad e e'.symm⟩⟩
theorem ChOks.lt {W : World} {raw : List Cr} {chs : List Ch} {r : Cr} {ad : Addr} (h : ChOks W raw chs) (hr : r ∈ raw) (ha : r.2.1 = some ad) (hn : 0 < r.2.2.1) : ad.block < W.heap.size := by
  obtain ⟨i, hi⟩ := List.mem_iff_getElem?.1 hr
  have hl : i < chs.length := by rw [← h.1]; exact (List.getElem?_eq_some_iff.1 hi).1
  obtain ⟨b, off, e, hlt, _⟩ := (h.2 i r _ hi (List.getElem?_eq_getElem hl)).2.2.2.2 hn
  rw [ha] at e
  cases e
  exact hlt
theorem below_setCell {m : Nat} {w0 w : World} {a : Addr} (hb : Below m w0 w) (hg : m ≤ a.block) (v : Value) : Below m w0 (w.setCell a v) :=
  hb.trans ⟨rfl, rfl, rfl, by simp [World.setCell], fun q hq => by simp [World.setCell, Array.getElem?_modify, show a.block ≠ q by omega]⟩
theorem own_at {w : World} {base n m cap b off k : Nat} {e : TypeId} {cs : List Value} (h : w.ownsRow base e k (.slice (some ⟨b, off, none⟩) n cap) m cs) : off = 0 ∧ base ≤ b ∧ ∃ r, w.heap[b]? = some (.cells r e (0, 0)) := by
  rcases h.2 with ⟨h, _⟩ | ⟨g, cap, cs, hv, hg, hh, _⟩
  · cases h
  · injection hv with e1
    injection e1 with e1
    injection e1 with e1 e2
    subst e1 e2
    exact ⟨rfl, hg, _, hh⟩

set_option maxRecDepth 100000 in
set_option maxHeartbeats 2000000 in
theorem rChanged_any (A : Option Addr) (n c : Nat) (l : List Fc) (before after : Int) (w : World) (hl : fSl w w.heap.size A n c l) (hn : n ≤ 1000000) :
    Calls Try.prog 25 #[.slice A n c, .int .i64 before, .int .i64 after] w (ChPost (changedF l before after) w) := by
  obtain ⟨i0, hi, hz, hs, hbb⟩ := info_parts cInfo
  obtain ⟨j0, hji, hjz, hjs, hjb⟩ := info_parts sInfo
  have hB1 : Below w.heap.size w (w.alloc (.cells #[] 57)) := (Below.refl _ w).alloc (Nat.le_refl _) _
  have hown0 := World.ownsRow_made (base := w.heap.size) (e := 57) (size := 4) w #[] 0 (Nat.le_refl _) (by decide) (by simp)
  have HB1 := hidp hB1
  have HOwn := hidp hown0
  clear hB1 hown0
  go_enter Try.func25, Try.ntmps25
  go_wp2_with fail
  refine (rKeys_any A n c l _ (hl.keep fStable (by simp) (fun b hb => Below.heap_alloc _ _ _ hb)) hn).mono ?_
  rintro e w1 ⟨AK, mk, ck, rfl, hks, hb1⟩
  have hBw1 := HB1.out.trans (hb1.mono (by simp))
  have hown1 := own_stable _ _ _ _ _ _ _ _ hb1 HOwn.out
  have hke : 0 < mk → ∀ ad, AK = some ad → Value.ownBlock (.slice (some ⟨w.heap.size, 0, none⟩) 0 0) ≠ some ad.block := by
    intro h0 ad e e'
    obtain ⟨b, off, _, rfl, _, _, c0, _⟩ := kSl.get hks h0
    cases e
    injection e' with e'
    have hh := (hb1.block w.heap.size (by simp)).trans (World.alloc_heap_new w (.cells #[] 57))
    simp only at e'
    rw [e'] at hh
    rw [cell_of_heap hh] at c0
    simp at c0
  have HKE := hidp hke
  have hml : mk ≤ n := by have h1 := keysTo_len l l.length; rw [keysTo, List.take_length, ← hks.1, ← hl.1] at h1; exact h1
  obtain ⟨ks, hkse⟩ : ∃ ks, keysF l = ks := ⟨_, rfl⟩
  have HKS := hidp hkse
  rw [hkse] at hks
  have HO1 := hidp hown1
  have hcap := hks.2.2.1
  have hlen := hks.2.1
  have HM := hidp hks.1
  clear hkse hown1 hb1 hke
  go_wp2_with fail
  go_loopw [7, 9, 10, 11, 12] (fun out i _ _ _ wr => ∃ (k mo : Nat) (raw : List Cr), k ≤ mk ∧ i = .int .i64 k ∧ mo ≤ k ∧ wr.ownsRow w.heap.size 57 4 out mo (raw.flatMap cEnc) ∧ ChApart out raw ∧ (∀ r ∈ raw, 0 < r.2.2.1) ∧ ChOks wr raw (changedTo l before after (ks.take k)) ∧ kSl wr wr.heap.size AK mk ck ks ∧ (0 < mk → ∀ ad, AK = some ad → out.ownBlock ≠ some ad.block) ∧ Below w.heap.size w wr) (fun _ i _ _ _ _ => mk - (intOf i).toNat)
  case atStart => exact ⟨0, 0, [], by omega, rfl, by omega, HO1.out, fun r h => by simp at h, fun r h => by simp at h, ChOks.nil _, hks, HKE.out, hBw1⟩
  case round =>
    obtain ⟨k, mo, raw, hk, rfl, hmo, hown, hap, hpos, hchs, hksr, hke, hbe⟩ := hrel
    have HO := hidp hown
    have HA := hidp hap
    have HP := hidp hpos
    have HC := hidp hchs
    have HE := hidp hke
    clear hown hap hpos hchs hks hke HO1 hBw1
    by_cases hlt : k < mk
    · obtain ⟨bk, ok, key, rfl, hbk, hzk, d0, d1, d2⟩ := kSl.get hksr hlt
      have HK := hidp hzk
      have hkn : (k : Int) < mk := by omega
      clear d0 d1 d2 hzk
      obtain ⟨wo, hwo⟩ : ∃ wo : World, wo = wr := ⟨_, rfl⟩
      have hown0 := World.ownsRow_made (base := wr.heap.size) (e := 26) (size := 2) wr #[] 0 (Nat.le_refl _) (by decide) (by simp)
      have hBs : Below wr.heap.size wr (wr.alloc (.cells #[] 26)) := (Below.refl _ wr).alloc (Nat.le_refl _) _
      have HO2 := hidp hown0
      have HB2 := hidp hBs
      clear hown0 hBs
      go_wp2_with fail
      subst hwo
      go_loopw [10, 11, 12] (fun tm t _ w2 => ∃ (z mt : Nat), z ≤ 1024 ∧ t = .int .i64 z ∧ mt = (spansTo l key before after z).length ∧ w2.ownsRow wo.heap.size 26 2 tm mt ((spansTo l key before after z).flatMap pEnc) ∧ Below wo.heap.size wo w2) (fun _ t _ _ => 1024 - (intOf t).toNat)
      case atStart => exact ⟨0, 0, by omega, rfl, rfl, HO2.out, HB2.out⟩
      case round =>
        obtain ⟨z, mt, hzz, rfl, hmt, hown2, hb2⟩ := hrel
        have HT := hidp hmt
        have HO3 := hidp hown2
        have hmz : mt ≤ z := by rw [hmt]; exact spansTo_len _ _ _ _ _
        clear hmt hown2
        by_cases hlz : z < 1024
        · have hbw := hbe.trans (hb2.mono hbe.size)
          obtain ⟨_, _, key', e, hbk', hzk', d0, d1, d2⟩ := kSl.get (hksr.keep kStable hb2.size hb2.block) hlt
          cases e
          cases HK.out.symm.trans hzk'
          clear hzk'
          go_wp2_with fail
          refine (rdiffers_any A n c l key z before after _ (hl.keep fStable hbw.size hbw.block)).mono ?_
          rintro e w3 ⟨rfl, hb3⟩
          obtain ⟨d, hd⟩ : ∃ d, diffB l key before after z = d := ⟨_, rfl⟩
          rw [hd]
          have HD := hidp hd
          have hown3 := own_stable _ _ _ _ _ _ _ _ hb3 HO3.out
          have hb23 := hb2.trans (hb3.mono hb2.size)
          have HO4 := hidp hown3
          have hws := hb23.size
          clear hd d0 d1 d2 hbw hown3 hb3
          cases d
          · have HS : Hid (spansTo l key before after (z + 1) = spansTo l key before after z) := by show _ = _; rw [spansTo_step, HD.out]; rfl
            go_wp2_with fail
            go_roundw
            case rel => exact ⟨z + 1, mt, by omega, by go_num, by rw [HS.out]; exact HT.out, by rw [HS.out]; exact HO4.out, hb23⟩
            case measure => simp [intOf]; omega
          · have HS : Hid (spansTo l key before after (z + 1) = joinT (spansTo l key before after z) z) := by show _ = _; rw [spansTo_step, HD.out]; rfl
            obtain ⟨S, hS⟩ : ∃ S, spansTo l key before after z = S := ⟨_, rfl⟩
            rw [hS] at HT HO4 HS
            obtain ⟨At, ct, rfl, rt⟩ := own_rows pEnc_len (by decide) HO4.out
            have hcapt := rt.2.2.1
            have hlent := rt.2.1
            obtain ⟨v', w5, hrun, hown', hg, hat⟩ := run_append_one (P := Try.prog) (ty := 55) (l := S) (enc := pEnc) (w := w3) (base := wo.heap.size) Try.underlying55 hji hjz hjs hjb rfl pEnc_len (by decide) pEnc_one HO4.out ((z : Int), (z : Int) + 1) (by omega) (by omega) hws
            have HO' := hidp hown'
            have HR0 := hidp hrun
            have hb5 : Below wo.heap.size wo w5 := (hb23.alloc hws _).grown hg (by simp; omega) (fun g e => (HO4.out.lt g e).1)
            have HB5 := hidp hb5
            clear hown' hg hat hrun hb5
            rcases Nat.eq_zero_or_pos mt with h0 | h0
            · subst h0
              have HS0 : Hid (joinT S z = S ++ [((z : Int), (z : Int) + 1)]) := by
                show _ = _; rw [List.eq_nil_of_length_eq_zero HT.out.symm]; rfl
              go_wp2_with (at_builtin; refine wpList_append_known rfl (.tmp 58) (.tmp 63) 55 rfl rfl rfl HR0.out ?_)
              go_roundw
              case rel => exact ⟨z + 1, 0 + 1, by omega, by go_num, by rw [HS.out, HS0.out, List.length_append, ← HT.out]; rfl, by rw [HS.out, HS0.out]; exact HO'.out, HB5.out⟩
              case measure => simp [intOf]; omega
            · obtain ⟨gt, offt, x, rfl, hgt, hxt, x0, x1⟩ := sSl.get rt (k := mt - 1) (by omega)
              have hpd : decide (0 < mt) = true := by simpa using h0
              have hpos : (1 : Int) ≤ mt := by omega
              have hin1 : (mt : Int) - 1 < mt := by omega
              have hwrap : IntKind.i64.wrap ((mt : Int) - 1) = (mt : Int) - 1 := IntWalk.i64_in _ (by omega)
              have hto : ((mt : Int) - 1).toNat = mt - 1 := by omega
              by_cases hx : x.2 = z
              · have HS1 : Hid (joinT S z = S.set (mt - 1) (x.1, (z : Int) + 1)) := joinT_up (by rw [← HT.out]; omega) hxt hx
                have HX := hidp hxt
                obtain ⟨h00, hgw, rr, hrr⟩ := own_at HO4.out
                have hfz := frozen_of_heap (o := offt + (mt - 1) * 2 + 1) hrr
                have H00 := hidp h00
                clear hxt hrr h00
                go_wp2_with fail
                go_roundw
                case rel =>
                  obtain rfl := H00.out
                  rw [Nat.zero_add]
                  have hset := own_set pEnc_len HO4.out (by decide) HX.out (j := 1) (x' := (x.1, (z : Int) + 1)) (u := .int .i64 ((z : Int) + 1)) (by decide) rfl
                  refine ⟨z + 1, mt, by omega, by go_num, by rw [HS.out, HS1.out, List.length_set]; exact HT.out, by rw [HS.out, HS1.out]; exact hset, below_setCell hb23 hgw _⟩
                case measure => simp [intOf]; omega
              · have HS1 : Hid (joinT S z = S ++ [((z : Int), (z : Int) + 1)]) := joinT_new (by rw [← HT.out]; omega) hxt hx
                clear hxt
                go_wp2_with (at_builtin; refine wpList_append_known rfl (.tmp 58) (.tmp 63) 55 rfl rfl rfl HR0.out ?_)
                go_roundw
                case rel => exact ⟨z + 1, mt + 1, by omega, by go_num, by rw [HS.out, HS1.out, List.length_append, ← HT.out]; rfl, by rw [HS.out, HS1.out]; exact HO'.out, HB5.out⟩
                case measure => simp [intOf]; omega
        · obtain rfl : z = 1024 := by omega
          obtain ⟨S, hS⟩ : ∃ S, spansTo l key before after 1024 = S := ⟨_, rfl⟩
          have HS := hidp (show spansF l key before after = S from hS)
          rw [hS] at HT HO3
          clear hS
          obtain ⟨At, ct, rfl, rt⟩ := own_rows pEnc_len (by decide) HO3.out
          have hcapt := rt.2.2.1
          have hlent := rt.2.1
          have hbw := hbe.trans (hb2.mono hbe.size)
          have hownw := own_stable _ _ _ _ _ _ _ _ hb2 HO.out
          have HOw := hidp hownw
          have HCw := hidp (HC.out.below hb2)
          have hksw := hksr.keep kStable hb2.size hb2.block
          clear hownw
          rcases Nat.eq_zero_or_pos mt with h0 | h0
          · subst h0
            have HTk : Hid (changedTo l before after (ks.take (k + 1)) = changedTo l before after (ks.take k)) := by
              show _ = _; rw [take_snoc HK.out, changedTo_snoc, changeOf_no (by rw [HS.out]; exact List.eq_nil_of_length_eq_zero HT.out.symm), List.append_nil]
            go_wp2_with fail
            go_roundw
            case rel => exact ⟨k + 1, mo, raw, by omega, by go_num, by omega, HOw.out, HA.out, HP.out, by rw [HTk.out]; exact HCw.out, hksw, HE.out, hbw⟩
            case measure => simp [intOf]; omega
          · have HTk : Hid (changedTo l before after (ks.take (k + 1)) = changedTo l before after (ks.take k) ++ [(key, S)]) := by
              show _ = _; rw [take_snoc HK.out, changedTo_snoc, changeOf_yes (by rw [HS.out]; intro h; have := HT.out; rw [h] at this; simp at this; omega), HS.out]
            obtain ⟨gt, offt, x, rfl, hgt, _⟩ := sSl.get rt (k := 0) h0
            obtain ⟨rfl, hgw, _⟩ := own_at HO3.out
            obtain ⟨_, _, key', e, hbk', hzk', d0, d1, d2⟩ := kSl.get hksw hlt
            cases e
            cases HK.out.symm.trans hzk'
            clear hzk'
            have hws := hb2.size
            obtain ⟨v', w5, hrun, hown', hg, hat⟩ := run_append_one (P := Try.prog) (ty := 46) (l := raw) (enc := cEnc) (w := wr) (base := w.heap.size) Try.underlying46 hi hz hs hbb rfl cEnc_len (by decide) cEnc_one HOw.out (key, some ⟨gt, 0, none⟩, mt, ct) (by omega) (by omega) hbw.size
            have hlu := fun g e => (HO.out.lt g e).2
            have hch5 : ChOks w5 (raw ++ [(key, some ⟨gt, 0, none⟩, mt, ct)]) (changedTo l before after (ks.take k) ++ [(key, S)]) := by
              refine ((HCw.out.below ((Below.refl _ wr).alloc (Nat.le_refl _) _)).grown hg fun r hr ad e => HA.out r hr ad e).snoc ⟨rfl, ?_⟩
              refine rows_keep_blk (rt.keep sStable (by simp) (fun b hb => Below.heap_alloc _ _ _ hb)) hg.size fun ad e hlt => hg.block _ hlt fun e' => ?_
              cases e
              have := hlu _ e'.symm
              simp at this
              omega
            have hap5 : ChApart v' (raw ++ [(key, some ⟨gt, 0, none⟩, mt, ct)]) := by
              intro r hr ad e
              rcases List.mem_append.1 hr with hr | hr
              · rcases hat with h | h
                · rw [h]; exact HA.out r hr ad e
                · rw [h]
                  intro e'
                  injection e' with e'
                  have := HC.out.lt hr e (HP.out r hr)
                  omega
              · simp at hr
                subst hr
                cases e
                rcases hat with h | h
                · rw [h]; intro e'; have := hlu _ e'; simp at this; omega
                · rw [h]; intro e'; injection e' with e'; simp at e'; omega
            have hb5 : Below w.heap.size w w5 := (hbw.alloc hbw.size _).grown hg (by have := hbw.size; simp; omega) (fun g e => (HOw.out.lt g e).1)
            have hks5 : kSl w5 w5.heap.size (some ⟨bk, ok, none⟩) mk ck ks := by
              refine rows_keep_blk (hksw.keep kStable (by simp) (fun b hb => Below.heap_alloc _ _ _ hb)) hg.size fun ad e hlt => hg.block _ hlt fun e' => ?_
              exact HE.out (by omega) ad e e'.symm
            have hke5 : 0 < mk → ∀ ad, some (⟨bk, ok, none⟩ : Addr) = some ad → v'.ownBlock ≠ some ad.block := by
              intro h0 ad e
              rcases hat with h | h
              · rw [h]; exact HE.out h0 ad e
              · rw [h]; intro e'; injection e' with e'; cases e; simp at e'; omega
            have HE5 := hidp hke5
            have HO' := hidp hown'
            have HR0 := hidp hrun
            have HCH := hidp hch5
            have HAP := hidp hap5
            have HB5 := hidp hb5
            have HK5 := hidp hks5
            clear hown' hrun hch5 hap5 hb5 hks5 hke5 hg hat
            go_wp2_with (at_builtin; refine wpList_append_known rfl (.tmp 68) (.tmp 75) 46 rfl rfl rfl HR0.out ?_)
            go_roundw
            case rel => 
              refine ⟨k + 1, mo + 1, raw ++ [(key, some ⟨gt, 0, none⟩, mt, ct)], by omega, by go_num, by omega, HO'.out, HAP.out, ?_, by rw [HTk.out]; exact HCH.out, HK5.out, HE5.out, HB5.out⟩
              intro r hr
              rcases List.mem_append.1 hr with hr | hr
              · exact HP.out r hr
              · simp at hr; subst hr; exact h0
            case measure => simp [intOf]; omega
    · obtain rfl : k = mk := by omega
      have HT : Hid (ks.take k = ks) := List.take_of_length_le (by rw [← HM.out]; omega)
      obtain ⟨A5, c5, rfl, r5⟩ := own_rows cEnc_len (by decide) HO.out
      go_wp2_with fail
      go_ret
      refine ⟨A5, mo, c5, raw, rfl, r5, ?_, hbe⟩
      have := HC.out
      rw [HT.out, ← HKS.out] at this
      exact this
end Go.Proofs.Ytoalmffhiinbbaa
