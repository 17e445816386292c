/- IndexFinds walked. -/
import Derived.Test.YtologegkbcedhaaH12
import Derived.Test.YtologegkbcedhaaM2
namespace Go.Proofs.Ytologegkbcedhaa
open Go.RowKit Go.Shelf

def fDec35 : List Int → Fc
  | [a, b, c, d, e, f, g, h] => ⟨⟨a, b, c⟩, d, e, f, g, h⟩
  | _ => default
theorem fDec35_enc (z : List Int) (h : z.length = 8) : fEnc (fDec35 z) = z.map (.int .i64) := by
  match z, h with
  | [a, b, c, d, e, f, g, h], _ => rfl
theorem changedF_len (l : List Fc) (b a : Int) : (changedF l b a).length ≤ l.length := by
  have h1 := keysTo_len l l.length
  rw [keysTo, List.take_of_length_le (Nat.le_refl _)] at h1
  refine Nat.le_trans ?_ h1
  rw [changedF]
  generalize keysF l = ks
  induction ks with
  | nil => simp
  | cons k ks ih =>
    have : (changeOf l b a k).length ≤ 1 := by unfold changeOf; split <;> simp
    rw [List.flatMap_cons, List.length_append, List.length_cons]
    omega
theorem fewD_bd4 {l : List De} (h : fewD l = true) : l.length ≤ 12 ∧ (allTo (l.map (·.2)) l.length).length ≤ 60 := by
  simpa [fewD] using h
def FindsCalls : Prop := ∀ (Af : Option Addr) (nf cf : Nat) (lf : List Fc) (before after : Int) (A : Option Addr) (n c : Nat) (l : List De) (w : World), fSl w w.heap.size Af nf cf lf → deSl w w.heap.size A n c l → (∀ x ∈ l, x.1.rn ≤ 70368744177664) →
  Calls Try.prog 9 #[.slice Af nf cf, .int .i64 before, .int .i64 after, .slice A n c] w fun e w' => e = .returned (.bool true) ∧ Below w.heap.size w w'
set_option maxRecDepth 100000 in
set_option maxHeartbeats 8000000 in
theorem finds_calls : FindsCalls := by
  intro Af nf cf lf before after A n c l w hf hl hB
  have HF := hidp hf
  have HL := hidp hl
  have HN := hidp hl.1
  have HNF := hidp hf.1
  have hcap := hl.2.2.1
  have hlen := hl.2.1
  have hcapf := hf.2.2.1
  have hlenf := hf.2.1
  clear hf hl
  go_enter Try.func9, Try.ntmps9
  go_wp2_with fail
  refine (sane35_any w).mono ?_
  rintro e w1 ⟨rfl, hb1⟩
  rcases Nat.lt_or_ge 10 nf with h10 | h10
  · have hd : decide ((10 : Int) < (nf : Int)) = true := by simpa using (by omega : (10 : Int) < (nf : Int))
    go_wp2_with fail
    go_ret
    exact ⟨rfl, hb1⟩
  have hd : decide ((10 : Int) < (nf : Int)) = false := by simpa using (by omega : (nf : Int) ≤ 10)
  have hl1 := HL.out.keep deStable hb1.size hb1.block
  go_wp2_with fail
  refine (qFew_any A n c l w1 hl1 hB).mono ?_
  rintro e w2 ⟨rfl, hb2⟩
  have hB2 := hb1.trans (hb2.mono hb1.size)
  obtain ⟨zf, hzf⟩ : ∃ z, fewD l = z := ⟨_, rfl⟩
  rw [hzf]
  cases zf
  · clear hl1
    go_wp2_with fail
    go_ret
    exact ⟨rfl, hB2⟩
  obtain ⟨h12, h60⟩ := fewD_bd4 hzf
  rw [← HN.out] at h12
  have h60' : (allTo (l.map (·.2)) n).length ≤ 60 := by rw [HN.out]; exact h60
  have HL2 := hidp (HL.out.keep deStable hB2.size hB2.block)
  clear hl1 hzf h60
  go_wp2_with fail
  refine (xBuild_any A n c l w2 HL2.out (by omega) (by omega)).mono ?_
  rintro e w3 ⟨A3, n3, c3, rfl, r3, hb3⟩
  have h3n : n3 ≤ 60 := by have h1 := r3.1; have h2 := ordOf_len (lt := ltL) (allTo (l.map (·.2)) (l.map (·.2)).length); have h3 := HN.out; rw [buildL, ordL] at h1; simp only [List.length_map] at h1 h2; rw [← h3] at h1 h2; omega
  have HR3 := hidp r3
  have hB3 := hB2.trans (hb3.mono hB2.size)
  have HF3 := hidp (HF.out.keep fStable hB3.size hB3.block)
  clear r3 hb3
  go_wp2_with fail
  refine (fChanged_any Af nf cf lf before after w3 HF3.out (by omega)).mono ?_
  rintro e w4 ⟨A4, n4, c4, raw, rfl, r4, hch, hb4⟩
  have h4n : n4 ≤ 1000 := by have h1 := r4.1; have h2 := hch.1; have h3 := changedF_len lf before after; have h4 := HNF.out; omega
  have HR34 := hidp (HR3.out.keep lStable hb4.size hb4.block)
  have HR4 := hidp r4
  have HCH := hidp hch
  have hB4 := hB3.trans (hb4.mono hB3.size)
  clear r4 hch hb4
  go_wp2_with fail
  refine (xAffected_any A3 n3 c3 _ A4 n4 c4 raw _ w4 HR34.out HR4.out HCH.out (by omega) h4n).mono ?_
  rintro e w5 ⟨A5, n5, c5, rfl, r5, hb5⟩
  have hB5 := hB4.trans (hb5.mono hB4.size)
  obtain ⟨T, hT⟩ : ∃ T, affL (buildL (l.map (·.2))) (changedF lf before after) = T := ⟨_, rfl⟩
  rw [hT] at r5
  have HMem : Hid (∀ v : Int, v ∈ T ↔ ∃ i : Nat, i < (l.map (·.2)).length ∧ v = i ∧ alikeF lf ((l.map (·.2)).getD i []) before after = false) := fun v => by rw [← hT]; exact finds_mem lf _ before after v
  have HStr : Hid (Str (fun a b : Int => decide (a < b)) T) := by show Str _ T; rw [← hT]; exact ordOf_str linI _
  have HN5 := hidp r5.1
  have hc5 := r5.2.2.1
  have hl5 := r5.2.1
  have hM : ∀ W, Below w5.heap.size w5 W → iSl W W.heap.size A5 n5 c5 T ∧ fSl W W.heap.size Af nf cf lf ∧ deSl W W.heap.size A n c l := fun W hW => by
    have hw : Below w.heap.size w W := hB5.trans (hW.mono hB5.size)
    exact ⟨r5.keep iStable hW.size hW.block, HF.out.keep fStable hw.size hw.block, HL.out.keep deStable hw.size hw.block⟩
  have HM := hidp hM
  have HB5 := hidp hB5
  clear hT r5 hM hb5 hB5 hB4 hB3 hB2
  go_wp2_with fail
  go_loopw [10, 11, 12] (fun nn i _ wr => ∃ k m : Nat, k ≤ n ∧ i = .int .i64 k ∧ nn = .int .i64 m ∧ Upto T k m ∧ Below w5.heap.size w5 wr) (fun _ i _ _ => n - (intOf i).toNat)
  case atStart => exact ⟨0, 0, by omega, rfl, rfl, Upto.zero (fun v hv => by obtain ⟨i, _, h, _⟩ := (HMem.out v).1 hv; omega), Below.refl _ _⟩
  case round =>
    obtain ⟨k, m, hk, rfl, rfl, hup, hbe⟩ := hrel
    have HU := hidp hup
    have hm5 : m ≤ n5 := by rw [HN5.out]; exact hup.1
    obtain ⟨mi, mf, md⟩ := HM.out _ hbe
    clear hup
    by_cases hlt : k < n
    · obtain ⟨b, off, x, rfl, hbb, hzx, hrd, c0, c1, c2, c3', c4', c5', c6, c7, c8, c9⟩ := deSl.get md hlt
      have lb := lt_of_cell c8
      have hkn : (k : Int) < n := by omega
      have hgd : (l.map (·.2)).getD k [] = x.2 := by rw [List.getD_eq_getElem?_getD, de_reads hzx]; rfl
      have hkl : k < (l.map (·.2)).length := by rw [List.length_map, ← HN.out]; exact hlt
      have hin : (k : Int) ∈ T ↔ alikeF lf x.2 before after = false := by
        rw [HMem.out]
        constructor
        · rintro ⟨i, _, h1, h2⟩
          obtain rfl : i = k := by omega
          rw [hgd] at h2; exact h2
        · intro h
          exact ⟨k, hkl, rfl, by rw [hgd]; exact h⟩
      have hal := fAlike_any Af x.1.rA nf cf x.1.rn x.1.rc lf x.2 before after wr mf hrd
      obtain ⟨z, hz⟩ : ∃ z, alikeF lf x.2 before after = z := ⟨_, rfl⟩
      rw [hz] at hal hin
      have HAL := hidp hal
      have HIN := hidp hin
      clear hz hal hin hgd hkl hzx hrd mf md c0 c1 c2 c3' c4' c5' c6 c7 c9
      cases z
      · have hT := HU.out.hit HStr.out (HIN.out.2 rfl)
        have hml : m < n5 := by rw [HN5.out]; exact (List.getElem?_eq_some_iff.1 hT).1
        have HT := hidp hT
        have hmn : (m : Int) < n5 := by omega
        obtain ⟨bt, ot, v, rfl, hbt, hzt, t0⟩ := iSl.get mi hml
        have hv : v = (k : Int) := by rw [hT] at hzt; exact (Option.some.inj hzt).symm
        rw [hv] at t0
        have lt0 := lt_of_cell t0
        clear hT hzt hv mi
        go_wp2_with fail
        refine HAL.out.mono ?_
        rintro e w6 ⟨rfl, hb6⟩
        have hbe6 := hbe.trans (hb6.mono hbe.size)
        clear t0 lt0 c8 lb hb6
        go_wp2_with fail
        go_roundw
        case rel => exact ⟨k + 1, m + 1, by omega, by go_num, by go_num, HU.out.yes HStr.out HT.out, hbe6⟩
        case measure => simp [intOf]; omega
      · have hno : (k : Int) ∉ T := fun h => by have := HIN.out.1 h; cases this
        have HNO := hidp hno
        by_cases hml : m < n5
        · obtain ⟨bt, ot, v, rfl, hbt, hzt, t0⟩ := iSl.get mi hml
          have hmn : (m : Int) < n5 := by omega
          have hvk : (v == (k : Int)) = false := by
            rw [beq_eq_false_iff_ne]
            rintro rfl
            exact hno (List.mem_of_getElem? hzt)
          have lt0 := lt_of_cell t0
          clear hzt mi hno
          go_wp2_with fail
          refine HAL.out.mono ?_
          rintro e w6 ⟨rfl, hb6⟩
          have hbe6 := hbe.trans (hb6.mono hbe.size)
          clear t0 lt0 c8 lb hb6 hvk
          go_wp2_with fail
          go_roundw
          case rel => exact ⟨k + 1, m, by omega, by go_num, rfl, HU.out.no HNO.out, hbe6⟩
          case measure => simp [intOf]; omega
        · obtain rfl : n5 = m := by omega
          clear mi hno
          go_wp2_with fail
          refine HAL.out.mono ?_
          rintro e w6 ⟨rfl, hb6⟩
          have hbe6 := hbe.trans (hb6.mono hbe.size)
          clear c8 lb hb6
          go_wp2_with fail
          go_roundw
          case rel => exact ⟨k + 1, n5, by omega, by go_num, rfl, HU.out.no HNO.out, hbe6⟩
          case measure => simp [intOf]; omega
    · obtain rfl : k = n := by omega
      have hmm : m = n5 := by
        rw [HN5.out]
        refine HU.out.done fun v hv => ?_
        obtain ⟨i, hi, h1, _⟩ := (HMem.out v).1 hv
        rw [List.length_map, ← HN.out] at hi
        omega
      subst hmm
      clear mi mf md
      go_wp2_with fail
      go_ret
      exact ⟨rfl, HB5.out.trans (hbe.mono HB5.out.size)⟩
end Go.Proofs.Ytologegkbcedhaa
