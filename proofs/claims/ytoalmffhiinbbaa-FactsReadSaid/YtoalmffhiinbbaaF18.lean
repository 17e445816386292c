/- The reference's Points and differs walked. -/
import Derived.Test.YtoalmffhiinbbaaF17
namespace Go.Proofs.Ytoalmffhiinbbaa
open Go.RowKit Go.Shelf

set_option maxRecDepth 100000 in
set_option maxHeartbeats 2000000 in
theorem rPoints_any (A : Option Addr) (n c : Nat) (l : List Fc) (kk : Ky) (fr to known : Int) (w : World) (hl : fSl w w.heap.size A n c l) :
    Calls Try.prog 22 #[.slice A n c, .agg #[.int .i64 kk.kind, .int .i64 kk.subj, .int .i64 kk.obj], .int .i64 fr, .int .i64 to, .int .i64 known] w (PointsPost l kk fr to known w) := by
  obtain ⟨i0, hi, hz, hs, hbb⟩ := info_parts pInfo
  have hB1 : Below w.heap.size w ((w.alloc (.cells #[.int .i64 kk.kind, .int .i64 kk.subj, .int .i64 kk.obj] 24)).alloc (.cells #[] 60)) := ((Below.refl _ w).alloc (Nat.le_refl _) _).alloc (by simp) _
  have hkey : ((w.alloc (.cells #[.int .i64 kk.kind, .int .i64 kk.subj, .int .i64 kk.obj] 24)).alloc (.cells #[] 60)).heap[w.heap.size]? = some (.cells #[.int .i64 kk.kind, .int .i64 kk.subj, .int .i64 kk.obj] 24 (0, 0)) := (Below.heap_alloc _ _ _ (by simp)).trans (World.alloc_heap_new _ _)
  have hown0 := World.ownsRow_made (base := w.heap.size + 1) (e := 60) (size := 2) (w.alloc (.cells #[.int .i64 kk.kind, .int .i64 kk.subj, .int .i64 kk.obj] 24)) #[] 0 (by simp) (by decide) (by simp)
  rw [World.size_alloc] at hown0
  have HB1 := hidp hB1
  have HKey := hidp hkey
  have HOwn := hidp hown0
  clear hB1 hkey hown0
  go_enter Try.func22, Try.ntmps22
  rcases Int.lt_or_le 0 fr with hf | hf <;> rcases Int.lt_or_le 1024 to with ho | ho
  all_goals
    go_wp2_with fail
    go_loopw [11, 12, 13, 14] (fun p t _ _ wr => ∃ (z : Int) (m : Nat), t = .int .i64 z ∧ max 0 fr ≤ z ∧ (z ≤ 1024 ∨ z = max 0 fr) ∧ (z ≤ min to 1024 ∨ z = max 0 fr) ∧ m = (pointsTo l kk (max 0 fr) z known).length ∧ wr.ownsRow (w.heap.size + 1) 60 2 p m ((pointsTo l kk (max 0 fr) z known).flatMap pEnc) ∧ Below w.heap.size w wr ∧ wr.heap[w.heap.size]? = some (.cells #[.int .i64 kk.kind, .int .i64 kk.subj, .int .i64 kk.obj] 24 (0, 0))) (fun _ t _ _ _ => (1024 - intOf t).toNat)
    case atStart => exact ⟨_, 0, rfl, by omega, .inr (by omega), .inr (by omega), by rw [pointsTo_start _ _ _ _ _ (by omega)]; rfl, by rw [pointsTo_start _ _ _ _ _ (by omega)]; exact HOwn.out, HB1.out, HKey.out⟩
    case round =>
      obtain ⟨z, m, rfl, hz1, hz2, hz3, hm, hown, hbe, hrk⟩ := hrel
      have HM := hidp hm
      have HO := hidp hown
      have HK := hidp hrk
      have lr := lt_of_heap hrk
      have hml : m ≤ (z - max 0 fr).toNat := by rw [hm]; exact pointsTo_len _ _ _ _ _
      clear hm hown
      by_cases hlt : z < min to 1024
      · obtain ⟨k, rfl⟩ : ∃ k : Nat, z = k := ⟨z.toNat, by omega⟩
        have hk3 : (k : Int) < 1024 := by omega
        have hk5 : (k : Int) < to := by omega
        have hm4 : m ≤ 1024 := by omega
        have k0 := cell_of_heap (o := 0) hrk
        have k1 := cell_of_heap (o := 1) hrk
        have k2 := cell_of_heap (o := 2) hrk
        simp only [List.getElem?_toArray, List.getElem?_cons_zero, List.getElem?_cons_succ] at k0 k1 k2
        have HLt := hidp hlt
        have HZ1 := hidp hz1
        have hlr := hl.below fStable hbe
        have hla := hl.keep fStable hbe.size hbe.block
        clear hlt hrk hz1 hz2 hz3 hml
        go_wp2_with fail
        refine (rAt_any A n c l kk k known wr hla).mono ?_
        rintro e w4 ⟨rfl, hb4⟩
        have hbe4 := hbe.trans (hb4.mono hbe.size)
        have lr4 := Nat.lt_of_lt_of_le lr hb4.size
        have HO4 := hidp (own_stable _ _ _ _ _ _ _ _ hb4 HO.out)
        have HK4 := hidp ((hb4.block _ lr).trans HK.out)
        clear k0 k1 k2 hb4 HO HK hla hlr
        cases hat : atF l kk k known with
        | some v =>
          have HA := hidp hat
          clear hat
          simp only [Option.getD_some, Option.isSome_some]
          obtain ⟨v', w5, hrun, hown', hg, hat⟩ := run_append_one (P := Try.prog) (ty := 41) (l := pointsTo l kk (max 0 fr) k known) (enc := pEnc) (w := w4) (base := w.heap.size + 1) Try.underlying41 hi hz hs hbb rfl pEnc_len (by decide) pEnc_one HO4.out ((k : Int), v) (by omega) (by omega) lr4
          have HO' := hidp hown'
          have HG := hidp hg
          have HR0 := hidp hrun
          have hown := fun g e => HO4.out.lt g e
          have hw5k : w5.heap[w.heap.size]? = some (.cells #[.int .i64 kk.kind, .int .i64 kk.subj, .int .i64 kk.obj] 24 (0, 0)) := by
            rw [HG.out.block _ (by simp; omega) (fun e => by have := (hown _ e.symm).1; omega), Below.heap_alloc _ _ _ lr4]
            exact HK4.out
          have hb5 : Below w.heap.size w w5 := (hbe4.alloc hbe4.size _).grown HG.out (by have := hbe4.size; simp; omega) (fun g e => by have := (hown _ e).1; omega)
          have HW5 := hidp hw5k
          clear hown' hg hat hrun hown hw5k
          go_wp2_with (at_builtin; refine wpList_append_known rfl (.tmp 33) (.tmp 37) 41 rfl rfl rfl HR0.out ?_)
          go_roundw
          case rel =>
            refine ⟨(k : Int) + 1, m + 1, rfl, by have := HZ1.out; omega, .inl (by omega), .inl (by have := HLt.out; omega), ?_, ?_, hb5, HW5.out⟩
            · rw [pointsTo_step _ _ _ _ _ HZ1.out, ptAt_yes HA.out, HM.out]; simp
            · rw [pointsTo_step _ _ _ _ _ HZ1.out, ptAt_yes HA.out]; exact HO'.out
          case measure => simp [intOf]; omega
        | none =>
          have HA := hidp hat
          clear hat
          simp only [Option.getD_none, Option.isSome_none]
          go_wp2_with fail
          go_roundw
          case rel =>
            refine ⟨(k : Int) + 1, m, rfl, by have := HZ1.out; omega, .inl (by omega), .inl (by have := HLt.out; omega), ?_, ?_, hbe4, HK4.out⟩
            · rw [pointsTo_step _ _ _ _ _ HZ1.out, ptAt_no HA.out, HM.out]; simp
            · rw [pointsTo_step _ _ _ _ _ HZ1.out, ptAt_no HA.out, List.append_nil]; exact HO4.out
          case measure => simp [intOf]; omega
      · have HE : Hid (pointsF l kk fr to known = pointsTo l kk (max 0 fr) z known) := pointsTo_end hlt hz3
        try have hge1 : 1024 ≤ z := by omega
        try have hge2 : to ≤ z := by omega
        clear hlt hz1 hz2 hz3
        obtain ⟨A5, c5, rfl, r5⟩ := own_rows pEnc_len (by decide) HO.out
        go_wp2_with fail
        go_ret
        exact ⟨A5, m, c5, rfl, by rw [HE.out]; exact r5, hbe⟩

theorem diff_parts (a b : Option Int) : decide (a ≠ b) = (a.isSome != b.isSome || a.getD 0 != b.getD 0) := by
  cases a with
  | none => cases b <;> simp
  | some x =>
    cases b with
    | none => simp
    | some y => by_cases h : x = y <;> simp [h]
set_option maxRecDepth 100000 in
set_option maxHeartbeats 2000000 in
theorem rdiffers_any (A : Option Addr) (n c : Nat) (l : List Fc) (kk : Ky) (t before after : Int) (w : World) (hl : fSl w w.heap.size A n c l) :
    Calls Try.prog 44 #[.slice A n c, .agg #[.int .i64 kk.kind, .int .i64 kk.subj, .int .i64 kk.obj], .int .i64 t, .int .i64 before, .int .i64 after] w fun e w' => e = .returned (.bool (diffB l kk before after t)) ∧ Below w.heap.size w w' := by
  have hB0 : Below w.heap.size w (w.alloc (.cells #[.int .i64 kk.kind, .int .i64 kk.subj, .int .i64 kk.obj] 24)) := (Below.refl _ w).alloc (Nat.le_refl _) _
  have hkey := World.alloc_heap_new w (.cells #[.int .i64 kk.kind, .int .i64 kk.subj, .int .i64 kk.obj] 24)
  have HB0 := hidp hB0
  have HKey := hidp hkey
  clear hB0 hkey
  obtain ⟨a, ha⟩ : ∃ a, atF l kk t before = a := ⟨_, rfl⟩
  obtain ⟨b, hb⟩ : ∃ b, atF l kk t after = b := ⟨_, rfl⟩
  have HA := hidp ha
  have HB := hidp hb
  have HD : Hid (diffB l kk before after t = (a.isSome != b.isSome || a.getD 0 != b.getD 0)) := by show _ = _; rw [diffB, ha, hb, diff_parts]
  rw [HD.out]
  clear ha hb
  go_enter Try.func44, Try.ntmps44
  go_wp2_with fail
  refine (rAt_any A n c l kk t before _ (hl.keep fStable (by simp) (fun b hb => Below.heap_alloc _ _ _ hb))).mono ?_
  rintro e w1 ⟨rfl, hb1⟩
  have hB1 := HB0.out.trans (hb1.mono (by simp))
  have hk1 := (hb1.block _ (by simp)).trans HKey.out
  have k0 := cell_of_heap (o := 0) hk1
  have k1 := cell_of_heap (o := 1) hk1
  have k2 := cell_of_heap (o := 2) hk1
  simp only [List.getElem?_toArray, List.getElem?_cons_zero, List.getElem?_cons_succ] at k0 k1 k2
  have l1 := lt_of_heap hk1
  clear hk1
  rw [HA.out]
  go_wp2_with fail
  refine (rAt_any A n c l kk t after _ (hl.keep fStable hB1.size hB1.block)).mono ?_
  rintro e w2 ⟨rfl, hb2⟩
  have hB2 := hB1.trans (hb2.mono hB1.size)
  rw [HB.out]
  clear k0 k1 k2
  cases a with
  | none =>
    cases b with
    | none =>
      simp only [Option.getD_none, Option.isSome_none]
      go_wp2_with fail
      go_ret
      exact ⟨rfl, hB2⟩
    | some v =>
      simp only [Option.getD_none, Option.isSome_none, Option.getD_some, Option.isSome_some]
      go_wp2_with fail
      go_ret
      exact ⟨rfl, hB2⟩
  | some u =>
    cases b with
    | none =>
      simp only [Option.getD_none, Option.isSome_none, Option.getD_some, Option.isSome_some]
      go_wp2_with fail
      go_ret
      exact ⟨rfl, hB2⟩
    | some v =>
      simp only [Option.getD_some, Option.isSome_some]
      go_wp2_with fail
      go_ret
      exact ⟨by simp, hB2⟩
end Go.Proofs.Ytoalmffhiinbbaa
