/- facts.Points walked, and the reference's. -/
import Derived.Test.YtoalmffhiinbbaaF16
import Derived.Test.YtoalmffhiinbbaaF14
import Derived.Test.YtoalmffhiinbbaaRel
namespace Go.Proofs.Ytoalmffhiinbbaa
open Go.RowKit Go.Shelf

theorem atF_nonneg {l : List Fc} {k : Ky} {t known v : Int} (h : atF l k t known = some v) : 0 ≤ v := by
  unfold atF at h
  split at h
  · cases h
  · split at h
    · cases h
    · injection h with h; omega
theorem valF_yes {l : List Fc} {k : Ky} {t known : Int} (h : 0 ≤ valF l k t known) : atF l k t known = some (valF l k t known) := by
  unfold valF at *
  cases h' : atF l k t known with
  | none => rw [h'] at h; simp at h
  | some v => rfl
theorem valF_no {l : List Fc} {k : Ky} {t known : Int} (h : valF l k t known < 0) : atF l k t known = none := by
  cases h' : atF l k t known with
  | none => rfl
  | some v =>
    have := atF_nonneg h'
    unfold valF at h
    rw [h'] at h
    simp at h
    omega
theorem pointsTo_start (l : List Fc) (k : Ky) (a b known : Int) (h : b ≤ a) : pointsTo l k a b known = [] := by
  unfold pointsTo
  rw [show (b - a).toNat = 0 by omega]; rfl
/-- The point of a term, if there is a value. -/
def ptAt (l : List Fc) (k : Ky) (t known : Int) : List (Int × Int) := match atF l k t known with | some v => [(t, v)] | none => []
theorem pointsTo_eq (l : List Fc) (k : Ky) (a b known : Int) : pointsTo l k a b known = (List.range (b - a).toNat).flatMap fun (n : Nat) => ptAt l k (a + n) known := rfl
theorem ptAt_len (l : List Fc) (k : Ky) (t known : Int) : (ptAt l k t known).length ≤ 1 := by
  unfold ptAt; split <;> simp
theorem ptAt_no {l : List Fc} {k : Ky} {t known : Int} (h : atF l k t known = none) : ptAt l k t known = [] := by unfold ptAt; rw [h]
theorem ptAt_yes {l : List Fc} {k : Ky} {t known v : Int} (h : atF l k t known = some v) : ptAt l k t known = [(t, v)] := by unfold ptAt; rw [h]
theorem pointsTo_step (l : List Fc) (k : Ky) (a z known : Int) (h : a ≤ z) : pointsTo l k a (z + 1) known = pointsTo l k a z known ++ ptAt l k z known := by
  rw [pointsTo_eq, pointsTo_eq, show (z + 1 - a).toNat = (z - a).toNat + 1 by omega, List.range_succ, List.flatMap_append, List.flatMap_cons, List.flatMap_nil, List.append_nil, show a + ((z - a).toNat : Int) = z by omega]
theorem pointsTo_len (l : List Fc) (k : Ky) (a z known : Int) : (pointsTo l k a z known).length ≤ (z - a).toNat := by
  rw [pointsTo_eq]
  generalize (z - a).toNat = m
  induction m with
  | zero => simp
  | succ m ih =>
    rw [List.range_succ, List.flatMap_append, List.length_append, List.flatMap_cons, List.flatMap_nil, List.append_nil]
    have := ptAt_len l k (a + m) known
    omega
theorem pointsTo_end {l : List Fc} {k : Ky} {a b z known : Int} (h : ¬ z < b) (hz : z ≤ b ∨ z = a) : pointsTo l k a b known = pointsTo l k a z known := by
  rcases hz with hz | hz
  · have : z = b := by omega
    rw [this]
  · subst hz
    rw [pointsTo_start _ _ _ _ _ (by omega), pointsTo_start _ _ _ _ _ (by omega)]
theorem putAt_all {cs : Array Value} {vs : List Value} (h : cs.size = vs.length) : putAt cs 0 vs = vs.toArray := by
  have h' : List.drop vs.length cs.toList = [] := List.drop_of_length_le (by simp [h])
  simp [putAt, h']
theorem rowV_size (l : List Fc) (k : Ky) (known : Int) : (rowV l k known).size = 1024 := by simp [rowV, rowF_len]
theorem rowV_at (l : List Fc) (k : Ky) (known : Int) {j : Nat} (hj : j < 1024) : (rowV l k known)[j]? = some (.int .i64 (valF l k j known)) := by
  simp [rowV, List.getElem?_map, rowF_at l k known hj]
theorem rowV_one (l : List Fc) (k : Ky) (known : Int) : ∀ v ∈ (rowV l k known).toList, v.oneCell' = true := by
  intro v hv
  simp [rowV] at hv
  obtain ⟨z, _, rfl⟩ := hv
  rfl
/-- What Points hands back. -/
def PointsPost (l : List Fc) (k : Ky) (a b known : Int) (w : World) (e : Ending) (w' : World) : Prop := ∃ A n c, e = .returned (.slice A n c) ∧ pSl w' w'.heap.size A n c (pointsF l k a b known) ∧ Below w.heap.size w w'

set_option maxRecDepth 100000 in
set_option maxHeartbeats 2000000 in
theorem fPoints_any (A : Option Addr) (n c : Nat) (l : List Fc) (kk : Ky) (fr to known : Int) (w : World) (hl : fSl w w.heap.size A n c l) :
    Calls Try.prog 21 #[.slice A n c, .agg #[.int .i64 kk.kind, .int .i64 kk.subj, .int .i64 kk.obj], .int .i64 fr, .int .i64 to, .int .i64 known] w (PointsPost l kk fr to known w) := by
  obtain ⟨i0, hi, hz, hs, hbb⟩ := info_parts pInfo
  go_enter Try.func21, Try.ntmps21
  go_wp2_with fail
  refine (fvalues_any A n c l kk known _ (hl.keep fStable (by simp) (fun b hb => Below.heap_alloc _ _ _ hb))).mono ?_
  rintro e w1 ⟨rfl, hb1⟩
  have hB1 : Below w.heap.size w w1 := ((Below.refl _ w).alloc (Nat.le_refl _) _).trans (hb1.mono (by simp))
  have hsw := hB1.size
  have hnew := World.alloc_heap_new w1 (.cells Try.zeroCells70 70)
  have hB2 : Below w.heap.size w (w1.alloc (.cells Try.zeroCells70 70)) := hB1.alloc hB1.size _
  have hrow : ((w1.alloc (.cells Try.zeroCells70 70)).setRow w1.heap.size (putAt Try.zeroCells70 0 (rowV l kk known).toList)).heap[w1.heap.size]? = some (.cells (rowV l kk known) 70 (0, 0)) := by
    rw [show rowV l kk known = putAt Try.zeroCells70 0 (rowV l kk known).toList from by rw [putAt_all (by rw [zeros_row.1, Array.length_toList, rowV_size])]]
    rw [← show rowV l kk known = putAt Try.zeroCells70 0 (rowV l kk known).toList from by rw [putAt_all (by rw [zeros_row.1, Array.length_toList, rowV_size])]]
    exact setRow_heap _ _ _ _ _ _ hnew
  have hB3 : Below w.heap.size w ((w1.alloc (.cells Try.zeroCells70 70)).setRow w1.heap.size (putAt Try.zeroCells70 0 (rowV l kk known).toList)) := below_setRow hB2 hB1.size _
  have hsz3 : w1.heap.size + 1 = ((w1.alloc (.cells Try.zeroCells70 70)).setRow w1.heap.size (putAt Try.zeroCells70 0 (rowV l kk known).toList)).heap.size := by simp [World.setRow]
  obtain ⟨R, hR⟩ : ∃ R, rowV l kk known = R := ⟨_, rfl⟩
  have hRz := rowV_size l kk known
  have hRo := rowV_one l kk known
  have hRa := fun j hj => rowV_at l kk known (j := j) hj
  rw [hR] at hRz hRo hRa hrow hB3 hsz3
  have HR := hidp hR
  have HRz := hidp hRz
  have HRa := hidp hRa
  have HRow := hidp hrow
  have HB3 := hidp hB3
  have Hsz3 := hidp hsz3
  rw [hR]
  clear hR hRz hRa hrow hB3 hsz3 hb1 hB1 hB2
  rcases Int.lt_or_le 0 fr with hf | hf <;> rcases Int.lt_or_le 1024 to with ho | ho
  all_goals
    have hnew' := hnew
    go_wp2_with (first | (refine wpList_store_at (vs := R.toList) 70 (.tmp 11) (.tmp 16) rfl rfl rfl rfl hnew (by rw [Array.length_toList, HRz.out]; exact rowInfo) (by rw [Array.length_toList, HRz.out, zeros_row.1]; omega) hRo ?_))
    generalize hw3 : (w1.alloc (.cells Try.zeroCells70 70)).setRow w1.heap.size (putAt Try.zeroCells70 0 R.toList) = W3 at HRow HB3 Hsz3 ⊢
    have l3 := lt_of_heap HRow.out
    have hB3 := HB3.out
    have hrow := HRow.out
    clear hw3 hnew hnew' HRow HB3
    go_loopw [10, 12] (fun p t wr => ∃ (z : Int) (m : Nat), t = .int .i64 z ∧ max 0 fr ≤ z ∧ (z ≤ 1024 ∨ z = max 0 fr) ∧ (z ≤ min to 1024 ∨ z = max 0 fr) ∧ m = (pointsTo l kk (max 0 fr) z known).length ∧ wr.ownsRow (w1.heap.size + 1) 60 2 p m ((pointsTo l kk (max 0 fr) z known).flatMap pEnc) ∧ Below w.heap.size w wr ∧ wr.heap[w1.heap.size]? = some (.cells R 70 (0, 0))) (fun _ t _ => (1024 - intOf t).toNat)
    case atStart => exact ⟨_, 0, rfl, by omega, .inr (by omega), .inr (by omega), by rw [pointsTo_start _ _ _ _ _ (by omega)]; rfl, by rw [pointsTo_start _ _ _ _ _ (by omega)]; exact World.ownsRow_nil _ _ _ _, hB3, hrow⟩
    case round =>
      obtain ⟨z, m, rfl, hz1, hz2, hz3, hm, hown, hbe, hrk⟩ := hrel
      have HM := hidp hm
      have HO := hidp hown
      have HK := hidp hrk
      have lr := lt_of_heap hrk
      have hml : m ≤ (z - max 0 fr).toNat := by rw [hm]; exact pointsTo_len _ _ _ _ _
      clear hm hown hrow hB3
      by_cases hlt : z < min to 1024
      · obtain ⟨k, rfl⟩ : ∃ k : Nat, z = k := ⟨z.toNat, by omega⟩
        have hk3 : (k : Int) < 1024 := by omega
        have hk5 : (k : Int) < to := by omega
        have hk4 : k < 1024 := by omega
        have hm4 : m ≤ 1024 := by omega
        have ck := (cell_of_heap (o := k) hrk).trans (HRa.out k hk4)
        have HLt := hidp hlt
        have HZ1 := hidp hz1
        have HML := hidp hml
        clear hlt hrk hz1 hz2 hz3 hml
        by_cases hv : 0 ≤ valF l kk k known
        · have HV := hidp (valF_yes hv)
          obtain ⟨v', w5, hrun, hown', hg, hat⟩ := run_append_one (P := Try.prog) (ty := 41) (l := pointsTo l kk (max 0 fr) k known) (enc := pEnc) (w := wr) (base := w1.heap.size + 1) Try.underlying41 hi hz hs hbb rfl pEnc_len (by decide) pEnc_one HO.out ((k : Int), valF l kk k known) (by omega) (by omega) lr
          have HO' := hidp hown'
          have HG := hidp hg
          have HR0 := hidp hrun
          have hown := fun g e => HO.out.lt g e
          have hw5k : w5.heap[w1.heap.size]? = some (.cells R 70 (0, 0)) := by
            rw [HG.out.block _ (by simp; omega) (fun e => by have := (hown _ e.symm).1; omega), Below.heap_alloc _ _ _ lr]
            exact HK.out
          have hb5 : Below w.heap.size w w5 := (hbe.alloc hbe.size _).grown HG.out (by have := hbe.size; simp; omega) (fun g e => by have := (hown _ e).1; omega)
          have HW5 := hidp hw5k
          clear hown' hg hat hrun hown hw5k
          go_wp2_with (at_builtin; refine wpList_append_known rfl (.tmp 29) (.tmp 35) 41 rfl rfl rfl HR0.out ?_)
          go_roundw
          case rel =>
            refine ⟨(k : Int) + 1, m + 1, rfl, by have := HZ1.out; omega, .inl (by omega), .inl (by have := HLt.out; omega), ?_, ?_, hb5, HW5.out⟩
            · rw [pointsTo_step _ _ _ _ _ HZ1.out, ptAt_yes HV.out, HM.out]; simp
            · rw [pointsTo_step _ _ _ _ _ HZ1.out, ptAt_yes HV.out]; exact HO'.out
          case measure => simp [intOf]; omega
        · have HV := hidp (valF_no (by omega : valF l kk k known < 0))
          go_wp2_with fail
          go_roundw
          case rel =>
            refine ⟨(k : Int) + 1, m, rfl, by have := HZ1.out; omega, .inl (by omega), .inl (by have := HLt.out; omega), ?_, ?_, hbe, HK.out⟩
            · rw [pointsTo_step _ _ _ _ _ HZ1.out, ptAt_no HV.out, HM.out]; simp
            · rw [pointsTo_step _ _ _ _ _ HZ1.out, ptAt_no HV.out, List.append_nil]; exact HO.out
          case measure => simp [intOf]; omega
      · have HE : Hid (pointsF l kk fr to known = pointsTo l kk (max 0 fr) z known) := pointsTo_end hlt hz3
        try have hge1 : 1024 ≤ z := by omega
        try have hge2 : to ≤ z := by omega
        clear hlt hz1 hz2 hz3
        obtain ⟨A5, c5, rfl, r5⟩ := own_rows pEnc_len (by decide) HO.out
        go_wp2_with fail
        go_ret
        exact ⟨A5, m, c5, rfl, by rw [HE.out]; exact r5, hbe⟩
end Go.Proofs.Ytoalmffhiinbbaa
