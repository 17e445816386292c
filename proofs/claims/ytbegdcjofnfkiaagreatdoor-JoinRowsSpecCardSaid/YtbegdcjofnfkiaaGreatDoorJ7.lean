/- join.Domain. -/
import Derived.Test.YtbegdcjofnfkiaaGreatDoorM2
import Derived.Test.YtbegdcjofnfkiaaGreatDoorJ3
import Derived.Test.YtbegdcjofnfkiaaGreatDoorF5
namespace Go.Proofs.YtbegdcjofnfkiaaGreatDoor
open Go.RowKit Go.Shelf Go.Sort

def domPart (ks : List Int) (f : Fc) : Nat → List Int
  | 0 => ks
  | 1 => domAdd ks f.key.subj
  | 2 => domAdd (domAdd ks f.key.subj) f.key.obj
  | _ => domF ks f
def IntsPost (l : List Int) (w : World) (e : Ending) (w' : World) : Prop := ∃ A c, e = .returned (.slice A l.length c) ∧ w'.ownsRow w.heap.size 3 1 (.slice A l.length c) l.length (l.flatMap iEnc) ∧ Below w.heap.size w w'

theorem ix3 (a b c : Int) (W : World) : (Instr.index 70 (.agg #[.int .i64 a, .int .i64 b, .int .i64 c]) (.int .i64 0)).run Tryz.prog W = .ok (.int .i64 a) W ∧ (Instr.index 70 (.agg #[.int .i64 a, .int .i64 b, .int .i64 c]) (.int .i64 1)).run Tryz.prog W = .ok (.int .i64 b) W ∧ (Instr.index 70 (.agg #[.int .i64 a, .int .i64 b, .int .i64 c]) (.int .i64 2)).run Tryz.prog W = .ok (.int .i64 c) W := ⟨by kernel_rfl, by kernel_rfl, by kernel_rfl⟩
set_option maxRecDepth 100000 in
set_option maxHeartbeats 4000000 in
theorem domain_any (A : Option Addr) (n c : Nat) (l : List Fc) (w : World) (hl : fSl w w.heap.size A n c l) (hn : n ≤ 100000) :
    Calls Tryz.prog 11 #[.slice A n c] w (IntsPost (domR l) w) := by
  have hmm := @run_makeMap Tryz.prog
  have HL := hidp hl
  have hnc := hl.2.1
  have hcc := hl.2.2.1
  have HN := hidp hl.1
  obtain ⟨W0, hW0⟩ : ∃ W0, w.alloc (.map #[] 0) = W0 := ⟨_, rfl⟩
  have hBW : Below w.heap.size w W0 := by rw [← hW0]; exact (Below.refl _ w).alloc (Nat.le_refl _) _
  have hkm0 : KM iV W0 w.heap.size ([] : List Int) := by rw [← hW0]; exact KM.made w
  have HW0 := hidp hW0
  have HBW := hidp hBW
  have HKM := hidp hkm0
  clear hW0 hBW hkm0 hl
  go_enter Tryz.func11, Tryz.ntmps11
  go_wp2_with fail
  rw [HW0.out]
  go_loopw [11] (fun i wr => ∃ k : Nat, k ≤ n ∧ i = .int .i64 k ∧ KM iV wr w.heap.size (domSet (l.take k)) ∧ Below w.heap.size w wr) (fun i _ => n - (intOf i).toNat)
  case atStart => exact ⟨0, by omega, rfl, HKM.out, HBW.out⟩
  case round =>
    obtain ⟨k, hk, rfl, hkm, hbe⟩ := hrel
    have HK := hidp hkm
    have HB := hidp hbe
    clear hkm hbe HKM
    by_cases hkn : k < n
    · have hkn' : (k : Int) < n := by omega
      obtain ⟨b, off, f, rfl, hb, hf, c0, c1, c2, c3, c4, c5, c6, c7⟩ := fSl.get (HL.out.keep (Rep.flat_stable _) HB.out.size HB.out.block) hkn
      have lb := lt_of_cell c0
      have HF := hidp hf
      obtain ⟨W5, hW5⟩ : ∃ W5, wr.alloc (.cells #[.int .i64 f.key.kind, .int .i64 f.key.subj, .int .i64 f.key.obj, .int .i64 f.val, .int .i64 f.fr, .int .i64 f.to, .int .i64 f.known, .int .i64 f.no] 54) = W5 := ⟨_, rfl⟩
      have hb5 : Below w.heap.size w W5 := hW5 ▸ HB.out.alloc HB.out.size _
      have hk5 : KM iV W5 w.heap.size (domSet (l.take k)) := hW5 ▸ HK.out.keep (Below.heap_alloc _ _ _ HK.out.lt)
      have HW5 := hidp hW5
      have HB5 := hidp hb5
      have HK5 := hidp hk5
      clear hf hW5 hb5 hk5
      go_wp2_with fail
      rw [HW5.out]
      clear c0 c1 c2 c3 c4 c5 c6 c7 lb
      go_loopw [24] (fun i wr => ∃ j : Nat, j ≤ 3 ∧ i = .int .i64 j ∧ KM iV wr w.heap.size (domPart (domSet (l.take k)) f j) ∧ Below w.heap.size w wr) (fun i _ => 3 - (intOf i).toNat)
      case atStart => exact ⟨0, by omega, rfl, HK5.out, HB5.out⟩
      case round =>
        rename World => wb
        obtain ⟨j, hj, rfl, hkm, hbe⟩ := hrel
        have HK6 := hidp hkm
        have HB6 := hidp hbe
        clear hkm hbe
        have fin : ∀ (jj : Nat) (v : Int), jj < 3 → (domPart (domSet (l.take k)) f (jj + 1) = domAdd (domPart (domSet (l.take k)) f jj) v) → KM iV wb w.heap.size (domPart (domSet (l.take k)) f jj) → (v < 0 → KM iV wb w.heap.size (domPart (domSet (l.take k)) f (jj + 1))) ∧ (0 ≤ v → ∃ w', (Instr.mapUpdate 69 (.map (some w.heap.size)) (.int .i64 v) (.bool true)).run Tryz.prog wb = .ok () w' ∧ KM iV w' w.heap.size (domPart (domSet (l.take k)) f (jj + 1)) ∧ Below w.heap.size w w') := fun jj v hjj he hkm => ⟨fun hv => by
            rw [he]; unfold domAdd; rw [if_neg (by omega)]; exact hkm, fun hv => by
            obtain ⟨w', h1, h2, h3, h4⟩ := km_update i_ops hkm v
            refine ⟨w', h1, ?_, HB6.out.grown h3 HB6.out.size (fun r hr => by cases hr; exact Nat.le_refl _)⟩
            rw [he]; unfold domAdd; rw [if_pos hv]; exact h2⟩
        have FIN := hidp fin
        clear fin
        rcases j with _ | _ | _ | j
        case zero =>
          obtain ⟨g1, g2⟩ := FIN.out 0 f.key.subj (by omega) rfl HK6.out
          have HG1 := hidp g1
          have HG2 := hidp g2
          clear g1 g2 FIN
          obtain ⟨i0, i1, i2⟩ := ix3 f.key.subj f.key.obj f.val wb
          have j0 : (Instr.index 70 (.agg #[.int .i64 f.key.subj, .int .i64 f.key.obj, .int .i64 f.val]) (.int .i64 ((0 : Nat) : Int))).run Tryz.prog wb = .ok (.int .i64 f.key.subj) wb := i0
          have j1 : (Instr.index 70 (.agg #[.int .i64 f.key.subj, .int .i64 f.key.obj, .int .i64 f.val]) (.int .i64 ((0 + 1 : Nat) : Int))).run Tryz.prog wb = .ok (.int .i64 f.key.obj) wb := i1
          have j2 : (Instr.index 70 (.agg #[.int .i64 f.key.subj, .int .i64 f.key.obj, .int .i64 f.val]) (.int .i64 ((0 + 1 + 1 : Nat) : Int))).run Tryz.prog wb = .ok (.int .i64 f.val) wb := i2
          by_cases hv : 0 ≤ f.key.subj
          · obtain ⟨w', hrun, hkm', hb'⟩ := HG2.out hv
            have HKM' := hidp hkm'
            have HB' := hidp hb'
            clear hkm' hb'
            go_wp2_with fail
            go_roundw
            case rel => exact ⟨1, by omega, by go_num, HKM'.out, HB'.out⟩
            case measure => simp [intOf]
          · have hvn : f.key.subj < 0 := by omega
            have hkm' := HG1.out hvn
            have HKM' := hidp hkm'
            clear hkm'
            go_wp2_with fail
            go_roundw
            case rel => exact ⟨1, by omega, by go_num, HKM'.out, HB6.out⟩
            case measure => simp [intOf]
        case succ.zero =>
          obtain ⟨g1, g2⟩ := FIN.out 1 f.key.obj (by omega) rfl HK6.out
          have HG1 := hidp g1
          have HG2 := hidp g2
          clear g1 g2 FIN
          obtain ⟨i0, i1, i2⟩ := ix3 f.key.subj f.key.obj f.val wb
          have j0 : (Instr.index 70 (.agg #[.int .i64 f.key.subj, .int .i64 f.key.obj, .int .i64 f.val]) (.int .i64 ((0 : Nat) : Int))).run Tryz.prog wb = .ok (.int .i64 f.key.subj) wb := i0
          have j1 : (Instr.index 70 (.agg #[.int .i64 f.key.subj, .int .i64 f.key.obj, .int .i64 f.val]) (.int .i64 ((0 + 1 : Nat) : Int))).run Tryz.prog wb = .ok (.int .i64 f.key.obj) wb := i1
          have j2 : (Instr.index 70 (.agg #[.int .i64 f.key.subj, .int .i64 f.key.obj, .int .i64 f.val]) (.int .i64 ((0 + 1 + 1 : Nat) : Int))).run Tryz.prog wb = .ok (.int .i64 f.val) wb := i2
          by_cases hv : 0 ≤ f.key.obj
          · obtain ⟨w', hrun, hkm', hb'⟩ := HG2.out hv
            have HKM' := hidp hkm'
            have HB' := hidp hb'
            clear hkm' hb'
            go_wp2_with fail
            go_roundw
            case rel => exact ⟨2, by omega, by go_num, HKM'.out, HB'.out⟩
            case measure => simp [intOf]
          · have hvn : f.key.obj < 0 := by omega
            have hkm' := HG1.out hvn
            have HKM' := hidp hkm'
            clear hkm'
            go_wp2_with fail
            go_roundw
            case rel => exact ⟨2, by omega, by go_num, HKM'.out, HB6.out⟩
            case measure => simp [intOf]
        case succ.succ.zero =>
          obtain ⟨g1, g2⟩ := FIN.out 2 f.val (by omega) rfl HK6.out
          have HG1 := hidp g1
          have HG2 := hidp g2
          clear g1 g2 FIN
          obtain ⟨i0, i1, i2⟩ := ix3 f.key.subj f.key.obj f.val wb
          have j0 : (Instr.index 70 (.agg #[.int .i64 f.key.subj, .int .i64 f.key.obj, .int .i64 f.val]) (.int .i64 ((0 : Nat) : Int))).run Tryz.prog wb = .ok (.int .i64 f.key.subj) wb := i0
          have j1 : (Instr.index 70 (.agg #[.int .i64 f.key.subj, .int .i64 f.key.obj, .int .i64 f.val]) (.int .i64 ((0 + 1 : Nat) : Int))).run Tryz.prog wb = .ok (.int .i64 f.key.obj) wb := i1
          have j2 : (Instr.index 70 (.agg #[.int .i64 f.key.subj, .int .i64 f.key.obj, .int .i64 f.val]) (.int .i64 ((0 + 1 + 1 : Nat) : Int))).run Tryz.prog wb = .ok (.int .i64 f.val) wb := i2
          by_cases hv : 0 ≤ f.val
          · obtain ⟨w', hrun, hkm', hb'⟩ := HG2.out hv
            have HKM' := hidp hkm'
            have HB' := hidp hb'
            clear hkm' hb'
            go_wp2_with fail
            go_roundw
            case rel => exact ⟨3, by omega, by go_num, HKM'.out, HB'.out⟩
            case measure => simp [intOf]
          · have hvn : f.val < 0 := by omega
            have hkm' := HG1.out hvn
            have HKM' := hidp hkm'
            clear hkm'
            go_wp2_with fail
            go_roundw
            case rel => exact ⟨3, by omega, by go_num, HKM'.out, HB6.out⟩
            case measure => simp [intOf]
        case succ.succ.succ =>
          obtain rfl : j = 0 := by omega
          have HS : Hid (domSet (l.take (k + 1)) = domPart (domSet (l.take k)) f 3) := by
            show _ = _
            rw [take_snoc HF.out]; simp [domSet, domPart]
          go_wp2_with fail
          go_roundw
          case rel => exact ⟨k + 1, by omega, by go_num, by rw [HS.out]; exact HK6.out, HB6.out⟩
          case measure => simp [intOf]; omega
    · obtain rfl : k = n := by omega
      have HAll : Hid (l.take k = l) := List.take_of_length_le (by rw [← HN.out]; exact Nat.le_refl _)
      rw [HAll.out] at HK
      have hkk : ¬ ((k : Int) < k) := by omega
      have hlen : (domSet l).length ≤ 1000000 := by have := domSet_len l; have := HN.out; omega
      have hbz := HB.out.size
      have HLe := hidp hlen
      clear hlen
      go_wp2_with fail
      refine (keysI_any _ _).mono ?_
      rintro e w1 ⟨rfl, hw1⟩
      have hm1 : w1.heap[wr.heap.size]? = some (.cells #[.map (some w.heap.size)] 69 (0, 0)) := by rw [← hw1]; exact World.alloc_heap_new _ _
      have hkm1 : KM iV w1 w.heap.size (domSet l) := by rw [← hw1]; exact HK.out.keep (Below.heap_alloc _ _ _ HK.out.lt)
      have hbw1 : Below w.heap.size w w1 := by rw [← hw1]; exact HB.out.alloc HB.out.size _
      have hlm := lt_of_heap hm1
      have hlk := hkm1.lt
      have HSq := hidp (keysI1_seq wr.heap.size w.heap.size (domSet l) w1 (cell_of_heap hm1) hkm1)
      clear hw1 hm1 hkm1
      go_wp2_with fail
      refine (sortedI_any 75 _ (enters_of Tryz.func75 (by kernel_rfl) rfl) _ _ w1 HSq.out (fun q h => by rcases h with h | h <;> omega) (fun xs h => by rw [h.length_eq]; exact HLe.out)).mono ?_
      rintro e w2 ⟨v, xs, rfl, hx, ho, hb2⟩
      have hB2 : Below w.heap.size w w2 := hbw1.trans (hb2.mono hbw1.size)
      rw [dom_eq hx] at ho
      have hxl : xs.length = (domR l).length := by rw [← dom_eq hx, List.length_mergeSort]
      rw [hxl] at ho
      obtain ⟨A2, c2, rfl, hrow⟩ := own_rows iEnc_len (by decide) ho
      have HR := hidp (own_monoB ho hbw1.size)
      clear hx ho hb2 hrow hbw1 hlm hlk hxl
      go_wp2_with fail
      go_ret
      exact ⟨A2, c2, rfl, HR.out, hB2⟩
end Go.Proofs.YtbegdcjofnfkiaaGreatDoor
