import Derived.Test.YtefjigjjanjlkaaT11
namespace Go.Proofs.Ytefjigjjanjlkaa
open Go.RowKit Go.Shelf

def mA : Mt := ⟨1, 510, 600, 1, 10⟩
def mB : Mt := ⟨1, 600, 700, 1, 10⟩

set_option maxRecDepth 100000 in
set_option maxHeartbeats 4000000 in
theorem sane_any (w : World) : Calls Try.prog 9 #[] w fun e w' => e = .returned (.bool true) ∧ Below w.heap.size w w' := by
  obtain ⟨i0, hi, hz, hs, hb⟩ := info_parts mtInfo
  go_enter Try.func9, Try.ntmps9
  go_wp2_with fail
  obtain ⟨W, hW⟩ : ∃ W, (w.alloc (.cells #[.int .i64 1, .int .i64 510, .int .i64 600, .int .i64 1, .int .i64 10] 38)).alloc (.cells #[.int .i64 1, .int .i64 600, .int .i64 700, .int .i64 1, .int .i64 10] 38) = W := ⟨_, rfl⟩
  have hWz : W.heap.size = w.heap.size + 2 := by rw [← hW]; simp
  have hBW : Below w.heap.size w W := by rw [← hW]; exact ((Below.refl _ w).alloc (Nat.le_refl _) _).alloc (by simp) _
  have hA : W.heap[w.heap.size]? = some (.cells #[.int .i64 1, .int .i64 510, .int .i64 600, .int .i64 1, .int .i64 10] 38 (0, 0)) := by
    rw [← hW]; exact (Below.heap_alloc _ _ _ (by simp)).trans (World.alloc_heap_new _ _)
  have hB : W.heap[w.heap.size + 1]? = some (.cells #[.int .i64 1, .int .i64 600, .int .i64 700, .int .i64 1, .int .i64 10] 38 (0, 0)) := by
    rw [← hW]; have := World.alloc_heap_new (w.alloc (.cells #[.int .i64 1, .int .i64 510, .int .i64 600, .int .i64 1, .int .i64 10] 38)) (.cells #[.int .i64 1, .int .i64 600, .int .i64 700, .int .i64 1, .int .i64 10] 38); rwa [World.size_alloc] at this
  rw [hW]
  have rA : MSl W W.heap.size (some ⟨w.heap.size, 0, none⟩) 1 1 [mA] := rows_of_heap (k := 5) (l := [mA]) (c := 1) mEnc_len hA (Nat.le_refl _) (by decide) rfl
  have rB : MSl W W.heap.size (some ⟨w.heap.size + 1, 0, none⟩) 1 1 [mB] := rows_of_heap (k := 5) (l := [mB]) (c := 1) mEnc_len hB (Nat.le_refl _) (by decide) rfl
  have HA := hidp hA
  have HW := hidp hWz
  clear hA hB hW hWz
  refine (minutes_any _ _ _ _ _ rA).mono ?_
  rintro e w1 ⟨rfl, hb1⟩
  rw [show checkM [mA] = 0 from by decide, show (if (0 : Int) = 0 then minsM [mA] else 0) = 900 from by decide]
  go_wp2_with fail
  refine (clash_any _ _ _ _ _ _ _ _ _ (rA.keep mStable hb1.size hb1.block) (rB.keep mStable hb1.size hb1.block)).mono ?_
  rintro e w2 ⟨rfl, hb2⟩
  rw [show clashR [mA] [mB] = false from by decide, show clashE [mA] [mB] = 0 from by decide]
  have hB2 := hb1.trans (hb2.mono hb1.size)
  clear hb1 hb2
  go_wp2_with fail
  refine (clash_any _ _ _ _ _ _ _ _ _ (rA.keep mStable hB2.size hB2.block) (rA.keep mStable hB2.size hB2.block)).mono ?_
  rintro e w3 ⟨rfl, hb3⟩
  rw [show clashR [mA] [mA] = true from by decide, show clashE [mA] [mA] = 0 from by decide]
  have hB3 := hB2.trans (hb3.mono hB2.size)
  clear hB2 hb3
  go_wp2_with fail
  refine (clash_any none none 0 0 0 0 [] [] _ (msl_nil _ _) (msl_nil _ _)).mono ?_
  rintro e w4 ⟨rfl, hb4⟩
  rw [show clashR [] [] = false from by decide, show clashE [] [] = 0 from by decide]
  have hB4 := hB3.trans (hb4.mono hB3.size)
  clear hB3 hb4
  go_wp2_with fail
  refine (free_nil_ok _).mono ?_
  rintro e w5 ⟨A5, c5, rfl, r5, hb5⟩
  have hB5 := hB4.trans (hb5.mono hB4.size)
  clear hB4 hb5
  go_wp2_with fail
  refine (free_nil_bad _).mono ?_
  rintro e w6 ⟨rfl, hb6⟩
  have hB6 := hB5.trans (hb6.mono hB5.size)
  have r6 := r5.keep sStable hb6.size hb6.block
  clear hB5 hb6 r5
  go_wp2_with fail
  have hnew : (w6.alloc (.cells #[.int .i64 0, .int .i64 1440] 42)).heap[w6.heap.size]? = some (.cells #[.int .i64 0, .int .i64 1440] 42 (0, 0)) := World.alloc_heap_new _ _
  have rS : SSl (w6.alloc (.cells #[.int .i64 0, .int .i64 1440] 42)) (w6.alloc (.cells #[.int .i64 0, .int .i64 1440] 42)).heap.size (some ⟨w6.heap.size, 0, none⟩) 1 1 [(0, 1440)] := rows_of_heap (k := 2) (l := [(0, 1440)]) (c := 1) sEnc_len hnew (Nat.le_refl _) (by decide) rfl
  have hB7 : Below W.heap.size W (w6.alloc (.cells #[.int .i64 0, .int .i64 1440] 42)) := hB6.alloc hB6.size _
  refine (sameSpans_any _ _ _ _ _ _ _ _ _ (r6.keep sStable (by simp) (fun b hb => Below.heap_alloc _ _ _ hb)) rS).mono ?_
  rintro e w8 ⟨rfl, hb8⟩
  rw [show decide ([((0 : Int), (1440 : Int))] = [(0, 1440)]) = true from by decide]
  have hB8 := hB7.trans (hb8.mono hB7.size)
  clear hB6 hB7 hb8 rS r6 hnew
  go_wp2_with fail
  refine (check_any none 0 0 [] _ (msl_nil _ _)).mono ?_
  rintro e w9 ⟨rfl, hb9⟩
  rw [show checkM [] = 0 from by decide]
  have hB9 := hB8.trans (hb9.mono hB8.size)
  clear hB8 hb9
  have hA9 : w9.heap[w.heap.size]? = some (.cells #[.int .i64 1, .int .i64 510, .int .i64 600, .int .i64 1, .int .i64 10] 38 (0, 0)) := (hB9.block _ (by have := HW.out; omega)).trans HA.out
  have hwW : w.heap.size ≤ w9.heap.size := by have := HW.out; have := hB9.size; omega
  have hown : w9.ownsRow w.heap.size 38 5 (.slice (some ⟨w.heap.size, 0, none⟩) 1 1) 1 ([mA].flatMap mEnc) :=
    ⟨rfl, .inr ⟨w.heap.size, 1, _, rfl, Nat.le_refl _, hA9, Nat.le_refl _, by decide, rfl, rfl⟩⟩
  obtain ⟨v', w10, hrun, hown', hg, hat⟩ := run_append_rows (P := Try.prog) (ty := 22) (enc := mEnc) Try.underlying22 hi hz hs hb rfl mEnc_len (by decide) mEnc_one hown (rA.keep mStable hB9.size hB9.block) (by omega) (by omega) hwW
  have HO := hidp hown'
  have HG := hidp hg
  have hsz10 := hg.size
  clear hown hown' hg hat hA9
  go_wp2_with (at_builtin; refine wpList_append_known rfl (.tmp 96) (.tmp 97) 22 rfl rfl rfl hrun ?_)
  obtain ⟨A, c, rfl, hr⟩ := own_rows mEnc_len (by decide) HO.out
  refine (check_any _ _ _ _ _ hr).mono ?_
  rintro e w11 ⟨rfl, hb11⟩
  rw [show checkM ([mA] ++ [mA]) = 220 from by decide]
  go_wp2_with fail
  go_ret
  refine ⟨rfl, (hBW.trans (hB9.mono ?_)).trans (Below.trans ?_ (hb11.mono ?_))⟩
  · have := HW.out; omega
  · exact (Below.refl _ _).grown HG.out (by omega) (fun k h => by simp [Value.ownBlock] at h; omega)
  · omega
end Go.Proofs.Ytefjigjjanjlkaa
