/- Several texts in one: J26 A27 A28. -/
import Derived.Test.YtbegdcjofnfkiaaGreatDoorQ23
import Derived.Test.YtbegdcjofnfkiaaGreatDoorJ20
import Derived.Test.YtbegdcjofnfkiaaGreatDoorQ7
import Derived.Test.YtbegdcjofnfkiaaGreatDoorA26
import Derived.Deep.DeepCutAuto
import Derived.Deep.CutBlock
import Derived.Deep.RegionHeld3
import Derived.BigRegion
namespace Go.Proofs.YtbegdcjofnfkiaaGreatDoor
section
open Go.RowKit Go.Shelf Go.Sort
def exQ (k : Int) : Qu := ⟨none, 2, 2, [⟨#[115]⟩, ⟨#[103]⟩], none, 2, 2, [0, 1], none, 1, 1, [askAm k], none, 0, 0, []⟩
theorem ex_check (k : Int) (h : k = 10 ∨ k = 9) : checkJ wdJ (exQ k) = true := by rcases h with rfl | rfl <;> decide +kernel
theorem ex_rows10 : rowsJ (exQ 10) [gradeF] = [[4, 6]] := by decide +kernel
theorem ex_rows9 : rowsJ (exQ 9) [gradeF] = [] := by decide +kernel
theorem ex_rows0 : rowsJ (exQ 10) [] = [] := by decide +kernel
theorem ex_ful10 : (fulJ (exQ 10) [gradeF]).length = 1 := by decide +kernel
theorem ex_ful9 : (fulJ (exQ 9) [gradeF]).length = 0 := by decide +kernel
theorem ex_ful0 : (fulJ (exQ 10) []).length = 0 := by decide +kernel
theorem ex_dom : domR [gradeF] = [4, 6, 17] := by decide +kernel
theorem ex_holds1 : holdsJ (exQ 10) [gradeF] [4, 6] = true := by decide +kernel
theorem ex_holds2 : holdsJ (exQ 10) [gradeF] [4, 7] = false := by decide +kernel
theorem asked_same {y : Qu} {k : Int} (h : AskedQ y k) : checkJ wdJ y = checkJ wdJ (exQ k) ∧ (∀ l, rowsJ y l = rowsJ (exQ k) l) ∧ (∀ l, fulJ y l = fulJ (exQ k) l) ∧ (∀ l v, holdsJ y l v = holdsJ (exQ k) l v) ∧ y.names.length = 2 := by
 obtain ⟨nA, nn, nc, ns, sA, sn, sc, ss, aA, an, ac, as', tA, tn, tc, ts⟩ := y
 obtain ⟨h1, h2, h3, h4⟩ := h
 simp only at h1 h2 h3 h4
 subst h1 h2 h3 h4
 exact ⟨rfl, fun _ => rfl, fun _ => rfl, fun _ _ => rfl, rfl⟩
set_option maxRecDepth 100000 in
set_option maxHeartbeats 4000000 in
theorem sane_any (w : World) (hw : WordsAt w) : Calls Tryz.prog 6 #[] w fun e w' => e = .returned (.bool true) ∧ Below w.heap.size w w' := by
 have HWd : Hid (∀ W, Below w.heap.size w W → WordsAt W) := fun W hb => hw.below hb
 have HB0 := hidp (Below.refl w.heap.size w)
 clear hw
 go_enter Tryz.func6, Tryz.ntmps6
 go_wp2_with fail
 refine (graded_any _).mono ?_
 rintro e w1 ⟨A, c, rfl, hl, hb1⟩
 have HB1 := hidp (HB0.out.trans hb1)
 have HL : Hid (∀ W, Below w1.heap.size w1 W → fSl W W.heap.size A 1 c [gradeF]) := fun W h => hl.keep (Rep.flat_stable _) h.size h.block
 have hc1 := hl.2.1
 have hc2 := hl.2.2.1
 clear hl hb1
 have HT : Hid (Below w1.heap.size w1 w1) := Below.refl _ _
 go_wp2_with fail
 refine (asked_any 10 _).mono ?_
 rintro e w2 ⟨y2, rfl, hq2, ha2, hb2⟩
 have hs2 := asked_same ha2
 have HQ2 := hidp hq2
 have HT2 := hidp (HT.out.trans (hb2.mono HT.out.size))
 have HS2 := hidp hs2
 clear hq2 ha2 hb2 hs2
 go_wp2_with fail
 have hE3 : rowsE y2 = 0 := by unfold rowsE; rw [HS2.out.1, ex_check 10 (by decide)]; rfl
 have hV3 : rowsV y2 [gradeF] = [[4, 6]] := by unfold rowsV; rw [HS2.out.1, ex_check 10 (by decide), if_pos rfl, HS2.out.2.1]; exact ex_rows10 
 have HE3 := hidp hE3
 have HV3 := hidp hV3
 clear hE3 hV3
 refine (rows_any y2 A 1 c [gradeF] _ HQ2.out (HWd.out _ (HB1.out.trans (HT2.out.mono HB1.out.size))) (HL.out _ HT2.out) (by decide) (fun _ => by rw [HS2.out.2.2.1, ex_ful10]; decide)).mono ?_
 rintro e w3 ⟨A3, n3, c3, rfl, hr3, hb3⟩
 rw [HE3.out]
 rw [HV3.out] at hr3
 obtain rfl : n3 = 1 := hr3.len.1
 have HR3 : Hid (∀ W, Below w3.heap.size w3 W → RowsIn W A3 1 c3 [[4, 6]]) := fun W h => hr3.keep h
 have HT3 := hidp (HT2.out.trans (hb3.mono HT2.out.size))
 have HU3 : Hid (Below w3.heap.size w3 w3) := Below.refl _ _
 clear hr3 hb3
 go_wp2_with fail
 refine (asked_any 9 _).mono ?_
 rintro e w4 ⟨y4, rfl, hq4, ha4, hb4⟩
 have hs4 := asked_same ha4
 have HQ4 := hidp hq4
 have HT4 := hidp (HT3.out.trans (hb4.mono HT3.out.size))
 have HS4 := hidp hs4
 have HUU4 := hidp (HU3.out.trans (hb4.mono HU3.out.size))
 clear hq4 ha4 hb4 hs4
 go_wp2_with fail
 have hE5 : rowsE y4 = 0 := by unfold rowsE; rw [HS4.out.1, ex_check 9 (by decide)]; rfl
 have hV5 : rowsV y4 [gradeF] = [] := by unfold rowsV; rw [HS4.out.1, ex_check 9 (by decide), if_pos rfl, HS4.out.2.1]; exact ex_rows9
 have HE5 := hidp hE5
 have HV5 := hidp hV5
 clear hE5 hV5
 refine (rows_any y4 A 1 c [gradeF] _ HQ4.out (HWd.out _ (HB1.out.trans (HT4.out.mono HB1.out.size))) (HL.out _ HT4.out) (by decide) (fun _ => by rw [HS4.out.2.2.1, ex_ful9]; decide)).mono ?_
 rintro e w5 ⟨A5, n5, c5, rfl, hr5, hb5⟩
 rw [HE5.out]
 rw [HV5.out] at hr5
 obtain rfl : n5 = 0 := hr5.len.1
 have HR5 : Hid (∀ W, Below w5.heap.size w5 W → RowsIn W A5 0 c5 []) := fun W h => hr5.keep h
 have HT5 := hidp (HT4.out.trans (hb5.mono HT4.out.size))
 have HU5 : Hid (Below w5.heap.size w5 w5) := Below.refl _ _
 have HUU5 := hidp (HUU4.out.trans (hb5.mono HUU4.out.size))
 clear hr5 hb5
 go_wp2_with fail
 refine (asked_any 10 _).mono ?_
 rintro e w6 ⟨y6, rfl, hq6, ha6, hb6⟩
 have hs6 := asked_same ha6
 have HQ6 := hidp hq6
 have HT6 := hidp (HT5.out.trans (hb6.mono HT5.out.size))
 have HS6 := hidp hs6
 have HUU6 := hidp (HUU5.out.trans (hb6.mono HUU5.out.size))
 clear hq6 ha6 hb6 hs6
 go_wp2_with fail
 have hE7 : rowsE y6 = 0 := by unfold rowsE; rw [HS6.out.1, ex_check 10 (by decide)]; rfl
 have hV7 : rowsV y6 [gradeF] = [[4, 6]] := by unfold rowsV; rw [HS6.out.1, ex_check 10 (by decide), if_pos rfl, HS6.out.2.1]; exact ex_rows10
 have HE7 := hidp hE7
 have HV7 := hidp hV7
 clear hE7 hV7
 refine (count_any y6 A 1 c [gradeF] _ HQ6.out (HWd.out _ (HB1.out.trans (HT6.out.mono HB1.out.size))) (HL.out _ HT6.out) (by decide) (fun _ => by rw [HS6.out.2.2.1, ex_ful10]; decide)).mono ?_
 rintro e w7 ⟨rfl, hb7⟩
 rw [HE7.out, HV7.out]
 have HT7 := hidp (HT6.out.trans (hb7.mono HT6.out.size))
 have HUU7 := hidp (HUU6.out.trans (hb7.mono HUU6.out.size))
 clear hb7
 go_wp2_with fail
 refine (asked_any 10 _).mono ?_
 rintro e w8 ⟨y8, rfl, hq8, ha8, hb8⟩
 have hs8 := asked_same ha8
 have HQ8 := hidp hq8
 have HT8 := hidp (HT7.out.trans (hb8.mono HT7.out.size))
 have HS8 := hidp hs8
 have HUU8 := hidp (HUU7.out.trans (hb8.mono HUU7.out.size))
 clear hq8 ha8 hb8 hs8
 obtain ⟨X9, hX9⟩ : ∃ X, w8.alloc (.cells #[.int .i64 4, .int .i64 6] 3) = X := ⟨_, rfl⟩
 have hbx9 : Below w8.heap.size w8 X9 := by rw [← hX9]; exact (Below.refl _ _).alloc (Nat.le_refl _) _
 have hv9 : iSl X9 X9.heap.size (some ⟨w8.heap.size, 0, none⟩) 2 2 [4, 6] := rows_of_heap (l := [(4 : Int), 6]) iEnc_len (by rw [← hX9]; exact World.alloc_heap_new _ _) (Nat.le_refl _) (by decide) rfl
 have HV9 := hidp hv9
 have HX9 := hidp hX9
 have HTx9 := hidp (HT8.out.trans (hbx9.mono HT8.out.size))
 have hbX9 := hbx9
 have HQx9 : Hid (QuIn y8 X9 X9.heap.size) := HQ8.out.keep hbx9.size hbx9.block
 have hE9 : holdE y8 [4, 6] = 0 := by unfold holdE; rw [HS8.out.1, ex_check 10 (by decide), if_pos rfl, HS8.out.2.2.2.2]; rfl
 have hW9 : holdV y8 [gradeF] [4, 6] = true := by unfold holdV; rw [HS8.out.1, ex_check 10 (by decide), HS8.out.2.2.2.1, HS8.out.2.2.2.2]; rw [ex_holds1]; rfl
 have HE9 := hidp hE9
 have HW9 := hidp hW9
 have HUU900 := hidp (HUU8.out.trans (hbX9.mono HUU8.out.size))
 clear hX9 hbx9 hbX9 hv9 hE9 hW9
 go_wp2_with fail
 rw [HX9.out]
 refine (holds_any y8 A 1 c [gradeF] _ 2 2 [4, 6] _ HQx9.out (HWd.out _ (HB1.out.trans (HTx9.out.mono HB1.out.size))) (HL.out _ HTx9.out) HV9.out).mono ?_
 rintro e w9 ⟨rfl, hb9⟩
 rw [HE9.out, HW9.out]
 have HT9 := hidp (HTx9.out.trans (hb9.mono HTx9.out.size))
 have HUU9 := hidp (HUU900.out.trans (hb9.mono HUU900.out.size))
 clear hb9
 go_wp2_with fail
 refine (asked_any 10 _).mono ?_
 rintro e w10 ⟨y10, rfl, hq10, ha10, hb10⟩
 have hs10 := asked_same ha10
 have HQ10 := hidp hq10
 have HT10 := hidp (HT9.out.trans (hb10.mono HT9.out.size))
 have HS10 := hidp hs10
 have HUU10 := hidp (HUU9.out.trans (hb10.mono HUU9.out.size))
 clear hq10 ha10 hb10 hs10
 obtain ⟨X11, hX11⟩ : ∃ X, w10.alloc (.cells #[.int .i64 4, .int .i64 7] 3) = X := ⟨_, rfl⟩
 have hbx11 : Below w10.heap.size w10 X11 := by rw [← hX11]; exact (Below.refl _ _).alloc (Nat.le_refl _) _
 have hv11 : iSl X11 X11.heap.size (some ⟨w10.heap.size, 0, none⟩) 2 2 [4, 7] := rows_of_heap (l := [(4 : Int), 7]) iEnc_len (by rw [← hX11]; exact World.alloc_heap_new _ _) (Nat.le_refl _) (by decide) rfl
 have HV11 := hidp hv11
 have HX11 := hidp hX11
 have HTx11 := hidp (HT10.out.trans (hbx11.mono HT10.out.size))
 have hbX11 := hbx11
 have HQx11 : Hid (QuIn y10 X11 X11.heap.size) := HQ10.out.keep hbx11.size hbx11.block
 have hE11 : holdE y10 [4, 7] = 0 := by unfold holdE; rw [HS10.out.1, ex_check 10 (by decide), if_pos rfl, HS10.out.2.2.2.2]; rfl
 have hW11 : holdV y10 [gradeF] [4, 7] = false := by unfold holdV; rw [HS10.out.1, ex_check 10 (by decide), HS10.out.2.2.2.1, HS10.out.2.2.2.2]; rw [ex_holds2]; rfl
 have HE11 := hidp hE11
 have HW11 := hidp hW11
 have HUU1100 := hidp (HUU10.out.trans (hbX11.mono HUU10.out.size))
 clear hX11 hbx11 hbX11 hv11 hE11 hW11
 go_wp2_with fail
 rw [HX11.out]
 refine (holds_any y10 A 1 c [gradeF] _ 2 2 [4, 7] _ HQx11.out (HWd.out _ (HB1.out.trans (HTx11.out.mono HB1.out.size))) (HL.out _ HTx11.out) HV11.out).mono ?_
 rintro e w11 ⟨rfl, hb11⟩
 rw [HE11.out, HW11.out]
 have HT11 := hidp (HTx11.out.trans (hb11.mono HTx11.out.size))
 have HUU11 := hidp (HUU1100.out.trans (hb11.mono HUU1100.out.size))
 clear hb11
 go_wp2_with fail
 refine (asked_any 10 _).mono ?_
 rintro e w12 ⟨y12, rfl, hq12, ha12, hb12⟩
 have hs12 := asked_same ha12
 have HQ12 := hidp hq12
 have HT12 := hidp (HT11.out.trans (hb12.mono HT11.out.size))
 have HS12 := hidp hs12
 have HUU12 := hidp (HUU11.out.trans (hb12.mono HUU11.out.size))
 clear hq12 ha12 hb12 hs12
 obtain ⟨X13, hX13⟩ : ∃ X, w12.alloc (.cells #[.int .i64 4] 3) = X := ⟨_, rfl⟩
 have hbx13 : Below w12.heap.size w12 X13 := by rw [← hX13]; exact (Below.refl _ _).alloc (Nat.le_refl _) _
 have hv13 : iSl X13 X13.heap.size (some ⟨w12.heap.size, 0, none⟩) 1 1 [4] := rows_of_heap (l := [(4 : Int)]) iEnc_len (by rw [← hX13]; exact World.alloc_heap_new _ _) (Nat.le_refl _) (by decide) rfl
 have HV13 := hidp hv13
 have HX13 := hidp hX13
 have HTx13 := hidp (HT12.out.trans (hbx13.mono HT12.out.size))
 have hbX13 := hbx13
 have HQx13 : Hid (QuIn y12 X13 X13.heap.size) := HQ12.out.keep hbx13.size hbx13.block
 have hE13 : holdE y12 [4] = 510 := by unfold holdE; rw [HS12.out.1, ex_check 10 (by decide), if_pos rfl, HS12.out.2.2.2.2]; rfl
 have hW13 : holdV y12 [gradeF] [4] = false := by unfold holdV; rw [HS12.out.1, ex_check 10 (by decide), HS12.out.2.2.2.1, HS12.out.2.2.2.2]; rfl
 have HE13 := hidp hE13
 have HW13 := hidp hW13
 have HUU1300 := hidp (HUU12.out.trans (hbX13.mono HUU12.out.size))
 clear hX13 hbx13 hbX13 hv13 hE13 hW13
 go_wp2_with fail
 rw [HX13.out]
 refine (holds_any y12 A 1 c [gradeF] _ 1 1 [4] _ HQx13.out (HWd.out _ (HB1.out.trans (HTx13.out.mono HB1.out.size))) (HL.out _ HTx13.out) HV13.out).mono ?_
 rintro e w13 ⟨rfl, hb13⟩
 rw [HE13.out, HW13.out]
 have HT13 := hidp (HTx13.out.trans (hb13.mono HTx13.out.size))
 have HUU13 := hidp (HUU1300.out.trans (hb13.mono HUU1300.out.size))
 clear hb13
 go_wp2_with fail
 refine (asked_any 10 _).mono ?_
 rintro e w14 ⟨y14, rfl, hq14, ha14, hb14⟩
 have hs14 := asked_same ha14
 have HQ14 := hidp hq14
 have HT14 := hidp (HT13.out.trans (hb14.mono HT13.out.size))
 have HS14 := hidp hs14
 have HUU14 := hidp (HUU13.out.trans (hb14.mono HUU13.out.size))
 clear hq14 ha14 hb14 hs14
 go_wp2_with fail
 have hE15 : rowsE y14 = 0 := by unfold rowsE; rw [HS14.out.1, ex_check 10 (by decide)]; rfl
 have hV15 : rowsV y14 [] = [] := by unfold rowsV; rw [HS14.out.1, ex_check 10 (by decide), if_pos rfl, HS14.out.2.1]; exact ex_rows0
 have HE15 := hidp hE15
 have HV15 := hidp hV15
 clear hE15 hV15
 refine (rows_any y14 none 0 0 [] _ HQ14.out (HWd.out _ (HB1.out.trans (HT14.out.mono HB1.out.size))) (Rows.nil (Nat.zero_le _)) (by decide) (fun _ => by rw [HS14.out.2.2.1, ex_ful0]; decide)).mono ?_
 rintro e w15 ⟨A15, n15, c15, rfl, hr15, hb15⟩
 rw [HE15.out]
 rw [HV15.out] at hr15
 obtain rfl : n15 = 0 := hr15.len.1
 have HR15 : Hid (∀ W, Below w15.heap.size w15 W → RowsIn W A15 0 c15 []) := fun W h => hr15.keep h
 have HT15 := hidp (HT14.out.trans (hb15.mono HT14.out.size))
 have HU15 : Hid (Below w15.heap.size w15 w15) := Below.refl _ _
 have HUU15 := hidp (HUU14.out.trans (hb15.mono HUU14.out.size))
 clear hr15 hb15
 obtain ⟨P1, hP1⟩ : ∃ X, w15.alloc (.cells #[.int .i64 4, .int .i64 6] 3) = X := ⟨_, rfl⟩
 obtain ⟨P2, hP2⟩ : ∃ X, P1.alloc (.cells #[.slice (some ⟨w15.heap.size, 0, none⟩) 2 2] 23) = X := ⟨_, rfl⟩
 have pb1 : Below w15.heap.size w15 P1 := by rw [← hP1]; exact (Below.refl _ _).alloc (Nat.le_refl _) _
 have pb2 : Below P1.heap.size P1 P2 := by rw [← hP2]; exact (Below.refl _ _).alloc (Nat.le_refl _) _
 have pz : P1.heap.size = w15.heap.size + 1 := by rw [← hP1]; simp
 have pv : iSl P2 P2.heap.size (some ⟨w15.heap.size, 0, none⟩) 2 2 [4, 6] := rows_of_heap (l := [(4 : Int), 6]) iEnc_len ((pb2.block _ (by omega)).trans (by rw [← hP1]; exact World.alloc_heap_new _ _)) (Nat.le_refl _) (by decide) rfl
 have pr : RowsIn P2 (some ⟨w15.heap.size + 1, 0, none⟩) 1 1 [[4, 6]] := ⟨[⟨some ⟨w15.heap.size, 0, none⟩, 2, [4, 6]⟩], rfl, rows_of_heap (l := [(⟨some ⟨w15.heap.size, 0, none⟩, 2, [4, 6]⟩ : Rw)]) rwEnc_len (by rw [← hP2, ← pz]; exact World.alloc_heap_new _ _) (Nat.le_refl _) (by decide) rfl, fun r hr => by rw [List.mem_singleton.1 hr]; exact pv⟩
 have pb := pb1.trans (pb2.mono pb1.size)
 have HPR := hidp pr
 have HPB := hidp pb
 have HTP := hidp (HT15.out.trans (pb.mono HT15.out.size))
 have HUP := hidp (HUU15.out.trans (pb.mono HUU15.out.size))
 have HP : Hid ((w15.alloc (.cells #[.int .i64 4, .int .i64 6] 3)).alloc (.cells #[.slice (some ⟨w15.heap.size, 0, none⟩) 2 2] 23) = P2) := by show _ = _; rw [hP1]; exact hP2
 clear hP1 hP2 pb1 pb2 pz pv pr pb
 go_wp2_with fail
 rw [HP.out]
 refine (r51Same_any _ _ 1 1 _ 1 [[4, 6]] [[4, 6]] _ (HR3.out _ HUP.out) HPR.out).mono ?_
 rintro e z1 ⟨rfl, hz1⟩
 rw [show decide (([[4, 6]] : List (List Int)) = [[4, 6]]) = true by decide]
 have HTz1 := hidp (HTP.out.trans (hz1.mono HTP.out.size))
 clear hz1
 go_wp2_with fail
 refine (domain_any A 1 c [gradeF] _ (HL.out _ HTz1.out) (by decide)).mono ?_
 rintro e z2 ⟨A2, c2, rfl, ho2, hz2⟩
 rw [ex_dom] at ho2
 have hd2 := own_rows iEnc_len (by decide) ho2
 obtain ⟨Ad, cd, he2, hr2⟩ := hd2
 injection he2 with e1 e2 e3
 subst e1 e3
 rw [show (domR [gradeF]).length = 3 by rw [ex_dom]; rfl]
 obtain ⟨P3, hP3⟩ : ∃ X, z2.alloc (.cells #[.int .i64 4, .int .i64 6, .int .i64 17] 3) = X := ⟨_, rfl⟩
 have pb3 : Below z2.heap.size z2 P3 := by rw [← hP3]; exact (Below.refl _ _).alloc (Nat.le_refl _) _
 have pv3 : iSl P3 P3.heap.size (some ⟨z2.heap.size, 0, none⟩) 3 3 [4, 6, 17] := rows_of_heap (l := [(4 : Int), 6, 17]) iEnc_len (by rw [← hP3]; exact World.alloc_heap_new _ _) (Nat.le_refl _) (by decide) rfl
 have pr3 : iSl P3 P3.heap.size A2 3 c2 [4, 6, 17] := hr2.keep (Rep.flat_stable _) pb3.size pb3.block
 have HTz2 := hidp (HTz1.out.trans ((hz2.trans (pb3.mono hz2.size)).mono HTz1.out.size))
 have HV3' := hidp pv3
 have HR3' := hidp pr3
 have HP3 := hidp hP3
 clear ho2 hr2 hz2 pb3 pv3 pr3 hP3
 go_wp2_with fail
 rw [HP3.out]
 refine (r51SameInts_any _ _ 3 3 _ 3 [4, 6, 17] [4, 6, 17] _ HR3'.out HV3'.out).mono ?_
 rintro e z3 ⟨rfl, hz3⟩
 rw [show decide (([4, 6, 17] : List Int) = [4, 6, 17]) = true by decide]
 have HTz3 := hidp (HTz2.out.trans (hz3.mono HTz2.out.size))
 clear hz3
 go_wp2_with fail
 refine (domain_any none 0 0 [] _ (Rows.nil (Nat.zero_le _)) (by decide)).mono ?_
 rintro e z4 ⟨A4, c4, rfl, ho4, hz4⟩
 rw [show (domR []).length = 0 from rfl]
 have HTz4 := hidp (HTz3.out.trans (hz4.mono HTz3.out.size))
 clear ho4 hz4
 go_wp2_with fail
 go_ret
 exact ⟨rfl, HB1.out.trans (HTz4.out.mono HB1.out.size)⟩
end
section
open Go.RowKit Go.Shelf
structure PsS (s : Ps) (w : World) : Prop where
 inn : PsIn s w w.heap.size
 slim : ∀ g ∈ s.gs, g.fn ≤ 1000000 ∧ g.kn ≤ 1000000
theorem PsS.later {s : Ps} {w w' : World} (h : PsS s w) (hb : Below w.heap.size w w') : PsS s w' := ⟨h.inn.later hb, h.slim⟩
theorem PsBl.lt {s : Ps} {w : World} {n x : Nat} (h : PsIn s w n) (hx : PsBl s x) : x < n := by
 rcases hx with ⟨hn, off, e⟩ | ⟨hn, off, e⟩ | ⟨g, hg, hx⟩
 ·obtain ⟨b, o, e2, hlt, _⟩ := h.pages.2.2.2 hn
  rw [e] at e2; cases e2; exact hlt
 ·obtain ⟨b, o, e2, hlt, _⟩ := h.roots.2.2.2 hn
  rw [e] at e2; cases e2; exact hlt
 ·exact PgBl.lt (h.each g hg) hx
theorem PsIn.only {s : Ps} {X : Nat} {w w' : World} (h : PsIn s w w.heap.size) (hO : Only X w w') (hX : ∀ x, PsBl s x → x ≠ X) : PsIn s w' w'.heap.size := by
 have hb : ∀ {α : Type} {k : Nat} {enc : α → List Value} {n c : Nat} {A : Option Addr} {l : List α}, Rows k (Rep.flat enc) w w.heap.size A n c l → (∀ x off, 0 < n → A = some ⟨x, off, none⟩ → x ≠ X) → Rows k (Rep.flat enc) w' w'.heap.size A n c l := fun hr hx =>
  rows_at hr fun hn b off e => by
   obtain ⟨b2, o2, e2, hlt, _⟩ := hr.2.2.2 hn
   rw [e] at e2; cases e2
   exact ⟨by rw [hO.size]; exact hlt, hO.block b (hx b off hn e)⟩
 exact ⟨hb h.pages fun x off hn e => hX x (.inl ⟨hn, off, e⟩), fun g hg => ⟨hb (h.each g hg).1 fun x off hn e => hX x (.inr (.inr ⟨g, hg, .inl ⟨hn, off, e⟩⟩)), hb (h.each g hg).2 fun x off hn e => hX x (.inr (.inr ⟨g, hg, .inr ⟨hn, off, e⟩⟩))⟩, hb h.roots fun x off hn e => hX x (.inr (.inl ⟨hn, off, e⟩))⟩
abbrev psVal (s : Ps) : Value := .agg #[.slice s.pA s.pn s.pc, .slice s.rA s.rn s.rc]
def newPs (b : Nat) : Ps := ⟨some ⟨b, 0, none⟩, 1, 1, [⟨none, 0, 0, [], none, 0, 0, []⟩], some ⟨b + 1, 0, none⟩, 1, 1, [0]⟩
theorem newPs_psV (b : Nat) : psV (newPs b) = [⟨[], []⟩] := rfl
theorem newPs_in (W : World) : PsS (newPs W.heap.size) ((W.alloc (.cells #[.slice none 0 0, .slice none 0 0] 86)).alloc (.cells #[.int .i64 0] 3)) := by
 have z1 : (W.alloc (.cells #[.slice none 0 0, .slice none 0 0] 86)).heap.size = W.heap.size + 1 := by simp
 have h1 := World.alloc_heap_new W (.cells #[.slice none 0 0, .slice none 0 0] 86)
 have h2 := World.alloc_heap_new (W.alloc (.cells #[.slice none 0 0, .slice none 0 0] 86)) (.cells #[.int .i64 0] 3)
 rw [z1] at h2
 have h1' := (Below.heap_alloc (W.alloc (.cells #[.slice none 0 0, .slice none 0 0] 86)) (.cells #[.int .i64 0] 3) W.heap.size (by omega)).trans h1
 refine ⟨⟨?_, ?_, ?_⟩, ?_⟩
 ·exact rows_of_heap (l := [(⟨none, 0, 0, [], none, 0, 0, []⟩ : Pq)]) (c := 1) pgEnc_len h1' (by simp) (by omega) (by simp [pgEnc])
 ·intro g hg
  simp [newPs] at hg; subst hg
  exact ⟨Rows.nil (by show (0 : Nat) ≤ _; omega), Rows.nil (by show (0 : Nat) ≤ _; omega)⟩
 ·exact rows_of_heap (l := [(0 : Int)]) (c := 1) iEnc_len h2 (by simp) (by omega) (by simp [iEnc])
 ·intro g hg
  simp [newPs] at hg; subst hg
  simp
theorem newPs_bl {n x : Nat} (hx : PsBl (newPs (n + 1)) x) : n ≤ x := by
 rcases hx with ⟨_, off, h⟩ | ⟨_, off, h⟩ | ⟨g, hg, h⟩
 ·simp [newPs] at h; omega
 ·simp [newPs] at h; omega
 ·simp [newPs] at hg; subst hg
  rcases h with ⟨h, _⟩ | ⟨h, _⟩ <;> simp at h
def PsTy (s : Ps) (w : World) : Prop := ∀ x, PsBl s x → ∃ cs t, w.heap[x]? = some (.cells cs t (0, 0)) ∧ t ≠ 45 ∧ t ≠ 54
theorem newPs_ty (W : World) : PsTy (newPs W.heap.size) ((W.alloc (.cells #[.slice none 0 0, .slice none 0 0] 86)).alloc (.cells #[.int .i64 0] 3)) := by
 have z1 : (W.alloc (.cells #[.slice none 0 0, .slice none 0 0] 86)).heap.size = W.heap.size + 1 := by simp
 have h1 := World.alloc_heap_new W (.cells #[.slice none 0 0, .slice none 0 0] 86)
 have h2 := World.alloc_heap_new (W.alloc (.cells #[.slice none 0 0, .slice none 0 0] 86)) (.cells #[.int .i64 0] 3)
 rw [z1] at h2
 have h1' := (Below.heap_alloc (W.alloc (.cells #[.slice none 0 0, .slice none 0 0] 86)) (.cells #[.int .i64 0] 3) W.heap.size (by omega)).trans h1
 intro x hx
 rcases hx with ⟨_, off, h⟩ | ⟨_, off, h⟩ | ⟨g, hg, h⟩
 ·simp [newPs] at h; obtain ⟨rfl, _⟩ := h; exact ⟨_, _, h1', by decide, by decide⟩
 ·simp [newPs] at h; obtain ⟨rfl, _⟩ := h; exact ⟨_, _, h2, by decide, by decide⟩
 ·simp [newPs] at hg; subst hg
  rcases h with ⟨h, _⟩ | ⟨h, _⟩ <;> simp at h
def NewPost (w : World) (e : Ending) (w' : World) : Prop := ∃ s, e = .returned (psVal s) ∧ PsS s w' ∧ psV s = [⟨[], []⟩] ∧ s.roots = [0] ∧ Below w.heap.size w w' ∧ (∀ x, PsBl s x → w.heap.size ≤ x) ∧ PsTy s w'
set_option maxRecDepth 100000 in
set_option maxHeartbeats 1000000 in
theorem pgNew_any (w : World) : Calls Tryz.prog 18 #[] w (NewPost w) := by
 go_enter Tryz.func18, Tryz.ntmps18
 go_wp2_with fail
 have hz : (w.alloc (.cells #[.slice (some ⟨w.heap.size + 1, 0, none⟩) 1 1, .slice (some ⟨w.heap.size + 1 + 1, 0, none⟩) 1 1] 45)).heap.size = w.heap.size + 1 := by simp
 have hb0 : Below w.heap.size w (w.alloc (.cells #[.slice (some ⟨w.heap.size + 1, 0, none⟩) 1 1, .slice (some ⟨w.heap.size + 1 + 1, 0, none⟩) 1 1] 45)) := (Below.refl _ w).alloc (Nat.le_refl _) _
 have hb := (hb0.alloc (o := .cells #[.slice none 0 0, .slice none 0 0] 86) hb0.size).alloc (o := .cells #[.int .i64 0] 3) (by simp; omega)
 have hin := newPs_in (w.alloc (.cells #[.slice (some ⟨w.heap.size + 1, 0, none⟩) 1 1, .slice (some ⟨w.heap.size + 1 + 1, 0, none⟩) 1 1] 45))
 have h0 := World.alloc_heap_new w (.cells #[.slice (some ⟨w.heap.size + 1, 0, none⟩) 1 1, .slice (some ⟨w.heap.size + 1 + 1, 0, none⟩) 1 1] 45)
 have h0' := (Below.heap_alloc _ (.cells #[.int .i64 0] 3) w.heap.size (by simp; omega)).trans ((Below.heap_alloc _ (.cells #[.slice none 0 0, .slice none 0 0] 86) w.heap.size (by omega)).trans h0)
 have x0 := cell_of_heap (o := 0) h0'
 have x1 := cell_of_heap (o := 1) h0'
 simp only [List.getElem?_toArray, List.getElem?_cons_zero, List.getElem?_cons_succ] at x0 x1
 refine bodyPost_ret (v := .agg #[.slice (some ⟨w.heap.size + 1, 0, none⟩) 1 1, .slice (some ⟨w.heap.size + 1 + 1, 0, none⟩) 1 1]) (by simp [results, Tryz.results18, go_sem, x0, x1]) rfl ?_
 have hty := newPs_ty (w.alloc (.cells #[.slice (some ⟨w.heap.size + 1, 0, none⟩) 1 1, .slice (some ⟨w.heap.size + 1 + 1, 0, none⟩) 1 1] 45))
 rw [hz] at hin hty
 exact ⟨newPs (w.heap.size + 1), rfl, hin, newPs_psV _, rfl, hb, fun x hx => newPs_bl hx, hty⟩
end
section
open Go.RowKit Go.Shelf
structure FlS (st : Fst) (s : Ps) (w : World) : Prop where
 inn : PsS s w
 ps : psV s = st.ps
 roots : s.roots = st.roots
theorem FlS.later {st : Fst} {s : Ps} {w w' : World} (h : FlS st s w) (hb : Below w.heap.size w w') : FlS st s w' := ⟨h.inn.later hb, h.ps, h.roots⟩
def PutRes (ps : List Pv) (roots : List Int) (f : Fc) (s' : Ps) (w : World) : Prop := PsS s' w ∧ (putE ps roots f = 0 → psV s' = (putW ps (lastR roots) f).1 ∧ s'.roots = roots ++ [((putW ps (lastR roots) f).2 : Int)]) ∧ (putE ps roots f ≠ 0 → s'.gs = [] ∧ s'.roots = [])
theorem PutRes.later {ps : List Pv} {roots : List Int} {f : Fc} {s' : Ps} {w w' : World} (h : PutRes ps roots f s' w) (hb : Below w.heap.size w w') : PutRes ps roots f s' w' := ⟨h.1.later hb, h.2⟩
theorem PutRes.only {ps : List Pv} {roots : List Int} {f : Fc} {s' : Ps} {w w' : World} {X : Nat} (h : PutRes ps roots f s' w) (hO : Only X w w') (hX : ∀ x, PsBl s' x → x ≠ X) : PutRes ps roots f s' w' := ⟨⟨h.1.inn.only hO hX, h.1.slim⟩, h.2⟩
theorem put_any (s : Ps) (f : Fc) (n0 : Nat) (w : World) (hs : PsIn s w n0) (hn0 : n0 ≤ w.heap.size) (hsl : ∀ g ∈ s.gs, g.fn ≤ 1000000 ∧ g.kn ≤ 1000000) (hn : s.gs.length ≤ 100000 ∧ s.roots.length ≤ 100000) :
  Calls Tryz.prog 19 #[psVal s, .agg #[.int .i64 f.key.kind, .int .i64 f.key.subj, .int .i64 f.key.obj, .int .i64 f.val, .int .i64 f.fr, .int .i64 f.to, .int .i64 f.known, .int .i64 f.no]] w fun e w' => ∃ s', e = .returned (.tuple #[psVal s', .int .i64 (putE (psV s) s.roots f)]) ∧ PutRes (psV s) s.roots f s' w' ∧ Below w.heap.size w w' ∧ ∀ x, PsBl s' x → (∃ g ∈ s.gs, PgBl g x) ∨ w.heap.size ≤ x :=
 (pgPut_any s f n0 w hs hn0 hsl hn).mono fun _ _ ⟨s', h1, h2, h3, h4, h5, h6, h7⟩ => ⟨s', h1, ⟨⟨h2, h4⟩, h5, h6⟩, h3, h7⟩
end
end Go.Proofs.YtbegdcjofnfkiaaGreatDoor
