/- rules.value, rules.Holds (printed by tools/gen76.py). -/
import Derived.Test.YtbmbpannhncpjaaDoorU9
import Derived.Test.YtbmbpannhncpjaaDoorUP0
import Derived.Test.YtbmbpannhncpjaaDoorU6
import Derived.Test.YtbmbpannhncpjaaDoorU7
namespace Go.Proofs.YtbmbpannhncpjaaDoor
open Go.RowKit Go.Sort

/-- The operation of a rule is a number. -/
theorem holdsK_kn {x : Ru} (s : Si) (h : x.kn = x.kids.length) : valR s x = holdsK s x.op x.course x.n x.d x.kn (cntR s x.kids) := by rw [valR_eq, h]

set_option maxRecDepth 100000 in
set_option maxHeartbeats 8000000 in
theorem uvalue_any (s : Si) (hm : ratB s.num s.den = true) : ∀ (h : Nat) (x : Ru) (w : World), RuIn h w w.heap.size x → SiIn w w.heap.size s → KindsAt w → allF x = true →
    Calls Tryd.prog 29 #[.agg #[.int .i64 x.op, .int .i64 x.course, .string x.name, .int .i64 x.n, .int .i64 x.d, .slice x.kA x.kn x.kc], .agg #[.slice s.sA s.sn s.sc, .int .i64 s.earned, .int .i64 s.num, .int .i64 s.den]] w fun e w' => e = .returned (.bool (valR s x)) ∧ Below w.heap.size w w' := by
  have HM := hidp hm
  clear hm
  intro h
  induction h using Nat.strongRecOn with
  | _ h ih =>
  intro x w hr hs hkk hf
  have HI := hidp ih
  have HN := hidp hr.len
  have HV := hidp (holdsK_kn s hr.len)
  have hcap := hr.2.2.1
  have hlen := hr.2.1
  have HK := hidp (allF_kids hf)
  obtain ⟨ho1, ho2⟩ := formed_op (allF_formed hf)
  have HR8 := hidp (formed_mean (allF_formed hf))
  obtain ⟨W0, hW0⟩ : ∃ W0, (w.alloc (.cells #[.int .i64 x.op, .int .i64 x.course, .string x.name, .int .i64 x.n, .int .i64 x.d, .slice x.kA x.kn x.kc] 24)).alloc (.cells #[.slice s.sA s.sn s.sc, .int .i64 s.earned, .int .i64 s.num, .int .i64 s.den] 29) = W0 := ⟨_, rfl⟩
  have hBW : Below w.heap.size w W0 := by rw [← hW0]; exact ((Below.refl _ w).alloc (Nat.le_refl _) _).alloc (by simp) _
  have g1 : W0.heap[w.heap.size]? = some (.cells #[.int .i64 x.op, .int .i64 x.course, .string x.name, .int .i64 x.n, .int .i64 x.d, .slice x.kA x.kn x.kc] 24 (0, 0)) := by rw [← hW0]; exact (Below.heap_alloc _ _ _ (by simp)).trans (World.alloc_heap_new _ _)
  have g2 : W0.heap[w.heap.size + 1]? = some (.cells #[.slice s.sA s.sn s.sc, .int .i64 s.earned, .int .i64 s.num, .int .i64 s.den] 29 (0, 0)) := by rw [← hW0]; have := World.alloc_heap_new (w.alloc (.cells #[.int .i64 x.op, .int .i64 x.course, .string x.name, .int .i64 x.n, .int .i64 x.d, .slice x.kA x.kn x.kc] 24)) (.cells #[.slice s.sA s.sn s.sc, .int .i64 s.earned, .int .i64 s.num, .int .i64 s.den] 29); rwa [World.size_alloc] at this
  have HW0 := hidp hW0
  have l1 := lt_of_heap g1
  have l2 := lt_of_heap g2
  have G1 := hidp g1
  have G2 := hidp g2
  have x5 := cell_of_heap (o := 5) g1
  simp only [List.getElem?_toArray, List.getElem?_cons_zero, List.getElem?_cons_succ] at x5
  have lk := hkk.lt
  have HKK := hidp hkk
  clear hW0 g1 g2 ih hf hkk
  go_enter Tryd.func29, Tryd.ntmps29
  go_wp2_with fail
  rw [HW0.out]
  go_wp2_with fail
  clear x5
  go_loopw [5, 11] (fun nn i wr => ∃ (k cnt : Nat), k ≤ x.kn ∧ cnt ≤ k ∧ nn = .int .i64 cnt ∧ i = .int .i64 k ∧ cnt = cntR s (x.kids.take k) ∧ Below W0.heap.size W0 wr) (fun _ i _ => x.kn - (intOf i).toNat)
  case atStart => exact ⟨0, 0, by omega, by omega, rfl, rfl, rfl, Below.refl _ _⟩
  case round =>
    obtain ⟨k, cnt, hk, hck, rfl, rfl, hcnt, hbe⟩ := hrel
    have HC := hidp hcnt
    have hbw := hBW.trans (hbe.mono hBW.size)
    have e2 := (hbe.block _ l2).trans G2.out
    have y0 := cell_of_heap (o := 0) e2
    have y1 := cell_of_heap (o := 1) e2
    have y2 := cell_of_heap (o := 2) e2
    have y3 := cell_of_heap (o := 3) e2
    simp only [List.getElem?_toArray, List.getElem?_cons_zero, List.getElem?_cons_succ] at y0 y1 y2 y3
    have m2 := lt_of_heap e2
    clear hcnt
    by_cases hlt : k < x.kn
    · have hrq : RuIn h wr w.heap.size x := hr.below hbw
      obtain ⟨h', b, off, y, rfl, he, hb, hky, hry, c0, c1, c2, c3, c4, c5⟩ := hrq.get hlt
      have lb := lt_of_cell c0
      obtain ⟨W4, hW4⟩ : ∃ W4, wr.alloc (.cells #[.int .i64 y.op, .int .i64 y.course, .string y.name, .int .i64 y.n, .int .i64 y.d, .slice y.kA y.kn y.kc] 24) = W4 := ⟨_, rfl⟩
      have hb4 : Below wr.heap.size wr W4 := hW4 ▸ (Below.refl _ _).alloc (Nat.le_refl _) _
      have hbw4 := hbw.trans (hb4.mono hbw.size)
      have hcl := HI.out h' (Nat.lt_succ_self _) y W4 (hry.keep (Nat.le_trans hbw.size hb4.size) fun q hq => hb4.block q (Nat.lt_of_lt_of_le hq hbw.size)) (hs.keep hbw4.size hbw4.block) (HKK.out.below hbw4 lk) (allFL_mem HK.out hky)
      have HS : Hid (cntR s (x.kids.take (k + 1)) = cntR s (x.kids.take k) + if valR s y = true then 1 else 0) := cntR_step hky
      obtain ⟨q, hq⟩ : ∃ q, valR s y = q := ⟨_, rfl⟩
      rw [hq] at hcl
      have HQ := hidp hq
      have HCL := hidp hcl
      have hkn : (k : Int) < x.kn := by omega
      have HW4 := hidp hW4
      have HB4 := hidp hb4
      rw [he]
      clear hq hcl hW4 hky hry hrq hb4 hbw4 e2
      cases q
      · go_wp2_with fail
        rw [HW4.out]
        refine HCL.out.mono ?_
        rintro e w5 ⟨rfl, hb5⟩
        have hB5 : Below W0.heap.size W0 w5 := hbe.trans ((HB4.out.trans (hb5.mono HB4.out.size)).mono hbe.size)
        go_wp2_with fail
        go_roundw
        case rel => exact ⟨k + 1, cnt, by omega, by omega, rfl, by go_num, by rw [HS.out, ← HC.out, HQ.out]; simp, hB5⟩
        case measure => simp [intOf]; omega
      · go_wp2_with fail
        rw [HW4.out]
        refine HCL.out.mono ?_
        rintro e w5 ⟨rfl, hb5⟩
        have hB5 : Below W0.heap.size W0 w5 := hbe.trans ((HB4.out.trans (hb5.mono HB4.out.size)).mono hbe.size)
        go_wp2_with fail
        go_roundw
        case rel => exact ⟨k + 1, cnt + 1, by omega, by omega, by go_num, by go_num, by rw [HS.out, ← HC.out, HQ.out]; simp, hB5⟩
        case measure => simp [intOf]; omega
    · obtain rfl : k = x.kn := by omega
      have HC' : Hid (cntR s x.kids = cnt) := by have := HC.out; rw [List.take_of_length_le (by rw [← HN.out]; omega)] at this; exact this.symm
      have e1 := (hbe.block _ l1).trans G1.out
      have x0 := cell_of_heap (o := 0) e1
      have x1 := cell_of_heap (o := 1) e1
      have x2 := cell_of_heap (o := 2) e1
      have x3 := cell_of_heap (o := 3) e1
      have x4 := cell_of_heap (o := 4) e1
      have x5 := cell_of_heap (o := 5) e1
      simp only [List.getElem?_toArray, List.getElem?_cons_zero, List.getElem?_cons_succ] at x0 x1 x2 x3 x4 x5
      have m1 := lt_of_heap e1
      have hkr := HKK.out.below hbw lk
      have lkr := hkr.lt
      have hsr : SiIn wr w.heap.size s := hs.below hbw
      have HSR := hidp hsr
      have hop : x.op = 1 ∨ x.op = 2 ∨ x.op = 3 ∨ x.op = 4 ∨ x.op = 5 ∨ x.op = 6 ∨ x.op = 7 ∨ x.op = 8 ∨ x.op = 9 := by omega
      clear e1 e2 HN hk hlt hck
      go_wp2_with fail
      rcases hop with hop | hop | hop | hop | hop | hop | hop | hop | hop

      · have HR : Hid (valR s x = (decide (cnt = x.kn))) := by show _ = _; rw [HV.out, HC'.out, hop]; rfl
        have q5 : wr.cell? ⟨0, 11, none⟩ = some (.func (.func 120) #[] #[]) := hkr.cell 11
        rw [hop] at x0
        obtain ⟨z, hz⟩ : ∃ z, (decide (cnt = x.kn)) = z := ⟨_, rfl⟩
        have hcl := fun (W : World) (h9 : Below wr.heap.size wr W) => k2_any 1 x.course x.n x.d x.name x.kA x.kn x.kc s cnt W
        rw [hz] at hcl HR
        have HCL := hidp hcl
        clear hcl hz hop hkr hsr hr hs
        refine wp_region_below wr.heap.size (by kernel_rfl) (by kernel_rfl) ?_
        iterate 8
          refine q_step (by rfl) ?_
          apply Exists.intro
          refine ⟨fun w9 h9 => ?_, ?_⟩
          · have hc9 := (bcell h9).1
            go_simp
            first | done | rfl
          go_simp
        refine q_step (by rfl) ⟨.bool z, fun w9 h9 => ?_, ?_⟩
        · have hc9 := (bcell h9).1
          go_simp
          exact calls_below h9 (Nat.le_refl _) (HCL.out w9 h9)
        go_simp
        refine q_step (by rfl) ⟨.bool z, fun w9 h9 => ?_, ?_⟩
        · go_simp
        go_simp
        refine wpQuiet_nil ?_
        intro w9 hb9
        go_wp2_with fail
        go_ret
        exact ⟨ret_bool HR.out.symm, hbw.trans (hb9.mono hbw.size)⟩

      · have HR : Hid (valR s x = (decide (0 < cnt))) := by show _ = _; rw [HV.out, HC'.out, hop]; rfl
        have q5 : wr.cell? ⟨0, 17, none⟩ = some (.func (.func 122) #[] #[]) := hkr.cell 17
        rw [hop] at x0
        obtain ⟨z, hz⟩ : ∃ z, (decide (0 < cnt)) = z := ⟨_, rfl⟩
        have hcl := fun (W : World) (h9 : Below wr.heap.size wr W) => k4_any 2 x.course x.n x.d x.name x.kA x.kn x.kc s cnt W
        rw [hz] at hcl HR
        have HCL := hidp hcl
        clear hcl hz hop hkr hsr hr hs
        refine wp_region_below wr.heap.size (by kernel_rfl) (by kernel_rfl) ?_
        iterate 8
          refine q_step (by rfl) ?_
          apply Exists.intro
          refine ⟨fun w9 h9 => ?_, ?_⟩
          · have hc9 := (bcell h9).1
            go_simp
            first | done | rfl
          go_simp
        refine q_step (by rfl) ⟨.bool z, fun w9 h9 => ?_, ?_⟩
        · have hc9 := (bcell h9).1
          go_simp
          exact calls_below h9 (Nat.le_refl _) (HCL.out w9 h9)
        go_simp
        refine q_step (by rfl) ⟨.bool z, fun w9 h9 => ?_, ?_⟩
        · go_simp
        go_simp
        refine wpQuiet_nil ?_
        intro w9 hb9
        go_wp2_with fail
        go_ret
        exact ⟨ret_bool HR.out.symm, hbw.trans (hb9.mono hbw.size)⟩

      · have HR : Hid (valR s x = (decide (x.n ≤ cnt))) := by show _ = _; rw [HV.out, HC'.out, hop]; rfl
        have q5 : wr.cell? ⟨0, 23, none⟩ = some (.func (.func 124) #[] #[]) := hkr.cell 23
        rw [hop] at x0
        obtain ⟨z, hz⟩ : ∃ z, (decide (x.n ≤ cnt)) = z := ⟨_, rfl⟩
        have hcl := fun (W : World) (h9 : Below wr.heap.size wr W) => k6_any 3 x.course x.n x.d x.name x.kA x.kn x.kc s cnt W
        rw [hz] at hcl HR
        have HCL := hidp hcl
        clear hcl hz hop hkr hsr hr hs
        refine wp_region_below wr.heap.size (by kernel_rfl) (by kernel_rfl) ?_
        iterate 8
          refine q_step (by rfl) ?_
          apply Exists.intro
          refine ⟨fun w9 h9 => ?_, ?_⟩
          · have hc9 := (bcell h9).1
            go_simp
            first | done | rfl
          go_simp
        refine q_step (by rfl) ⟨.bool z, fun w9 h9 => ?_, ?_⟩
        · have hc9 := (bcell h9).1
          go_simp
          exact calls_below h9 (Nat.le_refl _) (HCL.out w9 h9)
        go_simp
        refine q_step (by rfl) ⟨.bool z, fun w9 h9 => ?_, ?_⟩
        · go_simp
        go_simp
        refine wpQuiet_nil ?_
        intro w9 hb9
        go_wp2_with fail
        go_ret
        exact ⟨ret_bool HR.out.symm, hbw.trans (hb9.mono hbw.size)⟩

      · have HR : Hid (valR s x = (decide (cnt = 0))) := by show _ = _; rw [HV.out, HC'.out, hop]; rfl
        have q5 : wr.cell? ⟨0, 29, none⟩ = some (.func (.func 126) #[] #[]) := hkr.cell 29
        rw [hop] at x0
        obtain ⟨z, hz⟩ : ∃ z, (decide (cnt = 0)) = z := ⟨_, rfl⟩
        have hcl := fun (W : World) (h9 : Below wr.heap.size wr W) => k8_any 4 x.course x.n x.d x.name x.kA x.kn x.kc s cnt W
        rw [hz] at hcl HR
        have HCL := hidp hcl
        clear hcl hz hop hkr hsr hr hs
        refine wp_region_below wr.heap.size (by kernel_rfl) (by kernel_rfl) ?_
        iterate 8
          refine q_step (by rfl) ?_
          apply Exists.intro
          refine ⟨fun w9 h9 => ?_, ?_⟩
          · have hc9 := (bcell h9).1
            go_simp
            first | done | rfl
          go_simp
        refine q_step (by rfl) ⟨.bool z, fun w9 h9 => ?_, ?_⟩
        · have hc9 := (bcell h9).1
          go_simp
          exact calls_below h9 (Nat.le_refl _) (HCL.out w9 h9)
        go_simp
        refine q_step (by rfl) ⟨.bool z, fun w9 h9 => ?_, ?_⟩
        · go_simp
        go_simp
        refine wpQuiet_nil ?_
        intro w9 hb9
        go_wp2_with fail
        go_ret
        exact ⟨ret_bool HR.out.symm, hbw.trans (hb9.mono hbw.size)⟩

      · have HR : Hid (valR s x = (decide (x.n ≤ (aboutS s.seen x.course).best))) := by show _ = _; rw [HV.out, HC'.out, hop]; rfl
        have q5 : wr.cell? ⟨0, 35, none⟩ = some (.func (.func 129) #[] #[]) := hkr.cell 35
        rw [hop] at x0
        obtain ⟨z, hz⟩ : ∃ z, (decide (x.n ≤ (aboutS s.seen x.course).best)) = z := ⟨_, rfl⟩
        have hcl := fun (W : World) (h9 : Below wr.heap.size wr W) => k10_any 5 x.course x.n x.d x.name x.kA x.kn x.kc s cnt W (HSR.out.keep (Nat.le_trans hbw.size h9.size) fun q hq => h9.block q (Nat.lt_of_lt_of_le hq hbw.size))
        rw [hz] at hcl HR
        have HCL := hidp hcl
        clear hcl hz hop hkr hsr hr hs
        refine wp_region_below wr.heap.size (by kernel_rfl) (by kernel_rfl) ?_
        iterate 8
          refine q_step (by rfl) ?_
          apply Exists.intro
          refine ⟨fun w9 h9 => ?_, ?_⟩
          · have hc9 := (bcell h9).1
            go_simp
            first | done | rfl
          go_simp
        refine q_step (by rfl) ⟨.bool z, fun w9 h9 => ?_, ?_⟩
        · have hc9 := (bcell h9).1
          go_simp
          exact calls_below h9 (Nat.le_refl _) (HCL.out w9 h9)
        go_simp
        refine q_step (by rfl) ⟨.bool z, fun w9 h9 => ?_, ?_⟩
        · go_simp
        go_simp
        refine wpQuiet_nil ?_
        intro w9 hb9
        go_wp2_with fail
        go_ret
        exact ⟨ret_bool HR.out.symm, hbw.trans (hb9.mono hbw.size)⟩

      · have HR : Hid (valR s x = (decide (x.n ≤ (aboutS s.seen x.course).tries))) := by show _ = _; rw [HV.out, HC'.out, hop]; rfl
        have q5 : wr.cell? ⟨0, 41, none⟩ = some (.func (.func 132) #[] #[]) := hkr.cell 41
        rw [hop] at x0
        obtain ⟨z, hz⟩ : ∃ z, (decide (x.n ≤ (aboutS s.seen x.course).tries)) = z := ⟨_, rfl⟩
        have hcl := fun (W : World) (h9 : Below wr.heap.size wr W) => k12_any 6 x.course x.n x.d x.name x.kA x.kn x.kc s cnt W (HSR.out.keep (Nat.le_trans hbw.size h9.size) fun q hq => h9.block q (Nat.lt_of_lt_of_le hq hbw.size))
        rw [hz] at hcl HR
        have HCL := hidp hcl
        clear hcl hz hop hkr hsr hr hs
        refine wp_region_below wr.heap.size (by kernel_rfl) (by kernel_rfl) ?_
        iterate 8
          refine q_step (by rfl) ?_
          apply Exists.intro
          refine ⟨fun w9 h9 => ?_, ?_⟩
          · have hc9 := (bcell h9).1
            go_simp
            first | done | rfl
          go_simp
        refine q_step (by rfl) ⟨.bool z, fun w9 h9 => ?_, ?_⟩
        · have hc9 := (bcell h9).1
          go_simp
          exact calls_below h9 (Nat.le_refl _) (HCL.out w9 h9)
        go_simp
        refine q_step (by rfl) ⟨.bool z, fun w9 h9 => ?_, ?_⟩
        · go_simp
        go_simp
        refine wpQuiet_nil ?_
        intro w9 hb9
        go_wp2_with fail
        go_ret
        exact ⟨ret_bool HR.out.symm, hbw.trans (hb9.mono hbw.size)⟩

      · have HR : Hid (valR s x = (decide (x.n ≤ s.earned))) := by show _ = _; rw [HV.out, HC'.out, hop]; rfl
        have q5 : wr.cell? ⟨0, 47, none⟩ = some (.func (.func 134) #[] #[]) := hkr.cell 47
        rw [hop] at x0
        obtain ⟨z, hz⟩ : ∃ z, (decide (x.n ≤ s.earned)) = z := ⟨_, rfl⟩
        have hcl := fun (W : World) (h9 : Below wr.heap.size wr W) => k14_any 7 x.course x.n x.d x.name x.kA x.kn x.kc s cnt W
        rw [hz] at hcl HR
        have HCL := hidp hcl
        clear hcl hz hop hkr hsr hr hs
        refine wp_region_below wr.heap.size (by kernel_rfl) (by kernel_rfl) ?_
        iterate 8
          refine q_step (by rfl) ?_
          apply Exists.intro
          refine ⟨fun w9 h9 => ?_, ?_⟩
          · have hc9 := (bcell h9).1
            go_simp
            first | done | rfl
          go_simp
        refine q_step (by rfl) ⟨.bool z, fun w9 h9 => ?_, ?_⟩
        · have hc9 := (bcell h9).1
          go_simp
          exact calls_below h9 (Nat.le_refl _) (HCL.out w9 h9)
        go_simp
        refine q_step (by rfl) ⟨.bool z, fun w9 h9 => ?_, ?_⟩
        · go_simp
        go_simp
        refine wpQuiet_nil ?_
        intro w9 hb9
        go_wp2_with fail
        go_ret
        exact ⟨ret_bool HR.out.symm, hbw.trans (hb9.mono hbw.size)⟩

      · have HR : Hid (valR s x = (atLeast s.num s.den x.n x.d)) := by show _ = _; rw [HV.out, HC'.out, hop]; rfl
        have q5 : wr.cell? ⟨0, 53, none⟩ = some (.func (.func 136) #[] #[]) := hkr.cell 53
        rw [hop] at x0
        have HR9 := HR8.out hop
        obtain ⟨z, hz⟩ : ∃ z, (atLeast s.num s.den x.n x.d) = z := ⟨_, rfl⟩
        have hcl := fun (W : World) (h9 : Below wr.heap.size wr W) => k16_any 8 x.course x.n x.d x.name x.kA x.kn x.kc s cnt W HR9 HM.out
        rw [hz] at hcl HR
        have HCL := hidp hcl
        clear hcl hz hop hkr hsr hr hs
        refine wp_region_below wr.heap.size (by kernel_rfl) (by kernel_rfl) ?_
        iterate 8
          refine q_step (by rfl) ?_
          apply Exists.intro
          refine ⟨fun w9 h9 => ?_, ?_⟩
          · have hc9 := (bcell h9).1
            go_simp
            first | done | rfl
          go_simp
        refine q_step (by rfl) ⟨.bool z, fun w9 h9 => ?_, ?_⟩
        · have hc9 := (bcell h9).1
          go_simp
          exact calls_below h9 (Nat.le_refl _) (HCL.out w9 h9)
        go_simp
        refine q_step (by rfl) ⟨.bool z, fun w9 h9 => ?_, ?_⟩
        · go_simp
        go_simp
        refine wpQuiet_nil ?_
        intro w9 hb9
        go_wp2_with fail
        go_ret
        exact ⟨ret_bool HR.out.symm, hbw.trans (hb9.mono hbw.size)⟩

      · have HR : Hid (valR s x = ((aboutS s.seen x.course).now)) := by show _ = _; rw [HV.out, HC'.out, hop]; rfl
        have q5 : wr.cell? ⟨0, 59, none⟩ = some (.func (.func 138) #[] #[]) := hkr.cell 59
        rw [hop] at x0
        obtain ⟨z, hz⟩ : ∃ z, ((aboutS s.seen x.course).now) = z := ⟨_, rfl⟩
        have hcl := fun (W : World) (h9 : Below wr.heap.size wr W) => k17_any 9 x.course x.n x.d x.name x.kA x.kn x.kc s cnt W (HSR.out.keep (Nat.le_trans hbw.size h9.size) fun q hq => h9.block q (Nat.lt_of_lt_of_le hq hbw.size))
        rw [hz] at hcl HR
        have HCL := hidp hcl
        clear hcl hz hop hkr hsr hr hs
        refine wp_region_below wr.heap.size (by kernel_rfl) (by kernel_rfl) ?_
        iterate 8
          refine q_step (by rfl) ?_
          apply Exists.intro
          refine ⟨fun w9 h9 => ?_, ?_⟩
          · have hc9 := (bcell h9).1
            go_simp
            first | done | rfl
          go_simp
        refine q_step (by rfl) ⟨.bool z, fun w9 h9 => ?_, ?_⟩
        · have hc9 := (bcell h9).1
          go_simp
          exact calls_below h9 (Nat.le_refl _) (HCL.out w9 h9)
        go_simp
        refine q_step (by rfl) ⟨.bool z, fun w9 h9 => ?_, ?_⟩
        · go_simp
        go_simp
        refine wpQuiet_nil ?_
        intro w9 hb9
        go_wp2_with fail
        go_ret
        exact ⟨ret_bool HR.out.symm, hbw.trans (hb9.mono hbw.size)⟩

end Go.Proofs.YtbmbpannhncpjaaDoor
