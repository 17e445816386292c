/- The reference's Value and Holds (printed by tools/gen93.py). -/
import Derived.Test.YtbmbpannhncpjaaDoorV4
import Derived.Test.YtbmbpannhncpjaaDoorV5
import Derived.Test.YtbmbpannhncpjaaDoorU13
import Derived.Test.YtbmbpannhncpjaaDoorU10
import Derived.Test.YtbmbpannhncpjaaDoorRelT
namespace Go.Proofs.YtbmbpannhncpjaaDoor
open Go.RowKit Go.Sort

set_option maxRecDepth 100000 in
set_option maxHeartbeats 8000000 in
theorem vValue_any (s : Si) (hm : ratB s.num s.den = true) : ∀ (h : Nat) (x : Ru) (w : World), RuIn h w w.heap.size x → SiIn w w.heap.size s → allF x = true →
    Calls Tryd.prog 32 #[.agg #[.int .i64 x.op, .int .i64 x.course, .string x.name, .int .i64 x.n, .int .i64 x.d, .slice x.kA x.kn x.kc], .agg #[.slice s.sA s.sn s.sc, .int .i64 s.earned, .int .i64 s.num, .int .i64 s.den]] w fun e w' => e = .returned (.bool (valR s x)) ∧ Below w.heap.size w w' := by
  have HM := hidp hm
  clear hm
  intro h
  induction h using Nat.strongRecOn with
  | _ h ih =>
  intro x w hr hs hf
  have HI := hidp ih
  have HN := hidp hr.len
  have HV := hidp (holdsK_kn s hr.len)
  have hcap := hr.2.2.1
  have hlen := hr.2.1
  have HK := hidp (allF_kids hf)
  obtain ⟨ho1, ho2⟩ := formed_op (allF_formed hf)
  have HR8 := hidp (formed_mean (allF_formed hf))
  have HRu : Hid (∀ W, Below w.heap.size w W → RuIn h W W.heap.size x) := fun W hb => hr.keep hb.size hb.block
  have HSa : Hid (∀ W, Below w.heap.size w W → SiIn W W.heap.size s) := fun W hb => hs.keep hb.size hb.block
  clear ih hf hr hs
  obtain ⟨W0, hW0⟩ : ∃ W0, ((w.alloc (.cells #[.int .i64 x.op, .int .i64 x.course, .string x.name, .int .i64 x.n, .int .i64 x.d, .slice x.kA x.kn x.kc] 24)).alloc (.cells #[.slice s.sA s.sn s.sc, .int .i64 s.earned, .int .i64 s.num, .int .i64 s.den] 29)) = W0 := ⟨_, rfl⟩
  have hBW : Below w.heap.size w W0 := by rw [← hW0]; exact (((Below.refl _ w).alloc (by first | exact Nat.le_refl _ | (simp <;> omega)) _).alloc (by first | exact Nat.le_refl _ | (simp <;> omega)) _)
  have g0 : W0.heap[w.heap.size]? = some (.cells #[.int .i64 x.op, .int .i64 x.course, .string x.name, .int .i64 x.n, .int .i64 x.d, .slice x.kA x.kn x.kc] 24 (0, 0)) := by
    rw [← hW0, Below.heap_alloc _ _ _ (by simp <;> omega)]
    have := World.alloc_heap_new w (.cells #[.int .i64 x.op, .int .i64 x.course, .string x.name, .int .i64 x.n, .int .i64 x.d, .slice x.kA x.kn x.kc] 24)
    exact this
  have g1 : W0.heap[w.heap.size + 1]? = some (.cells #[.slice s.sA s.sn s.sc, .int .i64 s.earned, .int .i64 s.num, .int .i64 s.den] 29 (0, 0)) := by
    rw [← hW0]
    have := World.alloc_heap_new (w.alloc (.cells #[.int .i64 x.op, .int .i64 x.course, .string x.name, .int .i64 x.n, .int .i64 x.d, .slice x.kA x.kn x.kc] 24)) (.cells #[.slice s.sA s.sn s.sc, .int .i64 s.earned, .int .i64 s.num, .int .i64 s.den] 29)
    rwa [World.size_alloc] at this
  have HW0 := hidp hW0
  have G0 := hidp g0
  have l0 := lt_of_heap g0
  have G1 := hidp g1
  have l1 := lt_of_heap g1
  have HBW := hidp hBW
  have x0 := cell_of_heap (o := 0) g0
  have x1 := cell_of_heap (o := 1) g0
  have x2 := cell_of_heap (o := 2) g0
  have x3 := cell_of_heap (o := 3) g0
  have x4 := cell_of_heap (o := 4) g0
  have x5 := cell_of_heap (o := 5) g0
  have z0 := cell_of_heap (o := 0) g1
  have z1 := cell_of_heap (o := 1) g1
  have z2 := cell_of_heap (o := 2) g1
  have z3 := cell_of_heap (o := 3) g1
  simp only [List.getElem?_toArray, List.getElem?_cons_zero, List.getElem?_cons_succ] at x0 x1 x2 x3 x4 x5 z0 z1 z2 z3
  clear hW0 g0 g1
  go_enter Tryd.func32, Tryd.ntmps32
  go_wp2_with fail
  rw [HW0.out]
  go_wp2_with fail
  go_loopw [5, 6] (fun nn i wr => ∃ (k cnt : Nat), k ≤ x.kn ∧ cnt ≤ k ∧ nn = .int .i64 cnt ∧ i = .int .i64 k ∧ cnt = cntR s (x.kids.take k) ∧ Below W0.heap.size W0 wr) (fun _ i _ => x.kn - (intOf i).toNat)
  case atStart => exact ⟨0, 0, by omega, by omega, rfl, rfl, rfl, Below.refl _ _⟩
  case round =>
    obtain ⟨k, cnt, hk, hck, rfl, rfl, hcnt, hbe⟩ := hrel
    have HC := hidp hcnt
    have bw := HBW.out.trans (hbe.mono HBW.out.size)
    clear hcnt
    clear x0 x1 x2 x3 x4 x5 z0 z1 z2 z3
    have e0 := (hbe.block _ l0).trans G0.out
    have e1 := (hbe.block _ l1).trans G1.out
    have x0 := cell_of_heap (o := 0) e0
    have x1 := cell_of_heap (o := 1) e0
    have x2 := cell_of_heap (o := 2) e0
    have x3 := cell_of_heap (o := 3) e0
    have x4 := cell_of_heap (o := 4) e0
    have x5 := cell_of_heap (o := 5) e0
    have z0 := cell_of_heap (o := 0) e1
    have z1 := cell_of_heap (o := 1) e1
    have z2 := cell_of_heap (o := 2) e1
    have z3 := cell_of_heap (o := 3) e1
    simp only [List.getElem?_toArray, List.getElem?_cons_zero, List.getElem?_cons_succ] at x0 x1 x2 x3 x4 x5 z0 z1 z2 z3
    have m0 := lt_of_heap e0
    have m1 := lt_of_heap e1
    clear e0 e1
    by_cases hlt : k < x.kn
    · skip
      obtain ⟨h', b, off, y, e1, he, hb, hky, hry, c0, c1, c2, c3, c4, c5⟩ := (HRu.out wr bw).get hlt
      have lb := lt_of_cell c0
      have hR0 : Hid (∀ W, Below wr.heap.size wr W → Calls Tryd.prog 32 #[.agg #[.int .i64 y.op, .int .i64 y.course, .string y.name, .int .i64 y.n, .int .i64 y.d, .slice y.kA y.kn y.kc], .agg #[.slice s.sA s.sn s.sc, .int .i64 s.earned, .int .i64 s.num, .int .i64 s.den]] W fun e w' => e = .returned (.bool (valR s y)) ∧ Below W.heap.size W w') := fun W hb => HI.out h' (by omega) y W (hry.keep hb.size hb.block) (HSa.out W (bw.trans (hb.mono bw.size))) (allFL_mem HK.out hky)
      have HS : Hid (cntR s (x.kids.take (k + 1)) = cntR s (x.kids.take k) + if valR s y = true then 1 else 0) := cntR_step hky
      obtain ⟨v, hv⟩ : ∃ q, valR s y = q := ⟨_, rfl⟩
      rw [hv] at hR0 HS
      have hkn : (k : Int) < x.kn := by omega
      rw [he] at x5
      rw [he]
      clear hv hky hry e1 he
      go_wp2_with fail
      refine wp_region_S wr.heap.size 7 (fun _ => false) (Nat.le_refl _) (by kernel_rfl) (by kernel_rfl) (by kernel_rfl) ?_
      dsimp only [List.take, List.drop]
      apply relS_det (mask := [])
      · rfl
      · kernel_rfl
      · kernel_rfl
      · dsimp only [oblS]
        rintro w9 h9
        go_simp
        exact ⟨Below.refl _ _, rfl⟩
      dsimp only [List.nil_append, List.cons_append]
      apply relS_det (mask := [true])
      · rfl
      · kernel_rfl
      · kernel_rfl
      · dsimp only [oblS]
        rintro w9 h9
        have hc9 := (bcell h9).1
        go_simp
        exact ⟨Below.refl _ _, rfl⟩
      dsimp only [List.nil_append, List.cons_append]
      apply relS_det (mask := [false, false])
      · rfl
      · kernel_rfl
      · kernel_rfl
      · dsimp only [oblS]
        rintro w9 h9
        go_simp
        exact ⟨Below.refl _ _, rfl⟩
      dsimp only [List.nil_append, List.cons_append]
      apply relS_det (mask := [false, true, true])
      · rfl
      · kernel_rfl
      · kernel_rfl
      · dsimp only [oblS]
        rintro w9 h9
        go_simp
        exact ⟨Below.refl _ _, rfl⟩
      dsimp only [List.nil_append, List.cons_append]
      apply relS_det (mask := [false, false, false, true])
      · rfl
      · kernel_rfl
      · kernel_rfl
      · dsimp only [oblS]
        rintro w9 h9
        have hc9 := (bcell h9).1
        go_simp
        exact ⟨Below.refl _ _, rfl⟩
      dsimp only [List.nil_append, List.cons_append]
      apply relS_det (mask := [false, false, false, false, false])
      · rfl
      · kernel_rfl
      · kernel_rfl
      · dsimp only [oblS]
        rintro w9 h9
        have hc9 := (bcell h9).1
        go_simp
        exact ⟨Below.refl _ _, rfl⟩
      dsimp only [List.nil_append, List.cons_append]
      apply relS_det (mask := [false, false, false, false, true, true]) (x := .bool v)
      · rfl
      · kernel_rfl
      · kernel_rfl
      · dsimp only [oblS]
        rintro w9 h9
        have hc9 := (bcell h9).1
        go_simp
        refine (hR0.out w9 h9).mono ?_
        rintro e w1 ⟨rfl, hb⟩
        exact ⟨_, rfl, hb, rfl⟩
      dsimp only [List.nil_append, List.cons_append]
      refine relS_end (by rfl) ?_
      dsimp only [finS]
      -- rintro  w8 hb
      rintro w8 h8
      have hbe8 := hbe.trans (h8.mono hbe.size)
      cases v
      · go_simp
        go_wp2_with fail
        go_roundw
        case rel => exact ⟨k + 1, cnt, by omega, by omega, rfl, by go_num, by rw [HS.out, ← HC.out]; simp, hbe8⟩
        case measure => simp [intOf]; omega
      · go_simp
        go_wp2_with fail
        go_roundw
        case rel => exact ⟨k + 1, cnt + 1, by omega, by omega, by go_num, by go_num, by rw [HS.out, ← HC.out]; simp, hbe8⟩
        case measure => simp [intOf]; omega
    · skip
      obtain rfl : k = x.kn := by omega
      have hkk : ¬ ((x.kn : Int) < x.kn) := by omega
      have HC' : Hid (cntR s x.kids = cnt) := by have := HC.out; rw [List.take_of_length_le (by rw [← HN.out]; omega)] at this; exact this.symm
      have HA : Hid (∀ W, Below wr.heap.size wr W → Calls Tryd.prog 47 #[.agg #[.slice s.sA s.sn s.sc, .int .i64 s.earned, .int .i64 s.num, .int .i64 s.den], .int .i64 x.course] W fun e w' => e = .returned (.agg #[.int .i64 (aboutS s.seen x.course).course, .int .i64 (aboutS s.seen x.course).tries, .int .i64 (aboutS s.seen x.course).best, .bool (aboutS s.seen x.course).now]) ∧ Below W.heap.size W w') := fun W hb => vAbout_any s x.course W (HSa.out W (bw.trans (hb.mono bw.size)))
      obtain ⟨ab, hab⟩ : ∃ q, aboutS s.seen x.course = q := ⟨_, rfl⟩
      rw [hab] at HA
      have HAB := hidp hab
      clear hab hk hlt hck
      have hop : x.op = 1 ∨ x.op = 2 ∨ x.op = 3 ∨ x.op = 4 ∨ x.op = 5 ∨ x.op = 6 ∨ x.op = 7 ∨ x.op = 8 ∨ x.op = 9 := by omega
      rcases hop with hop | hop | hop | hop | hop | hop | hop | hop | hop
      · skip
        have HR : Hid (valR s x = (decide (cnt = x.kn))) := by show _ = _; rw [HV.out, HC'.out, hop]; rfl
        rw [hop] at x0
        clear hop
        go_wp2_with fail
        go_ret
        exact ⟨ret_bool (by rw [HR.out] <;> first | rfl | (rw [Bool.eq_iff_iff]; simp; done) | (rw [Bool.eq_iff_iff]; simp; omega)), bw⟩
      · skip
        have HR : Hid (valR s x = (decide (0 < cnt))) := by show _ = _; rw [HV.out, HC'.out, hop]; rfl
        rw [hop] at x0
        clear hop
        go_wp2_with fail
        go_ret
        exact ⟨ret_bool (by rw [HR.out] <;> first | rfl | (rw [Bool.eq_iff_iff]; simp; done) | (rw [Bool.eq_iff_iff]; simp; omega)), bw⟩
      · skip
        have HR : Hid (valR s x = (decide (x.n ≤ cnt))) := by show _ = _; rw [HV.out, HC'.out, hop]; rfl
        rw [hop] at x0
        clear hop
        go_wp2_with fail
        go_ret
        exact ⟨ret_bool (by rw [HR.out] <;> first | rfl | (rw [Bool.eq_iff_iff]; simp; done) | (rw [Bool.eq_iff_iff]; simp; omega)), bw⟩
      · skip
        have HR : Hid (valR s x = (decide (cnt = 0))) := by show _ = _; rw [HV.out, HC'.out, hop]; rfl
        rw [hop] at x0
        clear hop
        go_wp2_with fail
        go_ret
        exact ⟨ret_bool (by rw [HR.out] <;> first | rfl | (rw [Bool.eq_iff_iff]; simp; done) | (rw [Bool.eq_iff_iff]; simp; omega)), bw⟩
      · skip
        have HR : Hid (valR s x = (decide (x.n ≤ ab.best))) := by show _ = _; rw [HV.out, HC'.out, hop]; simp [holdsK, HAB.out]
        rw [hop] at x0
        clear hop
        have hfd : ∀ w, (Instr.field 49 (.agg #[.int .i64 ab.course, .int .i64 ab.tries, .int .i64 ab.best, .bool ab.now]) 2).run Tryd.prog w = .ok (.int .i64 ab.best) w := fun _ => by kernel_rfl
        go_wp2_with fail
        refine wp_region_S wr.heap.size 9 (fun _ => false) (Nat.le_refl _) (by kernel_rfl) (by kernel_rfl) (by kernel_rfl) ?_
        dsimp only [List.take, List.drop]
        apply relS_det (mask := [])
        · rfl
        · kernel_rfl
        · kernel_rfl
        · dsimp only [oblS]
          rintro w9 h9
          have hc9 := (bcell h9).1
          go_simp
          exact ⟨Below.refl _ _, rfl⟩
        dsimp only [List.nil_append, List.cons_append]
        apply relS_det (mask := [false])
        · rfl
        · kernel_rfl
        · kernel_rfl
        · dsimp only [oblS]
          rintro w9 h9
          go_simp
          exact ⟨Below.refl _ _, rfl⟩
        dsimp only [List.nil_append, List.cons_append]
        apply relS_det (mask := [false, true])
        · rfl
        · kernel_rfl
        · kernel_rfl
        · dsimp only [oblS]
          rintro w9 h9
          have hc9 := (bcell h9).1
          go_simp
          exact ⟨Below.refl _ _, rfl⟩
        dsimp only [List.nil_append, List.cons_append]
        apply relS_det (mask := [true, false, true]) (x := (.agg #[.int .i64 ab.course, .int .i64 ab.tries, .int .i64 ab.best, .bool ab.now]))
        · rfl
        · kernel_rfl
        · kernel_rfl
        · dsimp only [oblS]
          rintro w9 h9
          have hc9 := (bcell h9).1
          go_simp
          refine (HA.out w9 h9).mono ?_
          rintro e w1 ⟨rfl, hb⟩
          exact ⟨_, rfl, hb, rfl⟩
        dsimp only [List.nil_append, List.cons_append]
        apply relS_det (mask := [false, false, false, true])
        · rfl
        · kernel_rfl
        · kernel_rfl
        · dsimp only [oblS]
          rintro w9 h9
          go_simp
          exact ⟨Below.refl _ _, rfl⟩
        dsimp only [List.nil_append, List.cons_append]
        apply relS_det (mask := [false, false, false, false, false])
        · rfl
        · kernel_rfl
        · kernel_rfl
        · dsimp only [oblS]
          rintro w9 h9
          go_simp
          exact ⟨Below.refl _ _, rfl⟩
        dsimp only [List.nil_append, List.cons_append]
        apply relS_det (mask := [false, false, false, false, false, true])
        · rfl
        · kernel_rfl
        · kernel_rfl
        · dsimp only [oblS]
          rintro w9 h9
          have hc9 := (bcell h9).1
          go_simp
          exact ⟨Below.refl _ _, rfl⟩
        dsimp only [List.nil_append, List.cons_append]
        apply relS_det (mask := [false, false, false, false, true, false, true])
        · rfl
        · kernel_rfl
        · kernel_rfl
        · dsimp only [oblS]
          rintro w9 h9
          go_simp
          exact ⟨Below.refl _ _, rfl⟩
        dsimp only [List.nil_append, List.cons_append]
        apply relS_det (mask := [false, false, false, false, false, false, false, true])
        · rfl
        · kernel_rfl
        · kernel_rfl
        · dsimp only [oblS]
          rintro w9 h9
          go_simp
          exact ⟨Below.refl _ _, rfl⟩
        dsimp only [List.nil_append, List.cons_append]
        refine relS_end (by rfl) ?_
        dsimp only [finS]
        -- rintro  w8 hb
        rintro w8 h8
        go_simp
        go_wp2_with fail
        go_ret
        exact ⟨ret_bool HR.out.symm, bw.trans (h8.mono bw.size)⟩
      · skip
        have HR : Hid (valR s x = (decide (x.n ≤ ab.tries))) := by show _ = _; rw [HV.out, HC'.out, hop]; simp [holdsK, HAB.out]
        rw [hop] at x0
        clear hop
        have hfd : ∀ w, (Instr.field 49 (.agg #[.int .i64 ab.course, .int .i64 ab.tries, .int .i64 ab.best, .bool ab.now]) 1).run Tryd.prog w = .ok (.int .i64 ab.tries) w := fun _ => by kernel_rfl
        go_wp2_with fail
        refine wp_region_S wr.heap.size 9 (fun _ => false) (Nat.le_refl _) (by kernel_rfl) (by kernel_rfl) (by kernel_rfl) ?_
        dsimp only [List.take, List.drop]
        apply relS_det (mask := [])
        · rfl
        · kernel_rfl
        · kernel_rfl
        · dsimp only [oblS]
          rintro w9 h9
          have hc9 := (bcell h9).1
          go_simp
          exact ⟨Below.refl _ _, rfl⟩
        dsimp only [List.nil_append, List.cons_append]
        apply relS_det (mask := [false])
        · rfl
        · kernel_rfl
        · kernel_rfl
        · dsimp only [oblS]
          rintro w9 h9
          go_simp
          exact ⟨Below.refl _ _, rfl⟩
        dsimp only [List.nil_append, List.cons_append]
        apply relS_det (mask := [false, true])
        · rfl
        · kernel_rfl
        · kernel_rfl
        · dsimp only [oblS]
          rintro w9 h9
          have hc9 := (bcell h9).1
          go_simp
          exact ⟨Below.refl _ _, rfl⟩
        dsimp only [List.nil_append, List.cons_append]
        apply relS_det (mask := [true, false, true]) (x := (.agg #[.int .i64 ab.course, .int .i64 ab.tries, .int .i64 ab.best, .bool ab.now]))
        · rfl
        · kernel_rfl
        · kernel_rfl
        · dsimp only [oblS]
          rintro w9 h9
          have hc9 := (bcell h9).1
          go_simp
          refine (HA.out w9 h9).mono ?_
          rintro e w1 ⟨rfl, hb⟩
          exact ⟨_, rfl, hb, rfl⟩
        dsimp only [List.nil_append, List.cons_append]
        apply relS_det (mask := [false, false, false, true])
        · rfl
        · kernel_rfl
        · kernel_rfl
        · dsimp only [oblS]
          rintro w9 h9
          go_simp
          exact ⟨Below.refl _ _, rfl⟩
        dsimp only [List.nil_append, List.cons_append]
        apply relS_det (mask := [false, false, false, false, false])
        · rfl
        · kernel_rfl
        · kernel_rfl
        · dsimp only [oblS]
          rintro w9 h9
          go_simp
          exact ⟨Below.refl _ _, rfl⟩
        dsimp only [List.nil_append, List.cons_append]
        apply relS_det (mask := [false, false, false, false, false, true])
        · rfl
        · kernel_rfl
        · kernel_rfl
        · dsimp only [oblS]
          rintro w9 h9
          have hc9 := (bcell h9).1
          go_simp
          exact ⟨Below.refl _ _, rfl⟩
        dsimp only [List.nil_append, List.cons_append]
        apply relS_det (mask := [false, false, false, false, true, false, true])
        · rfl
        · kernel_rfl
        · kernel_rfl
        · dsimp only [oblS]
          rintro w9 h9
          go_simp
          exact ⟨Below.refl _ _, rfl⟩
        dsimp only [List.nil_append, List.cons_append]
        apply relS_det (mask := [false, false, false, false, false, false, false, true])
        · rfl
        · kernel_rfl
        · kernel_rfl
        · dsimp only [oblS]
          rintro w9 h9
          go_simp
          exact ⟨Below.refl _ _, rfl⟩
        dsimp only [List.nil_append, List.cons_append]
        refine relS_end (by rfl) ?_
        dsimp only [finS]
        -- rintro  w8 hb
        rintro w8 h8
        go_simp
        go_wp2_with fail
        go_ret
        exact ⟨ret_bool HR.out.symm, bw.trans (h8.mono bw.size)⟩
      · skip
        have HR : Hid (valR s x = (decide (x.n ≤ s.earned))) := by show _ = _; rw [HV.out, HC'.out, hop]; rfl
        rw [hop] at x0
        clear hop
        go_wp2_with fail
        go_ret
        exact ⟨ret_bool (by rw [HR.out] <;> first | rfl | (rw [Bool.eq_iff_iff]; simp; done) | (rw [Bool.eq_iff_iff]; simp; omega)), bw⟩
      · skip
        have HR : Hid (valR s x = (atLeast s.num s.den x.n x.d)) := by show _ = _; rw [HV.out, HC'.out, hop]; rfl
        have HOP8 := hidp hop
        rw [hop] at x0
        clear hop
        obtain ⟨a1, a2, a3, a4⟩ := rat_bd HM.out
        obtain ⟨c1, c2, c3, c4⟩ := rat_bd (HR8.out HOP8.out)
        have m1 := mul_bd a3 a4 c1 c2
        have m2 := mul_bd c3 c4 a1 a2
        have hw1 : IntKind.i64.wrap (s.num * x.d) = s.num * x.d := IntWalk.i64_in _ (by omega)
        have hw2 : IntKind.i64.wrap (x.n * s.den) = x.n * s.den := IntWalk.i64_in _ (by omega)
        clear a1 a2 a3 a4 c1 c2 c3 c4 m1 m2
        go_wp2_with fail
        go_ret
        exact ⟨ret_bool (by rw [HR.out] <;> first | rfl | simp [atLeast, hw1, hw2]), bw⟩
      · skip
        have HR : Hid (valR s x = (ab.now)) := by show _ = _; rw [HV.out, HC'.out, hop]; simp [holdsK, HAB.out]
        rw [hop] at x0
        clear hop
        have hfd : ∀ w, (Instr.field 49 (.agg #[.int .i64 ab.course, .int .i64 ab.tries, .int .i64 ab.best, .bool ab.now]) 3).run Tryd.prog w = .ok (.bool ab.now) w := fun _ => by kernel_rfl
        go_wp2_with fail
        refine (HA.out _ (Below.refl _ _)).mono ?_
        rintro e w8 ⟨rfl, h8⟩
        go_wp2_with fail
        go_ret
        exact ⟨ret_bool HR.out.symm, bw.trans (h8.mono bw.size)⟩

set_option maxRecDepth 100000 in
set_option maxHeartbeats 4000000 in
theorem vHolds_any (h : Nat) (x : Ru) (s : Si) (w : World) (hr : RuIn h w w.heap.size x) (hs : SiIn w w.heap.size s) :
    Calls Tryd.prog 13 #[.agg #[.int .i64 x.op, .int .i64 x.course, .string x.name, .int .i64 x.n, .int .i64 x.d, .slice x.kA x.kn x.kc], .agg #[.slice s.sA s.sn s.sc, .int .i64 s.earned, .int .i64 s.num, .int .i64 s.den]] w fun e w' => e = .returned (.tuple #[.bool (checkR x && fitsB s && valR s x), .int .i64 (okOr (checkR x && fitsB s) 120)]) ∧ Below w.heap.size w w' := by
  have HRu : Hid (∀ W, Below w.heap.size w W → RuIn h W W.heap.size x) := fun W hb => hr.keep hb.size hb.block
  have HSa : Hid (∀ W, Below w.heap.size w W → SiIn W W.heap.size s) := fun W hb => hs.keep hb.size hb.block
  clear hr hs
  obtain ⟨W0, hW0⟩ : ∃ W0, ((w.alloc (.cells #[.int .i64 x.op, .int .i64 x.course, .string x.name, .int .i64 x.n, .int .i64 x.d, .slice x.kA x.kn x.kc] 24)).alloc (.cells #[.slice s.sA s.sn s.sc, .int .i64 s.earned, .int .i64 s.num, .int .i64 s.den] 29)) = W0 := ⟨_, rfl⟩
  have hBW : Below w.heap.size w W0 := by rw [← hW0]; exact (((Below.refl _ w).alloc (by first | exact Nat.le_refl _ | (simp <;> omega)) _).alloc (by first | exact Nat.le_refl _ | (simp <;> omega)) _)
  have g0 : W0.heap[w.heap.size]? = some (.cells #[.int .i64 x.op, .int .i64 x.course, .string x.name, .int .i64 x.n, .int .i64 x.d, .slice x.kA x.kn x.kc] 24 (0, 0)) := by
    rw [← hW0, Below.heap_alloc _ _ _ (by simp <;> omega)]
    have := World.alloc_heap_new w (.cells #[.int .i64 x.op, .int .i64 x.course, .string x.name, .int .i64 x.n, .int .i64 x.d, .slice x.kA x.kn x.kc] 24)
    exact this
  have g1 : W0.heap[w.heap.size + 1]? = some (.cells #[.slice s.sA s.sn s.sc, .int .i64 s.earned, .int .i64 s.num, .int .i64 s.den] 29 (0, 0)) := by
    rw [← hW0]
    have := World.alloc_heap_new (w.alloc (.cells #[.int .i64 x.op, .int .i64 x.course, .string x.name, .int .i64 x.n, .int .i64 x.d, .slice x.kA x.kn x.kc] 24)) (.cells #[.slice s.sA s.sn s.sc, .int .i64 s.earned, .int .i64 s.num, .int .i64 s.den] 29)
    rwa [World.size_alloc] at this
  have HW0 := hidp hW0
  have G0 := hidp g0
  have l0 := lt_of_heap g0
  have G1 := hidp g1
  have l1 := lt_of_heap g1
  have HBW := hidp hBW
  have x0 := cell_of_heap (o := 0) g0
  have x1 := cell_of_heap (o := 1) g0
  have x2 := cell_of_heap (o := 2) g0
  have x3 := cell_of_heap (o := 3) g0
  have x4 := cell_of_heap (o := 4) g0
  have x5 := cell_of_heap (o := 5) g0
  have z0 := cell_of_heap (o := 0) g1
  have z1 := cell_of_heap (o := 1) g1
  have z2 := cell_of_heap (o := 2) g1
  have z3 := cell_of_heap (o := 3) g1
  simp only [List.getElem?_toArray, List.getElem?_cons_zero, List.getElem?_cons_succ] at x0 x1 x2 x3 x4 x5 z0 z1 z2 z3
  clear hW0 g0 g1
  obtain ⟨qc, hqc⟩ : ∃ q, checkR x = q := ⟨_, rfl⟩
  obtain ⟨qf, hqf⟩ : ∃ q, fitsB s = q := ⟨_, rfl⟩
  have HC : Hid (∀ W, Below w.heap.size w W → Calls Tryd.prog 30 #[.agg #[.int .i64 x.op, .int .i64 x.course, .string x.name, .int .i64 x.n, .int .i64 x.d, .slice x.kA x.kn x.kc]] W fun e w' => e = .returned (.int .i64 (okOr qc 120)) ∧ Below W.heap.size W w') := fun W hb => by
    have := vCheck_any h x W (HRu.out W hb)
    rwa [hqc] at this
  have HF : Hid (∀ W, Below w.heap.size w W → Calls Tryd.prog 31 #[.agg #[.slice s.sA s.sn s.sc, .int .i64 s.earned, .int .i64 s.num, .int .i64 s.den]] W fun e w' => e = .returned (.int .i64 (okOr qf 120)) ∧ Below W.heap.size W w') := fun W hb => by
    have := vFits_any s W (HSa.out W hb)
    rwa [hqf] at this
  have HQC := hidp hqc
  have HQF := hidp hqf
  clear hqc hqf
  cases qc
  · have HX : Hid (.tuple #[.bool (checkR x && fitsB s && valR s x), .int .i64 (okOr (checkR x && fitsB s) 120)] = Value.tuple #[.bool false, .int .i64 120]) := by show _ = _; rw [HQC.out]; rfl
    dsimp only [okOr] at HC
    go_enter Tryd.func13, Tryd.ntmps13
    go_wp2_with fail
    rw [HW0.out]
    refine (HC.out _ HBW.out).mono ?_
    rintro e w1 ⟨rfl, h1⟩
    go_wp2_with fail
    go_ret2
    exact ⟨by rw [HX.out]; rfl, HBW.out.trans (h1.mono HBW.out.size)⟩
  dsimp only [okOr] at HC
  go_enter Tryd.func13, Tryd.ntmps13
  go_wp2_with fail
  rw [HW0.out]
  refine (HC.out _ HBW.out).mono ?_
  rintro e w1 ⟨rfl, h1⟩
  have b1 := HBW.out.trans (h1.mono HBW.out.size)
  clear x0 x1 x2 x3 x4 x5 z0 z1 z2 z3
  have e0 := (h1.block _ l0).trans G0.out
  have e1 := (h1.block _ l1).trans G1.out
  have x0 := cell_of_heap (o := 0) e0
  have x1 := cell_of_heap (o := 1) e0
  have x2 := cell_of_heap (o := 2) e0
  have x3 := cell_of_heap (o := 3) e0
  have x4 := cell_of_heap (o := 4) e0
  have x5 := cell_of_heap (o := 5) e0
  have z0 := cell_of_heap (o := 0) e1
  have z1 := cell_of_heap (o := 1) e1
  have z2 := cell_of_heap (o := 2) e1
  have z3 := cell_of_heap (o := 3) e1
  simp only [List.getElem?_toArray, List.getElem?_cons_zero, List.getElem?_cons_succ] at x0 x1 x2 x3 x4 x5 z0 z1 z2 z3
  have m0 := lt_of_heap e0
  have m1 := lt_of_heap e1
  clear e0 e1
  cases qf
  · have HX : Hid (.tuple #[.bool (checkR x && fitsB s && valR s x), .int .i64 (okOr (checkR x && fitsB s) 120)] = Value.tuple #[.bool false, .int .i64 120]) := by show _ = _; rw [HQC.out, HQF.out]; rfl
    dsimp only [okOr] at HF
    go_wp2_with fail
    refine (HF.out _ b1).mono ?_
    rintro e w2 ⟨rfl, h2⟩
    go_wp2_with fail
    go_ret2
    exact ⟨by rw [HX.out]; rfl, b1.trans (h2.mono b1.size)⟩
  have HX : Hid (.tuple #[.bool (checkR x && fitsB s && valR s x), .int .i64 (okOr (checkR x && fitsB s) 120)] = Value.tuple #[.bool (valR s x), .int .i64 0]) := by show _ = _; rw [HQC.out, HQF.out]; rfl
  dsimp only [okOr] at HF
  go_wp2_with fail
  refine (HF.out _ b1).mono ?_
  rintro e w2 ⟨rfl, h2'⟩
  have h2 := h1.trans (h2'.mono h1.size)
  have b2 := b1.trans (h2'.mono b1.size)
  have haf : allF x = true := by
    have := HQC.out
    simp only [checkR, Bool.and_eq_true] at this
    exact this.2
  have HVC := hidp (vValue_any s (fits_mean HQF.out).1 h x w2 (HRu.out _ b2) (HSa.out _ b2) haf)
  clear haf
  clear x0 x1 x2 x3 x4 x5 z0 z1 z2 z3 m0 m1
  have e0 := (h2.block _ l0).trans G0.out
  have e1 := (h2.block _ l1).trans G1.out
  have x0 := cell_of_heap (o := 0) e0
  have x1 := cell_of_heap (o := 1) e0
  have x2 := cell_of_heap (o := 2) e0
  have x3 := cell_of_heap (o := 3) e0
  have x4 := cell_of_heap (o := 4) e0
  have x5 := cell_of_heap (o := 5) e0
  have z0 := cell_of_heap (o := 0) e1
  have z1 := cell_of_heap (o := 1) e1
  have z2 := cell_of_heap (o := 2) e1
  have z3 := cell_of_heap (o := 3) e1
  simp only [List.getElem?_toArray, List.getElem?_cons_zero, List.getElem?_cons_succ] at x0 x1 x2 x3 x4 x5 z0 z1 z2 z3
  have m0 := lt_of_heap e0
  have m1 := lt_of_heap e1
  clear e0 e1
  go_wp2_with fail
  refine HVC.out.mono ?_
  rintro e w3 ⟨rfl, h3⟩
  go_wp2_with fail
  go_ret2
  exact ⟨by rw [HX.out]; rfl, b2.trans (h3.mono b2.size)⟩
end Go.Proofs.YtbmbpannhncpjaaDoor
