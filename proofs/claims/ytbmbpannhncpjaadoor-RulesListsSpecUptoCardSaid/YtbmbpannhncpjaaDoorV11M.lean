/- The reference's Courses (printed by tools/gen99.py). -/
import Derived.Test.YtbmbpannhncpjaaDoorML1
import Derived.Test.YtbmbpannhncpjaaDoorRelJ
import Derived.Test.YtbmbpannhncpjaaDoorRelI
namespace Go.Proofs.YtbmbpannhncpjaaDoor
open Go.RowKit Go.Sort

def UpI (l : List Int) (c : Int) (q : Nat) : Prop := ∀ (i : Nat) (x : Int), i < q → l[i]? = some x → ltI x c = true
theorem UpI.step {l : List Int} {c x : Int} {q : Nat} (h : UpI l c q) (hx : l[q]? = some x) (hl : ltI x c = true) : UpI l c (q + 1) := by
  intro i y hi hy
  rcases Nat.lt_or_ge i q with h1 | h1
  · exact h i y h1 hy
  · obtain rfl : i = q := by omega
    rw [hx] at hy; cases hy; exact hl
theorem insI_found {x : Int} {l : List Int} {q : Nat} (hu : UpI l x q) (hx : l[q]? = some x) (hq : q ≤ l.length) : insI x l = l := by
  rw [insI, ins_at x l q (fun j y hj hy => hu j y hj hy) (fun y hy => by rw [hx] at hy; cases hy; simp [ltI]) hq, if_pos hx]
theorem insI_new {x : Int} {l : List Int} {q : Nat} (hu : UpI l x q) (hy : ∀ y, l[q]? = some y → ltI y x = false) (hx : l[q]? ≠ some x) (hq : q ≤ l.length) : insI x l = l.take q ++ [x] ++ l.drop q := by
  rw [insI, ins_at x l q (fun j y hj hy => hu j y hj hy) hy hq, if_neg hx]
  simp
def IPost (l : List Int) (w : World) (e : Ending) (w' : World) : Prop := ∃ A n c, e = .returned (.slice A n c) ∧ iSl w' w'.heap.size A n c l ∧ Below w.heap.size w w'

set_option maxRecDepth 100000 in
set_option maxHeartbeats 16000000 in
theorem vCourses_any (h : Nat) (x : Ru) (w : World) (hr : RuIn h w w.heap.size x) (hlp : (partsD 1 x).length ≤ 300000) : Calls Tryd.prog 19 #[.agg #[.int .i64 x.op, .int .i64 x.course, .string x.name, .int .i64 x.n, .int .i64 x.d, .slice x.kA x.kn x.kc]] w (IPost (coursesR x) w) := by
  have HRu : Hid (∀ W, Below w.heap.size w W → RuIn h W W.heap.size x) := fun W hb => hr.keep hb.size hb.block
  clear hr

  obtain ⟨W0, hW0⟩ : ∃ W0, (w.alloc (.cells #[.int .i64 x.op, .int .i64 x.course, .string x.name, .int .i64 x.n, .int .i64 x.d, .slice x.kA x.kn x.kc] 24)) = W0 := ⟨_, rfl⟩
  have hBW : Below w.heap.size w W0 := by rw [← hW0]; exact ((Below.refl _ w).alloc (by first | exact Nat.le_refl _ | (simp <;> omega)) _)
  have g0 : W0.heap[w.heap.size]? = some (.cells #[.int .i64 x.op, .int .i64 x.course, .string x.name, .int .i64 x.n, .int .i64 x.d, .slice x.kA x.kn x.kc] 24 (0, 0)) := by
    rw [← hW0]
    have := World.alloc_heap_new w (.cells #[.int .i64 x.op, .int .i64 x.course, .string x.name, .int .i64 x.n, .int .i64 x.d, .slice x.kA x.kn x.kc] 24)
    exact this
  have HW0 := hidp hW0
  have G0 := hidp g0
  have l0 := lt_of_heap g0
  have HBW := hidp hBW
  have x0 := cell_of_heap (o := 0) g0
  have x1 := cell_of_heap (o := 1) g0
  have x2 := cell_of_heap (o := 2) g0
  have x3 := cell_of_heap (o := 3) g0
  have x4 := cell_of_heap (o := 4) g0
  have x5 := cell_of_heap (o := 5) g0
  simp only [List.getElem?_toArray, List.getElem?_cons_zero, List.getElem?_cons_succ] at x0 x1 x2 x3 x4 x5
  clear hW0 g0
  obtain ⟨i0, hi, hz, hss, hbb⟩ := info_parts iInfo
  go_enter Tryd.func19, Tryd.ntmps19
  go_wp2_with fail
  rw [HW0.out]
  go_wp2_with fail
  refine (vAtoms_any h x W0 (HRu.out _ HBW.out) hlp).mono ?_
  rintro e w1 ⟨A1, n1, c1, rfl, h1, hb1⟩
  have b1 := HBW.out.trans (hb1.mono HBW.out.size)
  have hn1 := h1.1
  have hc1 := h1.2.1
  have hm1 := h1.2.2.1
  have hln1 : n1 ≤ 300000 := by have := atomsR_len x; omega
  have HD : Hid (∀ W, Below w1.heap.size w1 W → rSl W W.heap.size A1 n1 c1 (atomsR x)) := fun W hb => Rows.keep rStable h1 hb.size hb.block
  have HN1 := hidp hn1
  clear h1 hn1 x0 x1 x2 x3 x4 x5
  go_wp2_with fail
  go_loopw [4, 5] (fun v i wr => ∃ (k : Nat) (A : Option Addr) (n c : Nat), k ≤ n1 ∧ v = .slice A n c ∧ i = .int .i64 k ∧ iSl wr wr.heap.size A n c (((atomsR x).take k).foldl ckAdd []) ∧ Below w1.heap.size w1 wr) (fun _ i _ => n1 - (intOf i).toNat)
  case atStart => exact ⟨0, none, 0, 0, by omega, rfl, rfl, Rows.nil (by decide), Below.refl _ _⟩
  case round =>
    obtain ⟨k, A, m, c, hk, rfl, rfl, hrow, hbe⟩ := hrel
    rename World => wq
    have HRW := hidp hrow
    have bw := b1.trans (hbe.mono b1.size)
    obtain ⟨L, hL⟩ : ∃ L, ((atomsR x).take k).foldl ckAdd [] = L := ⟨_, rfl⟩
    have HLL := hidp hL
    rw [hL] at HRW
    have hml : m = L.length := HRW.out.1
    have hmc := HRW.out.2.1
    have hcap := HRW.out.2.2.1
    have hmb : m ≤ 300000 := by
      have := ck_len ((atomsR x).take k) []
      rw [hL] at this
      simp only [List.length_take, List.length_nil] at this
      omega
    have HML := hidp hml
    have HI : Hid (∀ W, Below wq.heap.size wq W → iSl W W.heap.size A m c L) := fun W hb => Rows.keep (Rep.flat_stable _) HRW.out hb.size hb.block
    clear hrow hL hml
    by_cases hlt : k < n1
    · skip
      obtain ⟨b, off, a, rfl, hb, hza, c0, cc1, c2, c3, c4, c5⟩ := rSl.get (HD.out wq hbe) hlt
      have lb := lt_of_cell c0
      have HZ := hidp hza
      have hkn : (k : Int) < n1 := by omega
      have HSt : Hid (((atomsR x).take (k + 1)).foldl ckAdd [] = ckAdd L a) := by show _ = _; rw [ck_step hza, HLL.out]
      clear hza
      by_cases hop : a.op = 5 ∨ a.op = 6 ∨ a.op = 9
      rotate_left
      · have HX : Hid (ckAdd L a = L) := by show _ = _; unfold ckAdd; rw [if_neg hop]
        have o1 : (a.op != 5) = true := by simp; omega
        have o2 : (a.op != 6) = true := by simp; omega
        have o3 : (a.op != 9) = true := by simp; omega
        have p1 : (a.op == 5) = false := by simp; omega
        have p2 : (a.op == 6) = false := by simp; omega
        have p3 : (a.op == 9) = false := by simp; omega
        clear hop
        go_wp2_with fail
        go_roundw
        case rel => exact ⟨k + 1, A, m, c, by omega, rfl, by go_num, by rw [HSt.out, HX.out]; exact HRW.out, hbe⟩
        case measure => simp [intOf]; omega
      have HX : Hid (ckAdd L a = insI a.course L) := by show _ = _; unfold ckAdd; rw [if_pos hop]
      have HBE := hidp hbe
      rcases hop with hop | hop | hop
      all_goals
        rw [hop] at c0
        clear hop
        go_wp2_with fail
        go_loopw [6] (fun j wr => ∃ q : Nat, q ≤ m ∧ j = .int .i64 q ∧ UpI L a.course q ∧ Below wq.heap.size wq wr) (fun j _ => m - (intOf j).toNat)
        case atStart => exact ⟨0, by omega, rfl, fun i y h => by omega, Below.refl _ _⟩
        case round =>
          obtain ⟨q, hq, rfl, hup, hbq⟩ := hrel
          have HU := hidp hup
          clear hup c0 cc1 c2 c3 c4 c5 lb
          obtain ⟨b3, off3, a3, e3, _, hz3, c0, cc1, c2, c3, c4, c5⟩ := rSl.get (HD.out wr (HBE.out.trans ((hbq).mono HBE.out.size))) hlt
          obtain ⟨rfl, rfl⟩ : b = b3 ∧ off = off3 := by simpa using e3
          obtain rfl : a = a3 := by rw [HZ.out] at hz3; exact Option.some.inj hz3
          have lb := lt_of_cell c0
          clear e3 hz3
          by_cases hqm : q < m
          · skip
            obtain ⟨bi, oi, z, rfl, hbi, hzi, d0⟩ := iSl.get (HI.out wr hbq) hqm
            have HZI := hidp hzi
            have ldi := lt_of_cell d0
            have hqm' : (q : Int) < m := by omega
            obtain ⟨p, hp⟩ : ∃ p, decide (z < a.course) = p := ⟨_, rfl⟩
            have HP := hidp hp
            clear hzi
            go_wp2_with fail
            refine wp_region_S wr.heap.size 16 (fun _ => false) (Nat.le_refl _) (by kernel_rfl) (by kernel_rfl) (by kernel_rfl) ?_
            dsimp only [List.take, List.drop]
            apply relS_det (mask := [])
            · rfl
            · kernel_rfl
            · kernel_rfl
            · dsimp only [oblS]
              rintro w9 h9
              go_simp
              exact ⟨Below.refl _ _, rfl⟩
            dsimp only [List.nil_append, List.cons_append]
            apply relS_det (mask := [false])
            · rfl
            · kernel_rfl
            · kernel_rfl
            · dsimp only [oblS]
              rintro w9 h9
              go_simp
              exact ⟨Below.refl _ _, rfl⟩
            dsimp only [List.nil_append, List.cons_append]
            apply relS_det (mask := [false, true])
            · rfl
            · kernel_rfl
            · kernel_rfl
            · dsimp only [oblS]
              rintro w9 h9
              go_simp
              exact ⟨Below.refl _ _, rfl⟩
            dsimp only [List.nil_append, List.cons_append]
            apply relS_det (mask := [true, false, true]) (x := .bool true)
            · rfl
            · kernel_rfl
            · kernel_rfl
            · dsimp only [oblS]
              rintro w9 h9
              go_simp
              exact ⟨Below.refl _ _, rfl⟩
            dsimp only [List.nil_append, List.cons_append]
            apply relS_det (mask := [false, false, false, true]) (x := .bool true)
            · rfl
            · kernel_rfl
            · kernel_rfl
            · dsimp only [oblS]
              rintro w9 h9
              go_simp
              exact ⟨Below.refl _ _, rfl⟩
            dsimp only [List.nil_append, List.cons_append]
            apply relS_detg (mask := [false, false, false, false, true]) (t := 41) (want := true)
            · rfl
            · kernel_rfl
            · kernel_rfl
            · dsimp only [oblS]
              refine ⟨by rfl, ?_⟩
              rintro w9 h9
              go_simp
              exact ⟨Below.refl _ _, rfl⟩
            dsimp only [List.nil_append, List.cons_append]
            apply relS_detg (mask := [false, false, false, false, true, false]) (t := 41) (want := true)
            · rfl
            · kernel_rfl
            · kernel_rfl
            · dsimp only [oblS]
              refine ⟨by rfl, ?_⟩
              rintro w9 h9
              go_simp
              exact ⟨Below.refl _ _, rfl⟩
            dsimp only [List.nil_append, List.cons_append]
            apply relS_detg (mask := [false, false, false, false, true, true, true]) (t := 41) (want := true)
            · rfl
            · kernel_rfl
            · kernel_rfl
            · dsimp only [oblS]
              refine ⟨by rfl, ?_⟩
              rintro w9 h9
              go_simp
              exact ⟨Below.refl _ _, rfl⟩
            dsimp only [List.nil_append, List.cons_append]
            apply relS_detg (mask := [false, false, false, false, true, false, false, true]) (t := 41) (want := true) (x := .int .i64 z)
            · rfl
            · kernel_rfl
            · kernel_rfl
            · dsimp only [oblS]
              refine ⟨by rfl, ?_⟩
              rintro w9 h9
              have hc9 := (bcell h9).1
              go_simp
              exact ⟨Below.refl _ _, rfl⟩
            dsimp only [List.nil_append, List.cons_append]
            apply relS_detg (mask := [false, false, false, false, true, false, false, false, false]) (t := 41) (want := true)
            · rfl
            · kernel_rfl
            · kernel_rfl
            · dsimp only [oblS]
              refine ⟨by rfl, ?_⟩
              rintro w9 h9
              go_simp
              exact ⟨Below.refl _ _, rfl⟩
            dsimp only [List.nil_append, List.cons_append]
            apply relS_detg (mask := [false, false, false, false, true, false, false, false, false, false]) (t := 41) (want := true)
            · rfl
            · kernel_rfl
            · kernel_rfl
            · dsimp only [oblS]
              refine ⟨by rfl, ?_⟩
              rintro w9 h9
              go_simp
              exact ⟨Below.refl _ _, rfl⟩
            dsimp only [List.nil_append, List.cons_append]
            apply relS_detg (mask := [false, false, false, false, true, false, false, false, false, true, true]) (t := 41) (want := true)
            · rfl
            · kernel_rfl
            · kernel_rfl
            · dsimp only [oblS]
              refine ⟨by rfl, ?_⟩
              rintro w9 h9
              go_simp
              exact ⟨Below.refl _ _, rfl⟩
            dsimp only [List.nil_append, List.cons_append]
            apply relS_detg (mask := [false, false, false, false, true, false, false, false, false, false, false, true]) (t := 41) (want := true)
            · rfl
            · kernel_rfl
            · kernel_rfl
            · dsimp only [oblS]
              refine ⟨by rfl, ?_⟩
              rintro w9 h9
              go_simp
              exact ⟨Below.refl _ _, rfl⟩
            dsimp only [List.nil_append, List.cons_append]
            apply relS_detg (mask := [false, false, false, false, true, false, false, false, false, false, false, false, true]) (t := 41) (want := true) (x := .int .i64 a.course)
            · rfl
            · kernel_rfl
            · kernel_rfl
            · dsimp only [oblS]
              refine ⟨by rfl, ?_⟩
              rintro w9 h9
              have hc9 := (bcell h9).1
              go_simp
              exact ⟨Below.refl _ _, rfl⟩
            dsimp only [List.nil_append, List.cons_append]
            apply relS_detg (mask := [false, false, false, false, true, false, false, false, true, false, false, false, false, true]) (t := 41) (want := true) (x := .bool p)
            · rfl
            · kernel_rfl
            · kernel_rfl
            · dsimp only [oblS]
              refine ⟨by rfl, ?_⟩
              rintro w9 h9
              go_simp
              exact ⟨Below.refl _ _, rfl⟩
            dsimp only [List.nil_append, List.cons_append]
            apply relS_det (mask := [false, false, false, false, true, false, false, false, false, false, false, false, false, false, true]) (x := .bool p)
            · rfl
            · kernel_rfl
            · kernel_rfl
            · dsimp only [oblS]
              rintro w9 h9
              go_simp
              exact ⟨Below.refl _ _, rfl⟩
            dsimp only [List.nil_append, List.cons_append]
            refine relS_end (by rfl) ?_
            dsimp only [finS]
            -- rintro  w8 hb
            rintro w9 hb9
            have hb3 := hbq.trans (hb9.mono hbq.size)
            clear c0 cc1 c2 c3 c4 c5 lb d0 ldi hp
            cases p
            · skip
              obtain ⟨b3, off3, a3, e3, _, hz3, c0, cc1, c2, c3, c4, c5⟩ := rSl.get (HD.out w9 (HBE.out.trans ((hb3).mono HBE.out.size))) hlt
              obtain ⟨rfl, rfl⟩ : b = b3 ∧ off = off3 := by simpa using e3
              obtain rfl : a = a3 := by rw [HZ.out] at hz3; exact Option.some.inj hz3
              have lb := lt_of_cell c0
              clear e3 hz3
              obtain ⟨bi2, oi2, z2, he2, hbi2, hzi2, d0⟩ := iSl.get (HI.out w9 hb3) hqm
              simp only [Option.some.injEq, Addr.mk.injEq, and_true] at he2
              obtain ⟨rfl, rfl⟩ := he2
              obtain rfl : z = z2 := by have := HZI.out; rw [hzi2] at this; exact (Option.some.inj this).symm
              have ldi := lt_of_cell d0
              obtain ⟨p2, hp2⟩ : ∃ p, (z != a.course) = p := ⟨_, rfl⟩
              have HP2 := hidp hp2
              have hqe : ((q : Int) == (m : Int)) = false := by simp; omega
              clear hzi2
              go_simp
              go_wp2_with fail
              refine wp_region_S w9.heap.size 16 (fun _ => false) (Nat.le_refl _) (by kernel_rfl) (by kernel_rfl) (by kernel_rfl) ?_
              dsimp only [List.take, List.drop]
              apply relS_det (mask := [])
              · rfl
              · kernel_rfl
              · kernel_rfl
              · dsimp only [oblS]
                rintro w9 h9
                go_simp
                exact ⟨Below.refl _ _, rfl⟩
              dsimp only [List.nil_append, List.cons_append]
              apply relS_det (mask := [false])
              · rfl
              · kernel_rfl
              · kernel_rfl
              · dsimp only [oblS]
                rintro w9 h9
                go_simp
                exact ⟨Below.refl _ _, rfl⟩
              dsimp only [List.nil_append, List.cons_append]
              apply relS_det (mask := [false, true])
              · rfl
              · kernel_rfl
              · kernel_rfl
              · dsimp only [oblS]
                rintro w9 h9
                go_simp
                exact ⟨Below.refl _ _, rfl⟩
              dsimp only [List.nil_append, List.cons_append]
              apply relS_det (mask := [true, false, true]) (x := .bool false)
              · rfl
              · kernel_rfl
              · kernel_rfl
              · dsimp only [oblS]
                rintro w9 h9
                go_simp
                exact ⟨Below.refl _ _, rfl⟩
              dsimp only [List.nil_append, List.cons_append]
              apply relS_det (mask := [false, false, false, true]) (x := .bool false)
              · rfl
              · kernel_rfl
              · kernel_rfl
              · dsimp only [oblS]
                rintro w9 h9
                go_simp
                exact ⟨Below.refl _ _, rfl⟩
              dsimp only [List.nil_append, List.cons_append]
              apply relS_detg (mask := [false, false, false, false, true]) (t := 59) (want := false)
              · rfl
              · kernel_rfl
              · kernel_rfl
              · dsimp only [oblS]
                refine ⟨by rfl, ?_⟩
                rintro w9 h9
                go_simp
                exact ⟨Below.refl _ _, rfl⟩
              dsimp only [List.nil_append, List.cons_append]
              apply relS_detg (mask := [false, false, false, false, true, false]) (t := 59) (want := false)
              · rfl
              · kernel_rfl
              · kernel_rfl
              · dsimp only [oblS]
                refine ⟨by rfl, ?_⟩
                rintro w9 h9
                go_simp
                exact ⟨Below.refl _ _, rfl⟩
              dsimp only [List.nil_append, List.cons_append]
              apply relS_detg (mask := [false, false, false, false, true, true, true]) (t := 59) (want := false)
              · rfl
              · kernel_rfl
              · kernel_rfl
              · dsimp only [oblS]
                refine ⟨by rfl, ?_⟩
                rintro w9 h9
                go_simp
                exact ⟨Below.refl _ _, rfl⟩
              dsimp only [List.nil_append, List.cons_append]
              apply relS_detg (mask := [false, false, false, false, true, false, false, true]) (t := 59) (want := false) (x := .int .i64 z)
              · rfl
              · kernel_rfl
              · kernel_rfl
              · dsimp only [oblS]
                refine ⟨by rfl, ?_⟩
                rintro w9 h9
                have hc9 := (bcell h9).1
                go_simp
                exact ⟨Below.refl _ _, rfl⟩
              dsimp only [List.nil_append, List.cons_append]
              apply relS_detg (mask := [false, false, false, false, true, false, false, false, false]) (t := 59) (want := false)
              · rfl
              · kernel_rfl
              · kernel_rfl
              · dsimp only [oblS]
                refine ⟨by rfl, ?_⟩
                rintro w9 h9
                go_simp
                exact ⟨Below.refl _ _, rfl⟩
              dsimp only [List.nil_append, List.cons_append]
              apply relS_detg (mask := [false, false, false, false, true, false, false, false, false, false]) (t := 59) (want := false)
              · rfl
              · kernel_rfl
              · kernel_rfl
              · dsimp only [oblS]
                refine ⟨by rfl, ?_⟩
                rintro w9 h9
                go_simp
                exact ⟨Below.refl _ _, rfl⟩
              dsimp only [List.nil_append, List.cons_append]
              apply relS_detg (mask := [false, false, false, false, true, false, false, false, false, true, true]) (t := 59) (want := false)
              · rfl
              · kernel_rfl
              · kernel_rfl
              · dsimp only [oblS]
                refine ⟨by rfl, ?_⟩
                rintro w9 h9
                go_simp
                exact ⟨Below.refl _ _, rfl⟩
              dsimp only [List.nil_append, List.cons_append]
              apply relS_detg (mask := [false, false, false, false, true, false, false, false, false, false, false, true]) (t := 59) (want := false)
              · rfl
              · kernel_rfl
              · kernel_rfl
              · dsimp only [oblS]
                refine ⟨by rfl, ?_⟩
                rintro w9 h9
                go_simp
                exact ⟨Below.refl _ _, rfl⟩
              dsimp only [List.nil_append, List.cons_append]
              apply relS_detg (mask := [false, false, false, false, true, false, false, false, false, false, false, false, true]) (t := 59) (want := false) (x := .int .i64 a.course)
              · rfl
              · kernel_rfl
              · kernel_rfl
              · dsimp only [oblS]
                refine ⟨by rfl, ?_⟩
                rintro w9 h9
                have hc9 := (bcell h9).1
                go_simp
                exact ⟨Below.refl _ _, rfl⟩
              dsimp only [List.nil_append, List.cons_append]
              apply relS_detg (mask := [false, false, false, false, true, false, false, false, true, false, false, false, false, true]) (t := 59) (want := false) (x := .bool p2)
              · rfl
              · kernel_rfl
              · kernel_rfl
              · dsimp only [oblS]
                refine ⟨by rfl, ?_⟩
                rintro w9 h9
                go_simp
                exact ⟨Below.refl _ _, by show _ = _; rw [← HP2.out]⟩
              dsimp only [List.nil_append, List.cons_append]
              apply relS_det (mask := [false, false, false, false, true, false, false, false, false, false, false, false, false, false, true]) (x := .bool p2)
              · rfl
              · kernel_rfl
              · kernel_rfl
              · dsimp only [oblS]
                rintro w9 h9
                go_simp
                exact ⟨Below.refl _ _, rfl⟩
              dsimp only [List.nil_append, List.cons_append]
              refine relS_end (by rfl) ?_
              dsimp only [finS]
              -- rintro  w8 hb
              rintro wt hbt
              have hbW := hb3.trans (hbt.mono hb3.size)
              clear c0 cc1 c2 c3 c4 c5 lb d0 ldi hp2 hqe hqm'
              cases p2
              · have HF : Hid (insI a.course L = L) := insI_found HU.out (by rw [HZI.out]; have := HP2.out; simp at this; rw [this]) (by rw [← HML.out]; exact hq)
                have hr9 := HI.out wt hbW
                have hbe9 := HBE.out.trans (hbW.mono HBE.out.size)
                have HR9 := hidp hr9
                clear hr9
                go_simp
                go_wp2_with fail
                go_roundw
                case rel => exact ⟨k + 1, _, m, c, by omega, rfl, by go_num, by rw [HSt.out, HX.out, HF.out]; exact HR9.out, hbe9⟩
                case measure => simp [intOf]; omega
              have HNe : Hid (insI a.course L = L.take q ++ [a.course] ++ L.drop q) := insI_new HU.out (fun y' hy' => by rw [HZI.out] at hy'; cases hy'; exact HP.out) (by rw [HZI.out]; intro h; have := HP2.out; rw [Option.some.inj h] at this; simp at this) (by rw [← HML.out]; exact hq)
              go_simp
              obtain ⟨b3, off3, a3, e3, _, hz3, c0, cc1, c2, c3, c4, c5⟩ := rSl.get (HD.out wt (HBE.out.trans ((hbW).mono HBE.out.size))) hlt
              obtain ⟨rfl, rfl⟩ : b = b3 ∧ off = off3 := by simpa using e3
              obtain rfl : a = a3 := by rw [HZ.out] at hz3; exact Option.some.inj hz3
              have lb := lt_of_cell c0
              clear e3 hz3
              have hlW := HI.out wt hbW
              have hcutL := fun W => run_cut_low (P := Tryd.prog) W Tryd.underlying39 hi (some (⟨bi, oi, none⟩ : Addr)) m c q .i64 (q : Int) rfl hq
              have hcutH := fun W => run_cut_high (P := Tryd.prog) W Tryd.underlying39 hi (some (⟨bi, oi, none⟩ : Addr)) m c q .i64 (q : Int) rfl (by omega)
              rw [hss] at hcutL
              have hqc : q ≤ c := by omega
              have hrc := hlW.cut (m := q) hq
              have hrt := hlW.take (m := q) hq
              generalize cutA (some (⟨bi, oi, none⟩ : Addr)) c q 1 = A2 at hcutL hrc
              have HRC := hidp hrc
              have HRT := hidp hrt
              have HBWt := hidp hbW
              clear hrc hrt hlW
              go_wp2_with fail
              refine wp_region_relJ wt.heap.size (fun k => k == 11 || k == 15) (fun k => k == 0 || k == 4 || k == 10 || k == 11 || k == 15 || k == 16) (Nat.le_refl _) (by kernel_rfl) (by kernel_rfl) (by kernel_rfl) ?_
              refine rel_any (fun v w => ∃ g, v = .slice (some ⟨g, 0, none⟩) 0 0 ∧ wt.heap.size ≤ g ∧ w.heap[g]? = some (.cells #[] 3 (0, 0))) rfl (fun v w w' hb ⟨g, hv, hg, hh⟩ => ⟨g, hv, hg, (hb.block g (lt_of_heap hh)).trans hh⟩) ?_ ?_
              · intro w9 hw
                refine relAt_cps (by rfl) fun T' hT' => ?_
                go_simp
                exact ⟨(Below.refl _ w9).alloc (Nat.le_refl _) _, hT' _ _ ⟨_, rfl, hw.size, World.alloc_heap_new w9 _⟩⟩
              try dsimp only [List.nil_append, List.cons_append]
              apply rel_det
              · refine obl_skip (by kernel_rfl) (?_)
                intro w9 hw
                refine relAt_wanted (by rfl) ?_
                go_simp
                exact ⟨Below.refl _ _, rfl⟩
              try dsimp only [List.nil_append, List.cons_append]
              apply rel_det
              · refine obl_skip (by kernel_rfl) (obl_skip (by kernel_rfl) (?_))
                intro w9 hw
                refine relAt_wanted (by rfl) ?_
                go_simp
                exact ⟨Below.refl _ _, rfl⟩
              try dsimp only [List.nil_append, List.cons_append]
              refine rel_det (x := .slice (some (⟨bi, oi, none⟩ : Addr)) q c) ?_ ?_
              · refine obl_skip (by kernel_rfl) (obl_det (by kernel_rfl) (obl_det (by kernel_rfl) (?_)))
                intro w9 hw
                refine relAt_wanted (by rfl) ?_
                go_simp
                exact ⟨Below.refl _ _, rfl⟩
              try dsimp only [List.nil_append, List.cons_append]
              refine rel_any (fun v w => w.ownsRow wt.heap.size 3 1 v (q) ((L.take q).flatMap iEnc)) rfl (own_stable _ _ _ _ _) ?_ ?_
              · refine obl_var (by kernel_rfl) fun _ => (obl_skip (by kernel_rfl) (obl_skip (by kernel_rfl) (obl_det (by kernel_rfl) (?_))))
                rintro w9 ⟨hw, g, rfl, hg, hh⟩
                refine relAt_wanted (by rfl) ?_
                obtain ⟨v', w', hrun, hown', hb'⟩ := run_append_first (P := Tryd.prog) (ty := 39) (enc := iEnc) Tryd.underlying39 hi hz hss hbb rfl iEnc_len (by decide) hh hg (HRT.out.keep (Rep.flat_stable _) hw.size hw.block) (by omega) (by omega)
                exact relUpon_append (.tmp 71) (.tmp 74) 39 rfl rfl rfl hrun hb' hown'
              try dsimp only [List.nil_append, List.cons_append]
              apply rel_det
              · refine obl_skip (by kernel_rfl) (obl_skip (by kernel_rfl) (obl_skip (by kernel_rfl) (obl_skip (by kernel_rfl) (obl_skip (by kernel_rfl) (?_)))))
                intro w9 hw
                refine relAt_wanted (by rfl) ?_
                go_simp
                exact ⟨Below.refl _ _, rfl⟩
              try dsimp only [List.nil_append, List.cons_append]
              apply rel_det
              · refine obl_skip (by kernel_rfl) (obl_skip (by kernel_rfl) (obl_skip (by kernel_rfl) (obl_skip (by kernel_rfl) (obl_skip (by kernel_rfl) (obl_skip (by kernel_rfl) (?_))))))
                intro w9 hw
                refine relAt_wanted (by rfl) ?_
                go_simp
                exact ⟨Below.refl _ _, rfl⟩
              try dsimp only [List.nil_append, List.cons_append]
              apply rel_det
              · refine obl_skip (by kernel_rfl) (obl_skip (by kernel_rfl) (obl_skip (by kernel_rfl) (obl_skip (by kernel_rfl) (obl_skip (by kernel_rfl) (obl_det (by kernel_rfl) (obl_det (by kernel_rfl) (?_)))))))
                intro w9 hw
                refine relAt_wanted (by rfl) ?_
                go_simp
                exact ⟨Below.refl _ _, rfl⟩
              try dsimp only [List.nil_append, List.cons_append]
              apply rel_det
              · refine obl_skip (by kernel_rfl) (obl_skip (by kernel_rfl) (obl_skip (by kernel_rfl) (obl_skip (by kernel_rfl) (obl_skip (by kernel_rfl) (obl_skip (by kernel_rfl) (obl_skip (by kernel_rfl) (obl_det (by kernel_rfl) (?_))))))))
                intro w9 hw
                refine relAt_wanted (by rfl) ?_
                go_simp
                exact ⟨Below.refl _ _, rfl⟩
              try dsimp only [List.nil_append, List.cons_append]
              refine rel_det (x := .int .i64 a.course) ?_ ?_
              · refine obl_skip (by kernel_rfl) (obl_skip (by kernel_rfl) (obl_skip (by kernel_rfl) (obl_skip (by kernel_rfl) (obl_skip (by kernel_rfl) (obl_skip (by kernel_rfl) (obl_skip (by kernel_rfl) (obl_skip (by kernel_rfl) (obl_det (by kernel_rfl) (?_)))))))))
                intro w9 hw
                have hc9 := (bcell hw).1
                refine relAt_wanted (by rfl) ?_
                go_simp
                exact ⟨Below.refl _ _, rfl⟩
              try dsimp only [List.nil_append, List.cons_append]
              refine rel_any (fun v w => ∃ A c, v = .slice A 1 c ∧ iSl w w.heap.size A 1 c [a.course]) rfl (fun v w w' hb ⟨A, c, hv, hh⟩ => ⟨A, c, hv, hh.keep (Rep.flat_stable _) hb.size hb.block⟩) ?_ ?_
              · refine obl_skip (by kernel_rfl) (obl_skip (by kernel_rfl) (obl_skip (by kernel_rfl) (obl_skip (by kernel_rfl) (obl_skip (by kernel_rfl) (obl_skip (by kernel_rfl) (obl_skip (by kernel_rfl) (obl_skip (by kernel_rfl) (obl_skip (by kernel_rfl) (obl_det (by kernel_rfl) (?_))))))))))
                rintro w9 hw
                refine relAt_cps (by rfl) fun T' hT' => ?_
                go_simp
                exact ⟨(Below.refl _ w9).alloc (Nat.le_refl _) _, hT' _ _ ⟨_, _, rfl, rows_of_heap (l := [a.course]) iEnc_len (World.alloc_heap_new w9 _) (Nat.le_refl _) (by decide) rfl⟩⟩
              try dsimp only [List.nil_append, List.cons_append]
              refine rel_any (fun v w => w.ownsRow wt.heap.size 3 1 v (q + 1) ((L.take q ++ [a.course]).flatMap iEnc)) rfl (own_stable _ _ _ _ _) ?_ ?_
              · refine obl_skip (by kernel_rfl) (obl_skip (by kernel_rfl) (obl_skip (by kernel_rfl) (obl_skip (by kernel_rfl) (obl_var (by kernel_rfl) fun _ => (obl_skip (by kernel_rfl) (obl_skip (by kernel_rfl) (obl_skip (by kernel_rfl) (obl_skip (by kernel_rfl) (obl_skip (by kernel_rfl) (obl_var (by kernel_rfl) fun _ => (?_)))))))))))
                rintro w9 ⟨⟨hw, hown⟩, A1, c1, rfl, hone⟩
                refine relAt_wanted (by rfl) ?_
                obtain ⟨v', w', hrun, hown', hg, hat⟩ := run_append_rows (P := Tryd.prog) (ty := 39) (enc := iEnc) Tryd.underlying39 hi hz hss hbb rfl iEnc_len (by decide) iEnc_one hown hone (by omega) (by omega) hw.size
                exact relUpon_append (.tmp 75) (.tmp 81) 39 rfl rfl rfl hrun ((Below.refl _ w9).grown hg hw.size (fun g hg => (hown.lt g hg).1)) hown'
              try dsimp only [List.nil_append, List.cons_append]
              apply rel_det
              · refine obl_skip (by kernel_rfl) (obl_skip (by kernel_rfl) (obl_skip (by kernel_rfl) (obl_skip (by kernel_rfl) (obl_skip (by kernel_rfl) (obl_skip (by kernel_rfl) (obl_skip (by kernel_rfl) (obl_skip (by kernel_rfl) (obl_skip (by kernel_rfl) (obl_skip (by kernel_rfl) (obl_skip (by kernel_rfl) (obl_skip (by kernel_rfl) (?_))))))))))))
                intro w9 hw
                refine relAt_wanted (by rfl) ?_
                go_simp
                exact ⟨Below.refl _ _, rfl⟩
              try dsimp only [List.nil_append, List.cons_append]
              apply rel_det
              · refine obl_skip (by kernel_rfl) (obl_skip (by kernel_rfl) (obl_skip (by kernel_rfl) (obl_skip (by kernel_rfl) (obl_skip (by kernel_rfl) (obl_skip (by kernel_rfl) (obl_skip (by kernel_rfl) (obl_skip (by kernel_rfl) (obl_skip (by kernel_rfl) (obl_skip (by kernel_rfl) (obl_skip (by kernel_rfl) (obl_skip (by kernel_rfl) (obl_skip (by kernel_rfl) (?_)))))))))))))
                intro w9 hw
                refine relAt_wanted (by rfl) ?_
                go_simp
                exact ⟨Below.refl _ _, rfl⟩
              try dsimp only [List.nil_append, List.cons_append]
              refine rel_det (x := .slice A2 (m - q) (c - q)) ?_ ?_
              · refine obl_skip (by kernel_rfl) (obl_skip (by kernel_rfl) (obl_skip (by kernel_rfl) (obl_skip (by kernel_rfl) (obl_skip (by kernel_rfl) (obl_skip (by kernel_rfl) (obl_skip (by kernel_rfl) (obl_skip (by kernel_rfl) (obl_skip (by kernel_rfl) (obl_skip (by kernel_rfl) (obl_skip (by kernel_rfl) (obl_skip (by kernel_rfl) (obl_det (by kernel_rfl) (obl_det (by kernel_rfl) (?_))))))))))))))
                intro w9 hw
                refine relAt_wanted (by rfl) ?_
                go_simp
                exact ⟨Below.refl _ _, rfl⟩
              try dsimp only [List.nil_append, List.cons_append]
              refine rel_any (fun v w => w.ownsRow wt.heap.size 3 1 v (q + 1 + (m - q)) ((L.take q ++ [a.course] ++ L.drop q).flatMap iEnc)) rfl (own_stable _ _ _ _ _) ?_ ?_
              · refine obl_skip (by kernel_rfl) (obl_skip (by kernel_rfl) (obl_skip (by kernel_rfl) (obl_skip (by kernel_rfl) (obl_skip (by kernel_rfl) (obl_skip (by kernel_rfl) (obl_skip (by kernel_rfl) (obl_skip (by kernel_rfl) (obl_skip (by kernel_rfl) (obl_skip (by kernel_rfl) (obl_skip (by kernel_rfl) (obl_var (by kernel_rfl) fun _ => (obl_skip (by kernel_rfl) (obl_skip (by kernel_rfl) (obl_det (by kernel_rfl) (?_)))))))))))))))
                rintro w9 ⟨hw, hown⟩
                refine relAt_wanted (by rfl) ?_
                obtain ⟨v', w', hrun, hown', hg, hat⟩ := run_append_rows (P := Tryd.prog) (ty := 39) (enc := iEnc) Tryd.underlying39 hi hz hss hbb rfl iEnc_len (by decide) iEnc_one hown (HRC.out.keep (Rep.flat_stable _) hw.size hw.block) (by omega) (by omega) hw.size
                exact relUpon_append (.tmp 82) (.tmp 85) 39 rfl rfl rfl hrun ((Below.refl _ w9).grown hg hw.size (fun g hg => (hown.lt g hg).1)) hown'
              try dsimp only [List.nil_append, List.cons_append]
              refine rel_any (fun v w => w.ownsRow wt.heap.size 3 1 v (q + 1 + (m - q)) ((L.take q ++ [a.course] ++ L.drop q).flatMap iEnc)) rfl (own_stable _ _ _ _ _) ?_ ?_
              · refine obl_skip (by kernel_rfl) (obl_det (by kernel_rfl) (obl_skip (by kernel_rfl) (obl_skip (by kernel_rfl) (obl_skip (by kernel_rfl) (obl_skip (by kernel_rfl) (obl_skip (by kernel_rfl) (obl_skip (by kernel_rfl) (obl_skip (by kernel_rfl) (obl_skip (by kernel_rfl) (obl_skip (by kernel_rfl) (obl_skip (by kernel_rfl) (obl_det (by kernel_rfl) (obl_skip (by kernel_rfl) (obl_skip (by kernel_rfl) (obl_var (by kernel_rfl) fun _ => (?_))))))))))))))))
                rintro w9 ⟨hw, hown⟩
                refine relAt_cps (by rfl) fun T' hT' => ?_
                go_simp
                exact ⟨Below.refl _ _, hT' _ _ hown⟩
              try dsimp only [List.nil_append, List.cons_append]
              refine fin_dead fun v0 => fin_dead fun v1 => fin_dead fun v2 => fin_dead fun v3 => fin_dead fun v4 => fin_dead fun v5 => fin_dead fun v6 => fin_dead fun v7 => fin_dead fun v8 => fin_dead fun v9 => fin_dead fun v10 => fin_dead fun v11 => fin_dead fun v12 => fin_dead fun v13 => fin_dead fun v14 => fin_dead fun v15 => fin_var rfl fun v16 => ?_
              rintro w4 ⟨hb4, hown⟩
              obtain ⟨A4, c4, rfl, r4⟩ := own_rows iEnc_len (by decide) hown
              have hb48 := HBE.out.trans ((HBWt.out.trans (hb4.mono HBWt.out.size)).mono HBE.out.size)
              have HR4 := hidp r4
              clear hown r4 hcutL hcutH
              go_simp
              go_wp2_with fail
              go_roundw
              case rel => exact ⟨k + 1, A4, _, c4, by omega, rfl, by go_num, by rw [HSt.out, HX.out, HNe.out]; first | exact HR4.out | (have h9 := HR4.out; rw [Nat.sub_self, Nat.add_zero] at h9; exact h9), hb48⟩
              case measure => simp [intOf]; omega
            · go_simp
              go_wp2_with fail
              go_roundw
              case rel => exact ⟨q + 1, by omega, by go_num, HU.out.step HZI.out HP.out, hb3⟩
              case measure => simp [intOf]; omega
          · skip
            obtain rfl : q = m := by omega
            have hqq : ¬ ((q : Int) < q) := by omega
            have HNe : Hid (insI a.course L = L.take q ++ [a.course] ++ L.drop q) := insI_new HU.out (fun y hy => by rw [List.getElem?_eq_none (by have := HML.out; omega)] at hy; cases hy) (by rw [List.getElem?_eq_none (by have := HML.out; omega)]; intro h; cases h) (by have := HML.out; omega)
            go_wp2_with fail
            refine wp_region_S wr.heap.size 16 (fun _ => false) (Nat.le_refl _) (by kernel_rfl) (by kernel_rfl) (by kernel_rfl) ?_
            dsimp only [List.take, List.drop]
            apply relS_det (mask := [])
            · rfl
            · kernel_rfl
            · kernel_rfl
            · dsimp only [oblS]
              rintro w9 h9
              go_simp
              exact ⟨Below.refl _ _, rfl⟩
            dsimp only [List.nil_append, List.cons_append]
            apply relS_det (mask := [false])
            · rfl
            · kernel_rfl
            · kernel_rfl
            · dsimp only [oblS]
              rintro w9 h9
              go_simp
              exact ⟨Below.refl _ _, rfl⟩
            dsimp only [List.nil_append, List.cons_append]
            apply relS_det (mask := [false, true])
            · rfl
            · kernel_rfl
            · kernel_rfl
            · dsimp only [oblS]
              rintro w9 h9
              go_simp
              exact ⟨Below.refl _ _, rfl⟩
            dsimp only [List.nil_append, List.cons_append]
            apply relS_det (mask := [true, false, true]) (x := .bool false)
            · rfl
            · kernel_rfl
            · kernel_rfl
            · dsimp only [oblS]
              rintro w9 h9
              go_simp
              exact ⟨Below.refl _ _, rfl⟩
            dsimp only [List.nil_append, List.cons_append]
            apply relS_det (mask := [false, false, false, true]) (x := .bool false)
            · rfl
            · kernel_rfl
            · kernel_rfl
            · dsimp only [oblS]
              rintro w9 h9
              go_simp
              exact ⟨Below.refl _ _, rfl⟩
            dsimp only [List.nil_append, List.cons_append]
            apply relS_not (mask := [false, false, false, false, true]) (t := 41) (want := true) (hf := by rfl) (hg := by kernel_rfl) (hm := by kernel_rfl)
            · rfl
            dsimp only [List.nil_append, List.cons_append]
            apply relS_not (mask := [false, false, false, false, true, false]) (t := 41) (want := true) (hf := by rfl) (hg := by kernel_rfl) (hm := by kernel_rfl)
            · rfl
            dsimp only [List.nil_append, List.cons_append]
            apply relS_not (mask := [false, false, false, false, true, true, true]) (t := 41) (want := true) (hf := by rfl) (hg := by kernel_rfl) (hm := by kernel_rfl)
            · rfl
            dsimp only [List.nil_append, List.cons_append]
            apply relS_not (mask := [false, false, false, false, true, false, false, true]) (t := 41) (want := true) (hf := by rfl) (hg := by kernel_rfl) (hm := by kernel_rfl)
            · rfl
            dsimp only [List.nil_append, List.cons_append]
            apply relS_not (mask := [false, false, false, false, true, false, false, false, false]) (t := 41) (want := true) (hf := by rfl) (hg := by kernel_rfl) (hm := by kernel_rfl)
            · rfl
            dsimp only [List.nil_append, List.cons_append]
            apply relS_not (mask := [false, false, false, false, true, false, false, false, false, false]) (t := 41) (want := true) (hf := by rfl) (hg := by kernel_rfl) (hm := by kernel_rfl)
            · rfl
            dsimp only [List.nil_append, List.cons_append]
            apply relS_not (mask := [false, false, false, false, true, false, false, false, false, true, true]) (t := 41) (want := true) (hf := by rfl) (hg := by kernel_rfl) (hm := by kernel_rfl)
            · rfl
            dsimp only [List.nil_append, List.cons_append]
            apply relS_not (mask := [false, false, false, false, true, false, false, false, false, false, false, true]) (t := 41) (want := true) (hf := by rfl) (hg := by kernel_rfl) (hm := by kernel_rfl)
            · rfl
            dsimp only [List.nil_append, List.cons_append]
            apply relS_not (mask := [false, false, false, false, true, false, false, false, false, false, false, false, true]) (t := 41) (want := true) (hf := by rfl) (hg := by kernel_rfl) (hm := by kernel_rfl)
            · rfl
            dsimp only [List.nil_append, List.cons_append]
            apply relS_not (mask := [false, false, false, false, true, false, false, false, true, false, false, false, false, true]) (t := 41) (want := true) (hf := by rfl) (hg := by kernel_rfl) (hm := by kernel_rfl)
            · rfl
            dsimp only [List.nil_append, List.cons_append]
            apply relS_det (mask := [false, false, false, false, true, false, false, false, false, false, false, false, false, false, true]) (x := .bool false)
            · rfl
            · kernel_rfl
            · kernel_rfl
            · dsimp only [oblS]
              rintro w9 h9
              go_simp
              exact ⟨Below.refl _ _, rfl⟩
            dsimp only [List.nil_append, List.cons_append]
            refine relS_end (by rfl) ?_
            dsimp only [finS]
            -- rintro  w8 hb
            rintro w9 hb9
            have hb3 := hbq.trans (hb9.mono hbq.size)
            go_simp
            go_wp2_with fail
            refine wp_region_S w9.heap.size 16 (fun _ => false) (Nat.le_refl _) (by kernel_rfl) (by kernel_rfl) (by kernel_rfl) ?_
            dsimp only [List.take, List.drop]
            apply relS_det (mask := [])
            · rfl
            · kernel_rfl
            · kernel_rfl
            · dsimp only [oblS]
              rintro w9 h9
              go_simp
              exact ⟨Below.refl _ _, rfl⟩
            dsimp only [List.nil_append, List.cons_append]
            apply relS_det (mask := [false])
            · rfl
            · kernel_rfl
            · kernel_rfl
            · dsimp only [oblS]
              rintro w9 h9
              go_simp
              exact ⟨Below.refl _ _, rfl⟩
            dsimp only [List.nil_append, List.cons_append]
            apply relS_det (mask := [false, true])
            · rfl
            · kernel_rfl
            · kernel_rfl
            · dsimp only [oblS]
              rintro w9 h9
              go_simp
              exact ⟨Below.refl _ _, rfl⟩
            dsimp only [List.nil_append, List.cons_append]
            apply relS_det (mask := [true, false, true]) (x := .bool true)
            · rfl
            · kernel_rfl
            · kernel_rfl
            · dsimp only [oblS]
              rintro w9 h9
              go_simp
              exact ⟨Below.refl _ _, rfl⟩
            dsimp only [List.nil_append, List.cons_append]
            apply relS_det (mask := [false, false, false, true]) (x := .bool true)
            · rfl
            · kernel_rfl
            · kernel_rfl
            · dsimp only [oblS]
              rintro w9 h9
              go_simp
              exact ⟨Below.refl _ _, rfl⟩
            dsimp only [List.nil_append, List.cons_append]
            apply relS_not (mask := [false, false, false, false, true]) (t := 59) (want := false) (hf := by rfl) (hg := by kernel_rfl) (hm := by kernel_rfl)
            · rfl
            dsimp only [List.nil_append, List.cons_append]
            apply relS_not (mask := [false, false, false, false, true, false]) (t := 59) (want := false) (hf := by rfl) (hg := by kernel_rfl) (hm := by kernel_rfl)
            · rfl
            dsimp only [List.nil_append, List.cons_append]
            apply relS_not (mask := [false, false, false, false, true, true, true]) (t := 59) (want := false) (hf := by rfl) (hg := by kernel_rfl) (hm := by kernel_rfl)
            · rfl
            dsimp only [List.nil_append, List.cons_append]
            apply relS_not (mask := [false, false, false, false, true, false, false, true]) (t := 59) (want := false) (hf := by rfl) (hg := by kernel_rfl) (hm := by kernel_rfl)
            · rfl
            dsimp only [List.nil_append, List.cons_append]
            apply relS_not (mask := [false, false, false, false, true, false, false, false, false]) (t := 59) (want := false) (hf := by rfl) (hg := by kernel_rfl) (hm := by kernel_rfl)
            · rfl
            dsimp only [List.nil_append, List.cons_append]
            apply relS_not (mask := [false, false, false, false, true, false, false, false, false, false]) (t := 59) (want := false) (hf := by rfl) (hg := by kernel_rfl) (hm := by kernel_rfl)
            · rfl
            dsimp only [List.nil_append, List.cons_append]
            apply relS_not (mask := [false, false, false, false, true, false, false, false, false, true, true]) (t := 59) (want := false) (hf := by rfl) (hg := by kernel_rfl) (hm := by kernel_rfl)
            · rfl
            dsimp only [List.nil_append, List.cons_append]
            apply relS_not (mask := [false, false, false, false, true, false, false, false, false, false, false, true]) (t := 59) (want := false) (hf := by rfl) (hg := by kernel_rfl) (hm := by kernel_rfl)
            · rfl
            dsimp only [List.nil_append, List.cons_append]
            apply relS_not (mask := [false, false, false, false, true, false, false, false, false, false, false, false, true]) (t := 59) (want := false) (hf := by rfl) (hg := by kernel_rfl) (hm := by kernel_rfl)
            · rfl
            dsimp only [List.nil_append, List.cons_append]
            apply relS_not (mask := [false, false, false, false, true, false, false, false, true, false, false, false, false, true]) (t := 59) (want := false) (hf := by rfl) (hg := by kernel_rfl) (hm := by kernel_rfl)
            · rfl
            dsimp only [List.nil_append, List.cons_append]
            apply relS_det (mask := [false, false, false, false, true, false, false, false, false, false, false, false, false, false, true]) (x := .bool true)
            · rfl
            · kernel_rfl
            · kernel_rfl
            · dsimp only [oblS]
              rintro w9 h9
              go_simp
              exact ⟨Below.refl _ _, rfl⟩
            dsimp only [List.nil_append, List.cons_append]
            refine relS_end (by rfl) ?_
            dsimp only [finS]
            -- rintro  w8 hb
            rintro wt hbt
            have hbW := hb3.trans (hbt.mono hb3.size)
            clear c0 cc1 c2 c3 c4 c5 lb
            go_simp
            obtain ⟨b3, off3, a3, e3, _, hz3, c0, cc1, c2, c3, c4, c5⟩ := rSl.get (HD.out wt (HBE.out.trans ((hbW).mono HBE.out.size))) hlt
            obtain ⟨rfl, rfl⟩ : b = b3 ∧ off = off3 := by simpa using e3
            obtain rfl : a = a3 := by rw [HZ.out] at hz3; exact Option.some.inj hz3
            have lb := lt_of_cell c0
            clear e3 hz3
            have hlW := HI.out wt hbW
            have hcutL := fun W => run_cut_low (P := Tryd.prog) W Tryd.underlying39 hi (A) q c q .i64 (q : Int) rfl hq
            have hcutH := fun W => run_cut_high (P := Tryd.prog) W Tryd.underlying39 hi (A) q c q .i64 (q : Int) rfl (by omega)
            rw [hss] at hcutL
            have hqc : q ≤ c := by omega
            have hrc := hlW.cut (m := q) hq
            have hrt := hlW.take (m := q) hq
            generalize cutA (A) c q 1 = A2 at hcutL hrc
            have HRC := hidp hrc
            have HRT := hidp hrt
            have HBWt := hidp hbW
            clear hrc hrt hlW
            go_wp2_with fail
            refine wp_region_relJ wt.heap.size (fun k => k == 11 || k == 15) (fun k => k == 0 || k == 4 || k == 10 || k == 11 || k == 15 || k == 16) (Nat.le_refl _) (by kernel_rfl) (by kernel_rfl) (by kernel_rfl) ?_
            refine rel_any (fun v w => ∃ g, v = .slice (some ⟨g, 0, none⟩) 0 0 ∧ wt.heap.size ≤ g ∧ w.heap[g]? = some (.cells #[] 3 (0, 0))) rfl (fun v w w' hb ⟨g, hv, hg, hh⟩ => ⟨g, hv, hg, (hb.block g (lt_of_heap hh)).trans hh⟩) ?_ ?_
            · intro w9 hw
              refine relAt_cps (by rfl) fun T' hT' => ?_
              go_simp
              exact ⟨(Below.refl _ w9).alloc (Nat.le_refl _) _, hT' _ _ ⟨_, rfl, hw.size, World.alloc_heap_new w9 _⟩⟩
            try dsimp only [List.nil_append, List.cons_append]
            apply rel_det
            · refine obl_skip (by kernel_rfl) (?_)
              intro w9 hw
              refine relAt_wanted (by rfl) ?_
              go_simp
              exact ⟨Below.refl _ _, rfl⟩
            try dsimp only [List.nil_append, List.cons_append]
            apply rel_det
            · refine obl_skip (by kernel_rfl) (obl_skip (by kernel_rfl) (?_))
              intro w9 hw
              refine relAt_wanted (by rfl) ?_
              go_simp
              exact ⟨Below.refl _ _, rfl⟩
            try dsimp only [List.nil_append, List.cons_append]
            refine rel_det (x := .slice (A) q c) ?_ ?_
            · refine obl_skip (by kernel_rfl) (obl_det (by kernel_rfl) (obl_det (by kernel_rfl) (?_)))
              intro w9 hw
              refine relAt_wanted (by rfl) ?_
              go_simp
              exact ⟨Below.refl _ _, rfl⟩
            try dsimp only [List.nil_append, List.cons_append]
            refine rel_any (fun v w => w.ownsRow wt.heap.size 3 1 v (q) ((L.take q).flatMap iEnc)) rfl (own_stable _ _ _ _ _) ?_ ?_
            · refine obl_var (by kernel_rfl) fun _ => (obl_skip (by kernel_rfl) (obl_skip (by kernel_rfl) (obl_det (by kernel_rfl) (?_))))
              rintro w9 ⟨hw, g, rfl, hg, hh⟩
              refine relAt_wanted (by rfl) ?_
              obtain ⟨v', w', hrun, hown', hb'⟩ := run_append_first (P := Tryd.prog) (ty := 39) (enc := iEnc) Tryd.underlying39 hi hz hss hbb rfl iEnc_len (by decide) hh hg (HRT.out.keep (Rep.flat_stable _) hw.size hw.block) (by omega) (by omega)
              exact relUpon_append (.tmp 71) (.tmp 74) 39 rfl rfl rfl hrun hb' hown'
            try dsimp only [List.nil_append, List.cons_append]
            apply rel_det
            · refine obl_skip (by kernel_rfl) (obl_skip (by kernel_rfl) (obl_skip (by kernel_rfl) (obl_skip (by kernel_rfl) (obl_skip (by kernel_rfl) (?_)))))
              intro w9 hw
              refine relAt_wanted (by rfl) ?_
              go_simp
              exact ⟨Below.refl _ _, rfl⟩
            try dsimp only [List.nil_append, List.cons_append]
            apply rel_det
            · refine obl_skip (by kernel_rfl) (obl_skip (by kernel_rfl) (obl_skip (by kernel_rfl) (obl_skip (by kernel_rfl) (obl_skip (by kernel_rfl) (obl_skip (by kernel_rfl) (?_))))))
              intro w9 hw
              refine relAt_wanted (by rfl) ?_
              go_simp
              exact ⟨Below.refl _ _, rfl⟩
            try dsimp only [List.nil_append, List.cons_append]
            apply rel_det
            · refine obl_skip (by kernel_rfl) (obl_skip (by kernel_rfl) (obl_skip (by kernel_rfl) (obl_skip (by kernel_rfl) (obl_skip (by kernel_rfl) (obl_det (by kernel_rfl) (obl_det (by kernel_rfl) (?_)))))))
              intro w9 hw
              refine relAt_wanted (by rfl) ?_
              go_simp
              exact ⟨Below.refl _ _, rfl⟩
            try dsimp only [List.nil_append, List.cons_append]
            apply rel_det
            · refine obl_skip (by kernel_rfl) (obl_skip (by kernel_rfl) (obl_skip (by kernel_rfl) (obl_skip (by kernel_rfl) (obl_skip (by kernel_rfl) (obl_skip (by kernel_rfl) (obl_skip (by kernel_rfl) (obl_det (by kernel_rfl) (?_))))))))
              intro w9 hw
              refine relAt_wanted (by rfl) ?_
              go_simp
              exact ⟨Below.refl _ _, rfl⟩
            try dsimp only [List.nil_append, List.cons_append]
            refine rel_det (x := .int .i64 a.course) ?_ ?_
            · refine obl_skip (by kernel_rfl) (obl_skip (by kernel_rfl) (obl_skip (by kernel_rfl) (obl_skip (by kernel_rfl) (obl_skip (by kernel_rfl) (obl_skip (by kernel_rfl) (obl_skip (by kernel_rfl) (obl_skip (by kernel_rfl) (obl_det (by kernel_rfl) (?_)))))))))
              intro w9 hw
              have hc9 := (bcell hw).1
              refine relAt_wanted (by rfl) ?_
              go_simp
              exact ⟨Below.refl _ _, rfl⟩
            try dsimp only [List.nil_append, List.cons_append]
            refine rel_any (fun v w => ∃ A c, v = .slice A 1 c ∧ iSl w w.heap.size A 1 c [a.course]) rfl (fun v w w' hb ⟨A, c, hv, hh⟩ => ⟨A, c, hv, hh.keep (Rep.flat_stable _) hb.size hb.block⟩) ?_ ?_
            · refine obl_skip (by kernel_rfl) (obl_skip (by kernel_rfl) (obl_skip (by kernel_rfl) (obl_skip (by kernel_rfl) (obl_skip (by kernel_rfl) (obl_skip (by kernel_rfl) (obl_skip (by kernel_rfl) (obl_skip (by kernel_rfl) (obl_skip (by kernel_rfl) (obl_det (by kernel_rfl) (?_))))))))))
              rintro w9 hw
              refine relAt_cps (by rfl) fun T' hT' => ?_
              go_simp
              exact ⟨(Below.refl _ w9).alloc (Nat.le_refl _) _, hT' _ _ ⟨_, _, rfl, rows_of_heap (l := [a.course]) iEnc_len (World.alloc_heap_new w9 _) (Nat.le_refl _) (by decide) rfl⟩⟩
            try dsimp only [List.nil_append, List.cons_append]
            refine rel_any (fun v w => w.ownsRow wt.heap.size 3 1 v (q + 1) ((L.take q ++ [a.course]).flatMap iEnc)) rfl (own_stable _ _ _ _ _) ?_ ?_
            · refine obl_skip (by kernel_rfl) (obl_skip (by kernel_rfl) (obl_skip (by kernel_rfl) (obl_skip (by kernel_rfl) (obl_var (by kernel_rfl) fun _ => (obl_skip (by kernel_rfl) (obl_skip (by kernel_rfl) (obl_skip (by kernel_rfl) (obl_skip (by kernel_rfl) (obl_skip (by kernel_rfl) (obl_var (by kernel_rfl) fun _ => (?_)))))))))))
              rintro w9 ⟨⟨hw, hown⟩, A1, c1, rfl, hone⟩
              refine relAt_wanted (by rfl) ?_
              obtain ⟨v', w', hrun, hown', hg, hat⟩ := run_append_rows (P := Tryd.prog) (ty := 39) (enc := iEnc) Tryd.underlying39 hi hz hss hbb rfl iEnc_len (by decide) iEnc_one hown hone (by omega) (by omega) hw.size
              exact relUpon_append (.tmp 75) (.tmp 81) 39 rfl rfl rfl hrun ((Below.refl _ w9).grown hg hw.size (fun g hg => (hown.lt g hg).1)) hown'
            try dsimp only [List.nil_append, List.cons_append]
            apply rel_det
            · refine obl_skip (by kernel_rfl) (obl_skip (by kernel_rfl) (obl_skip (by kernel_rfl) (obl_skip (by kernel_rfl) (obl_skip (by kernel_rfl) (obl_skip (by kernel_rfl) (obl_skip (by kernel_rfl) (obl_skip (by kernel_rfl) (obl_skip (by kernel_rfl) (obl_skip (by kernel_rfl) (obl_skip (by kernel_rfl) (obl_skip (by kernel_rfl) (?_))))))))))))
              intro w9 hw
              refine relAt_wanted (by rfl) ?_
              go_simp
              exact ⟨Below.refl _ _, rfl⟩
            try dsimp only [List.nil_append, List.cons_append]
            apply rel_det
            · refine obl_skip (by kernel_rfl) (obl_skip (by kernel_rfl) (obl_skip (by kernel_rfl) (obl_skip (by kernel_rfl) (obl_skip (by kernel_rfl) (obl_skip (by kernel_rfl) (obl_skip (by kernel_rfl) (obl_skip (by kernel_rfl) (obl_skip (by kernel_rfl) (obl_skip (by kernel_rfl) (obl_skip (by kernel_rfl) (obl_skip (by kernel_rfl) (obl_skip (by kernel_rfl) (?_)))))))))))))
              intro w9 hw
              refine relAt_wanted (by rfl) ?_
              go_simp
              exact ⟨Below.refl _ _, rfl⟩
            try dsimp only [List.nil_append, List.cons_append]
            refine rel_det (x := .slice A2 (q - q) (c - q)) ?_ ?_
            · refine obl_skip (by kernel_rfl) (obl_skip (by kernel_rfl) (obl_skip (by kernel_rfl) (obl_skip (by kernel_rfl) (obl_skip (by kernel_rfl) (obl_skip (by kernel_rfl) (obl_skip (by kernel_rfl) (obl_skip (by kernel_rfl) (obl_skip (by kernel_rfl) (obl_skip (by kernel_rfl) (obl_skip (by kernel_rfl) (obl_skip (by kernel_rfl) (obl_det (by kernel_rfl) (obl_det (by kernel_rfl) (?_))))))))))))))
              intro w9 hw
              refine relAt_wanted (by rfl) ?_
              go_simp
              exact ⟨Below.refl _ _, rfl⟩
            try dsimp only [List.nil_append, List.cons_append]
            refine rel_any (fun v w => w.ownsRow wt.heap.size 3 1 v (q + 1 + (q - q)) ((L.take q ++ [a.course] ++ L.drop q).flatMap iEnc)) rfl (own_stable _ _ _ _ _) ?_ ?_
            · refine obl_skip (by kernel_rfl) (obl_skip (by kernel_rfl) (obl_skip (by kernel_rfl) (obl_skip (by kernel_rfl) (obl_skip (by kernel_rfl) (obl_skip (by kernel_rfl) (obl_skip (by kernel_rfl) (obl_skip (by kernel_rfl) (obl_skip (by kernel_rfl) (obl_skip (by kernel_rfl) (obl_skip (by kernel_rfl) (obl_var (by kernel_rfl) fun _ => (obl_skip (by kernel_rfl) (obl_skip (by kernel_rfl) (obl_det (by kernel_rfl) (?_)))))))))))))))
              rintro w9 ⟨hw, hown⟩
              refine relAt_wanted (by rfl) ?_
              obtain ⟨v', w', hrun, hown', hg, hat⟩ := run_append_rows (P := Tryd.prog) (ty := 39) (enc := iEnc) Tryd.underlying39 hi hz hss hbb rfl iEnc_len (by decide) iEnc_one hown (HRC.out.keep (Rep.flat_stable _) hw.size hw.block) (by omega) (by omega) hw.size
              exact relUpon_append (.tmp 82) (.tmp 85) 39 rfl rfl rfl hrun ((Below.refl _ w9).grown hg hw.size (fun g hg => (hown.lt g hg).1)) hown'
            try dsimp only [List.nil_append, List.cons_append]
            refine rel_any (fun v w => w.ownsRow wt.heap.size 3 1 v (q + 1 + (q - q)) ((L.take q ++ [a.course] ++ L.drop q).flatMap iEnc)) rfl (own_stable _ _ _ _ _) ?_ ?_
            · refine obl_skip (by kernel_rfl) (obl_det (by kernel_rfl) (obl_skip (by kernel_rfl) (obl_skip (by kernel_rfl) (obl_skip (by kernel_rfl) (obl_skip (by kernel_rfl) (obl_skip (by kernel_rfl) (obl_skip (by kernel_rfl) (obl_skip (by kernel_rfl) (obl_skip (by kernel_rfl) (obl_skip (by kernel_rfl) (obl_skip (by kernel_rfl) (obl_det (by kernel_rfl) (obl_skip (by kernel_rfl) (obl_skip (by kernel_rfl) (obl_var (by kernel_rfl) fun _ => (?_))))))))))))))))
              rintro w9 ⟨hw, hown⟩
              refine relAt_cps (by rfl) fun T' hT' => ?_
              go_simp
              exact ⟨Below.refl _ _, hT' _ _ hown⟩
            try dsimp only [List.nil_append, List.cons_append]
            refine fin_dead fun v0 => fin_dead fun v1 => fin_dead fun v2 => fin_dead fun v3 => fin_dead fun v4 => fin_dead fun v5 => fin_dead fun v6 => fin_dead fun v7 => fin_dead fun v8 => fin_dead fun v9 => fin_dead fun v10 => fin_dead fun v11 => fin_dead fun v12 => fin_dead fun v13 => fin_dead fun v14 => fin_dead fun v15 => fin_var rfl fun v16 => ?_
            rintro w4 ⟨hb4, hown⟩
            obtain ⟨A4, c4, rfl, r4⟩ := own_rows iEnc_len (by decide) hown
            have hb48 := HBE.out.trans ((HBWt.out.trans (hb4.mono HBWt.out.size)).mono HBE.out.size)
            have HR4 := hidp r4
            clear hown r4 hcutL hcutH
            go_simp
            go_wp2_with fail
            go_roundw
            case rel => exact ⟨k + 1, A4, _, c4, by omega, rfl, by go_num, by rw [HSt.out, HX.out, HNe.out]; first | exact HR4.out | (have h9 := HR4.out; rw [Nat.sub_self, Nat.add_zero] at h9; exact h9), hb48⟩
            case measure => simp [intOf]; omega
    · obtain rfl : k = n1 := by omega
      have hkk : ¬ ((k : Int) < k) := by omega
      have HX : Hid (coursesR x = L) := by
        show _ = _
        unfold coursesR
        rw [← HLL.out, List.take_of_length_le (by have := HN1.out; omega)]
      go_wp2_with fail
      go_ret
      exact ⟨A, m, c, rfl, by rw [HX.out]; exact HRW.out, bw⟩
end Go.Proofs.YtbmbpannhncpjaaDoor
