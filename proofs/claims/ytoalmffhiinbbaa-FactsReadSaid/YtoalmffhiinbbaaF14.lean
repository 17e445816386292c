/- The reference's At walked. -/
import Derived.Test.YtoalmffhiinbbaaF13
namespace Go.Proofs.Ytoalmffhiinbbaa
open Go.RowKit Go.Shelf

/-- What the reference's 'best' holds behind k facts. -/
def RBest (l : List Fc) (kk : Ky) (t known : Int) (k : Nat) (bi : Int) : Prop := (bi = -1 ∧ bestF (ofF (l.take k) kk known) t = none) ∨ ∃ (j : Nat) (f : Fc), bi = j ∧ j < k ∧ l[j]? = some f ∧ bestF (ofF (l.take k) kk known) t = some f
theorem RBest.start (l : List Fc) (kk : Ky) (t known : Int) : RBest l kk t known 0 (-1) := .inl ⟨rfl, rfl⟩
theorem ofF_no {l : List Fc} {kk : Ky} {t known : Int} {k : Nat} {x : Fc} (h : l[k]? = some x) (hx : decide (x.key = kk) = false ∨ decide (x.fr ≤ t) = false ∨ decide (t < x.to) = false ∨ decide (x.known ≤ known) = false) : bestF (ofF (l.take (k + 1)) kk known) t = bestF (ofF (l.take k) kk known) t := by
  by_cases hk : x.key = kk ∧ x.known ≤ known
  · rw [ofF_take_yes h hk.1 hk.2, bestF_snoc]
    refine better_no ?_
    rcases hx with hx | hx | hx | hx
    · simp [hk.1] at hx
    · exact at_false1 hx
    · exact at_false2 hx
    · simp [hk.2] at hx
  · rw [ofF_take_no h hk]
theorem ofF_yes {l : List Fc} {kk : Ky} {t known : Int} {k : Nat} {x : Fc} (h : l[k]? = some x) (h0 : decide (x.key = kk) = true) (h3 : decide (x.known ≤ known) = true) : bestF (ofF (l.take (k + 1)) kk known) t = better t (bestF (ofF (l.take k) kk known) t) x := by
  rw [ofF_take_yes h (by simpa using h0) (by simpa using h3), bestF_snoc]
theorem RBest.no {l : List Fc} {kk : Ky} {t known : Int} {k : Nat} {bi : Int} {x : Fc} (h : RBest l kk t known k bi) (hl : l[k]? = some x) (hx : decide (x.key = kk) = false ∨ decide (x.fr ≤ t) = false ∨ decide (t < x.to) = false ∨ decide (x.known ≤ known) = false) : RBest l kk t known (k + 1) bi := by
  rcases h with ⟨h1, h2⟩ | ⟨j, f, h1, h2, h3, h4⟩
  · exact .inl ⟨h1, by rw [ofF_no hl hx, h2]⟩
  · exact .inr ⟨j, f, h1, by omega, h3, by rw [ofF_no hl hx, h4]⟩
theorem RBest.new {l : List Fc} {kk : Ky} {t known : Int} {k : Nat} {x : Fc} (h : bestF (ofF (l.take k) kk known) t = none) (hl : l[k]? = some x) (h0 : decide (x.key = kk) = true) (h1 : decide (x.fr ≤ t) = true) (h2 : decide (t < x.to) = true) (h3 : decide (x.known ≤ known) = true) : RBest l kk t known (k + 1) k :=
  .inr ⟨k, x, rfl, by omega, hl, by rw [ofF_yes hl h0 h3, h, better_new (at_true h1 h2)]⟩
theorem RBest.up {l : List Fc} {kk : Ky} {t known : Int} {k : Nat} {x f : Fc} (h : bestF (ofF (l.take k) kk known) t = some f) (hb : x.bef f = false) (hl : l[k]? = some x) (h0 : decide (x.key = kk) = true) (h1 : decide (x.fr ≤ t) = true) (h2 : decide (t < x.to) = true) (h3 : decide (x.known ≤ known) = true) : RBest l kk t known (k + 1) k :=
  .inr ⟨k, x, rfl, by omega, hl, by rw [ofF_yes hl h0 h3, h, better_up (at_true h1 h2) hb]⟩
theorem RBest.old {l : List Fc} {kk : Ky} {t known : Int} {k j : Nat} {x f : Fc} (h : bestF (ofF (l.take k) kk known) t = some f) (hj : j < k) (hf : l[j]? = some f) (hb : x.bef f = true) (hl : l[k]? = some x) (h0 : decide (x.key = kk) = true) (h1 : decide (x.fr ≤ t) = true) (h2 : decide (t < x.to) = true) (h3 : decide (x.known ≤ known) = true) : RBest l kk t known (k + 1) j :=
  .inr ⟨j, f, rfl, by omega, hf, by rw [ofF_yes hl h0 h3, h, better_old (at_true h1 h2) hb]⟩

set_option maxRecDepth 100000 in
set_option maxHeartbeats 1000000 in
theorem rAt_any (A : Option Addr) (n c : Nat) (l : List Fc) (kk : Ky) (t known : Int) (w : World) (hl : fSl w w.heap.size A n c l) :
    Calls Try.prog 19 #[.slice A n c, .agg #[.int .i64 kk.kind, .int .i64 kk.subj, .int .i64 kk.obj], .int .i64 t, .int .i64 known] w (AtPost l kk t known w) := by
  have HN := hidp hl.1
  have hcap := hl.2.2.1
  have hlen := hl.2.1
  have hBx : Below w.heap.size w (w.alloc (.cells #[.int .i64 kk.kind, .int .i64 kk.subj, .int .i64 kk.obj] 24)) := (Below.refl _ w).alloc (Nat.le_refl _) _
  have hKx := World.alloc_heap_new w (.cells #[.int .i64 kk.kind, .int .i64 kk.subj, .int .i64 kk.obj] 24)
  go_enter Try.func19, Try.ntmps19
  go_wp2_with fail
  go_loopw [10, 11, 12] (fun bi i _ wr => ∃ (k : Nat) (b : Int), k ≤ n ∧ i = .int .i64 k ∧ bi = .int .i64 b ∧ RBest l kk t known k b ∧ Below w.heap.size w wr ∧ wr.heap[w.heap.size]? = some (.cells #[.int .i64 kk.kind, .int .i64 kk.subj, .int .i64 kk.obj] 24 (0, 0))) (fun _ i _ _ => n - (intOf i).toNat)
  case atStart => exact ⟨0, -1, by omega, rfl, rfl, RBest.start _ _ _ _, hBx, hKx⟩
  case round =>
    obtain ⟨k, bi, hk, rfl, rfl, hbst, hbe, hkb⟩ := hrel
    have HA := hidp hbst
    have HKB := hidp hkb
    clear hbst hBx hKx
    have hsz := hbe.size
    have hkl := lt_of_heap hkb
    clear hkb
    by_cases hlt : k < n
    · obtain ⟨b, off, x, hA, hb, hzx, c0, c1, c2, c3, c4, c5, c6, c7⟩ := fSl.get (hl.below fStable hbe) hlt
      obtain rfl := hA
      have HX := hidp hzx
      clear hzx
      have hwb := lt_of_cell c0
      have hBn : Below w.heap.size w (wr.alloc (.cells #[.int .i64 x.key.kind, .int .i64 x.key.subj, .int .i64 x.key.obj, .int .i64 x.val, .int .i64 x.fr, .int .i64 x.to, .int .i64 x.known, .int .i64 x.no] 28)) := hbe.alloc hsz _
      have hnew := World.alloc_heap_new wr (.cells #[.int .i64 x.key.kind, .int .i64 x.key.subj, .int .i64 x.key.obj, .int .i64 x.val, .int .i64 x.fr, .int .i64 x.to, .int .i64 x.known, .int .i64 x.no] 28)
      have hkey := (Below.heap_alloc wr (.cells #[.int .i64 x.key.kind, .int .i64 x.key.subj, .int .i64 x.key.obj, .int .i64 x.val, .int .i64 x.fr, .int .i64 x.to, .int .i64 x.known, .int .i64 x.no] 28) _ hkl).trans HKB.out
      have HNew := hidp hnew
      have HKey := hidp hkey
      clear hnew hkey
      obtain ⟨q0, hq0⟩ : ∃ z, decide (x.key = kk) = z := ⟨_, rfl⟩
      have Q0 := hidp hq0
      have hq := fun W => k_eql x.key kk W
      rw [hq0] at hq
      clear hq0
      cases q0
      · skip
        go_wp2_with fail
        obtain ⟨W1, hW1⟩ : ∃ W1, wr.alloc (.cells #[.int .i64 x.key.kind, .int .i64 x.key.subj, .int .i64 x.key.obj, .int .i64 x.val, .int .i64 x.fr, .int .i64 x.to, .int .i64 x.known, .int .i64 x.no] 28) = W1 := ⟨_, rfl⟩
        have hBn1 : Below w.heap.size w W1 := hW1 ▸ hBn
        have hn1 : W1.heap[wr.heap.size]? = some (.cells #[.int .i64 x.key.kind, .int .i64 x.key.subj, .int .i64 x.key.obj, .int .i64 x.val, .int .i64 x.fr, .int .i64 x.to, .int .i64 x.known, .int .i64 x.no] 28 (0, 0)) := hW1 ▸ HNew.out
        have hk1 : W1.heap[w.heap.size]? = some (.cells #[.int .i64 kk.kind, .int .i64 kk.subj, .int .i64 kk.obj] 24 (0, 0)) := hW1 ▸ HKey.out
        rw [hW1]
        clear hW1 hBn c0 c1 c2 c3 c4 c5 c6 c7
        have l1 := lt_of_heap hn1
        have l2 := lt_of_heap hk1
        have HN1 := hidp hn1
        have HK1 := hidp hk1
        have x0 := cell_of_heap (o := 0) hn1
        have x1 := cell_of_heap (o := 1) hn1
        have x2 := cell_of_heap (o := 2) hn1
        have x3 := cell_of_heap (o := 3) hn1
        have x4 := cell_of_heap (o := 4) hn1
        have x5 := cell_of_heap (o := 5) hn1
        have x6 := cell_of_heap (o := 6) hn1
        have x7 := cell_of_heap (o := 7) hn1
        have k0 := cell_of_heap (o := 0) hk1
        have k1 := cell_of_heap (o := 1) hk1
        have k2 := cell_of_heap (o := 2) hk1
        simp only [List.getElem?_toArray, List.getElem?_cons_zero, List.getElem?_cons_succ] at x0 x1 x2 x3 x4 x5 x6 x7 k0 k1 k2
        clear hn1 hk1
        refine wp_region_below W1.heap.size (by kernel_rfl) (by kernel_rfl) ?_
        repeat
          first
          | go_big_quiet_skip
          | (refine q_step (by rfl) ?_
             apply Exists.intro
             refine ⟨fun w9 h9 => ?_, ?_⟩
             · have hc9 := (bcell h9).1
               go_simp
               first | done | rfl 
             go_simp)
        refine wpQuiet_nil ?_
        intro w9 hb9
        have hbz := hBn1.trans (hb9.mono hBn1.size)
        have hkz := (hb9.block _ l2).trans HK1.out
        clear x0 x1 x2 x3 x4 x5 x6 x7 k0 k1 k2 HN1 HK1
        go_wp2_with fail
        go_roundw
        case rel => exact ⟨k + 1, bi, by omega, by go_num, rfl, HA.out.no HX.out (.inl Q0.out), hbz, hkz⟩
        case measure => simp [intOf]; omega
      · skip
        obtain ⟨q1, hq1⟩ : ∃ z, decide (x.fr ≤ t) = z := ⟨_, rfl⟩
        have Q1 := hidp hq1
        cases q1
        · skip
          go_wp2_with fail
          obtain ⟨W1, hW1⟩ : ∃ W1, wr.alloc (.cells #[.int .i64 x.key.kind, .int .i64 x.key.subj, .int .i64 x.key.obj, .int .i64 x.val, .int .i64 x.fr, .int .i64 x.to, .int .i64 x.known, .int .i64 x.no] 28) = W1 := ⟨_, rfl⟩
          have hBn1 : Below w.heap.size w W1 := hW1 ▸ hBn
          have hn1 : W1.heap[wr.heap.size]? = some (.cells #[.int .i64 x.key.kind, .int .i64 x.key.subj, .int .i64 x.key.obj, .int .i64 x.val, .int .i64 x.fr, .int .i64 x.to, .int .i64 x.known, .int .i64 x.no] 28 (0, 0)) := hW1 ▸ HNew.out
          have hk1 : W1.heap[w.heap.size]? = some (.cells #[.int .i64 kk.kind, .int .i64 kk.subj, .int .i64 kk.obj] 24 (0, 0)) := hW1 ▸ HKey.out
          rw [hW1]
          clear hW1 hBn c0 c1 c2 c3 c4 c5 c6 c7
          have l1 := lt_of_heap hn1
          have l2 := lt_of_heap hk1
          have HN1 := hidp hn1
          have HK1 := hidp hk1
          have x0 := cell_of_heap (o := 0) hn1
          have x1 := cell_of_heap (o := 1) hn1
          have x2 := cell_of_heap (o := 2) hn1
          have x3 := cell_of_heap (o := 3) hn1
          have x4 := cell_of_heap (o := 4) hn1
          have x5 := cell_of_heap (o := 5) hn1
          have x6 := cell_of_heap (o := 6) hn1
          have x7 := cell_of_heap (o := 7) hn1
          have k0 := cell_of_heap (o := 0) hk1
          have k1 := cell_of_heap (o := 1) hk1
          have k2 := cell_of_heap (o := 2) hk1
          simp only [List.getElem?_toArray, List.getElem?_cons_zero, List.getElem?_cons_succ] at x0 x1 x2 x3 x4 x5 x6 x7 k0 k1 k2
          clear hn1 hk1
          refine wp_region_below W1.heap.size (by kernel_rfl) (by kernel_rfl) ?_
          repeat
            first
            | go_big_quiet_skip
            | (refine q_step (by rfl) ?_
               apply Exists.intro
               refine ⟨fun w9 h9 => ?_, ?_⟩
               · have hc9 := (bcell h9).1
                 go_simp
                 first | done | rfl 
               go_simp)
          refine wpQuiet_nil ?_
          intro w9 hb9
          have hbz := hBn1.trans (hb9.mono hBn1.size)
          have hkz := (hb9.block _ l2).trans HK1.out
          clear x0 x1 x2 x3 x4 x5 x6 x7 k0 k1 k2 HN1 HK1
          go_wp2_with fail
          go_roundw
          case rel => exact ⟨k + 1, bi, by omega, by go_num, rfl, HA.out.no HX.out (.inr (.inl Q1.out)), hbz, hkz⟩
          case measure => simp [intOf]; omega
        · skip
          obtain ⟨q2, hq2⟩ : ∃ z, decide (t < x.to) = z := ⟨_, rfl⟩
          have Q2 := hidp hq2
          cases q2
          · skip
            go_wp2_with fail
            obtain ⟨W1, hW1⟩ : ∃ W1, wr.alloc (.cells #[.int .i64 x.key.kind, .int .i64 x.key.subj, .int .i64 x.key.obj, .int .i64 x.val, .int .i64 x.fr, .int .i64 x.to, .int .i64 x.known, .int .i64 x.no] 28) = W1 := ⟨_, rfl⟩
            have hBn1 : Below w.heap.size w W1 := hW1 ▸ hBn
            have hn1 : W1.heap[wr.heap.size]? = some (.cells #[.int .i64 x.key.kind, .int .i64 x.key.subj, .int .i64 x.key.obj, .int .i64 x.val, .int .i64 x.fr, .int .i64 x.to, .int .i64 x.known, .int .i64 x.no] 28 (0, 0)) := hW1 ▸ HNew.out
            have hk1 : W1.heap[w.heap.size]? = some (.cells #[.int .i64 kk.kind, .int .i64 kk.subj, .int .i64 kk.obj] 24 (0, 0)) := hW1 ▸ HKey.out
            rw [hW1]
            clear hW1 hBn c0 c1 c2 c3 c4 c5 c6 c7
            have l1 := lt_of_heap hn1
            have l2 := lt_of_heap hk1
            have HN1 := hidp hn1
            have HK1 := hidp hk1
            have x0 := cell_of_heap (o := 0) hn1
            have x1 := cell_of_heap (o := 1) hn1
            have x2 := cell_of_heap (o := 2) hn1
            have x3 := cell_of_heap (o := 3) hn1
            have x4 := cell_of_heap (o := 4) hn1
            have x5 := cell_of_heap (o := 5) hn1
            have x6 := cell_of_heap (o := 6) hn1
            have x7 := cell_of_heap (o := 7) hn1
            have k0 := cell_of_heap (o := 0) hk1
            have k1 := cell_of_heap (o := 1) hk1
            have k2 := cell_of_heap (o := 2) hk1
            simp only [List.getElem?_toArray, List.getElem?_cons_zero, List.getElem?_cons_succ] at x0 x1 x2 x3 x4 x5 x6 x7 k0 k1 k2
            clear hn1 hk1
            refine wp_region_below W1.heap.size (by kernel_rfl) (by kernel_rfl) ?_
            repeat
              first
              | go_big_quiet_skip
              | (refine q_step (by rfl) ?_
                 apply Exists.intro
                 refine ⟨fun w9 h9 => ?_, ?_⟩
                 · have hc9 := (bcell h9).1
                   go_simp
                   first | done | rfl 
                 go_simp)
            refine wpQuiet_nil ?_
            intro w9 hb9
            have hbz := hBn1.trans (hb9.mono hBn1.size)
            have hkz := (hb9.block _ l2).trans HK1.out
            clear x0 x1 x2 x3 x4 x5 x6 x7 k0 k1 k2 HN1 HK1
            go_wp2_with fail
            go_roundw
            case rel => exact ⟨k + 1, bi, by omega, by go_num, rfl, HA.out.no HX.out (.inr (.inr (.inl Q2.out))), hbz, hkz⟩
            case measure => simp [intOf]; omega
          · skip
            obtain ⟨q3, hq3⟩ : ∃ z, decide (x.known ≤ known) = z := ⟨_, rfl⟩
            have Q3 := hidp hq3
            cases q3
            · skip
              go_wp2_with fail
              obtain ⟨W1, hW1⟩ : ∃ W1, wr.alloc (.cells #[.int .i64 x.key.kind, .int .i64 x.key.subj, .int .i64 x.key.obj, .int .i64 x.val, .int .i64 x.fr, .int .i64 x.to, .int .i64 x.known, .int .i64 x.no] 28) = W1 := ⟨_, rfl⟩
              have hBn1 : Below w.heap.size w W1 := hW1 ▸ hBn
              have hn1 : W1.heap[wr.heap.size]? = some (.cells #[.int .i64 x.key.kind, .int .i64 x.key.subj, .int .i64 x.key.obj, .int .i64 x.val, .int .i64 x.fr, .int .i64 x.to, .int .i64 x.known, .int .i64 x.no] 28 (0, 0)) := hW1 ▸ HNew.out
              have hk1 : W1.heap[w.heap.size]? = some (.cells #[.int .i64 kk.kind, .int .i64 kk.subj, .int .i64 kk.obj] 24 (0, 0)) := hW1 ▸ HKey.out
              rw [hW1]
              clear hW1 hBn c0 c1 c2 c3 c4 c5 c6 c7
              have l1 := lt_of_heap hn1
              have l2 := lt_of_heap hk1
              have HN1 := hidp hn1
              have HK1 := hidp hk1
              have x0 := cell_of_heap (o := 0) hn1
              have x1 := cell_of_heap (o := 1) hn1
              have x2 := cell_of_heap (o := 2) hn1
              have x3 := cell_of_heap (o := 3) hn1
              have x4 := cell_of_heap (o := 4) hn1
              have x5 := cell_of_heap (o := 5) hn1
              have x6 := cell_of_heap (o := 6) hn1
              have x7 := cell_of_heap (o := 7) hn1
              have k0 := cell_of_heap (o := 0) hk1
              have k1 := cell_of_heap (o := 1) hk1
              have k2 := cell_of_heap (o := 2) hk1
              simp only [List.getElem?_toArray, List.getElem?_cons_zero, List.getElem?_cons_succ] at x0 x1 x2 x3 x4 x5 x6 x7 k0 k1 k2
              clear hn1 hk1
              refine wp_region_below W1.heap.size (by kernel_rfl) (by kernel_rfl) ?_
              repeat
                first
                | go_big_quiet_skip
                | (refine q_step (by rfl) ?_
                   apply Exists.intro
                   refine ⟨fun w9 h9 => ?_, ?_⟩
                   · have hc9 := (bcell h9).1
                     go_simp
                     first | done | rfl 
                   go_simp)
              refine wpQuiet_nil ?_
              intro w9 hb9
              have hbz := hBn1.trans (hb9.mono hBn1.size)
              have hkz := (hb9.block _ l2).trans HK1.out
              clear x0 x1 x2 x3 x4 x5 x6 x7 k0 k1 k2 HN1 HK1
              go_wp2_with fail
              go_roundw
              case rel => exact ⟨k + 1, bi, by omega, by go_num, rfl, HA.out.no HX.out (.inr (.inr (.inr Q3.out))), hbz, hkz⟩
              case measure => simp [intOf]; omega
            · skip
              rcases HA.out with ⟨rfl, hno⟩ | ⟨j, f, rfl, hj, hjf, hbf⟩
              · have HB := hidp hno
                clear hno
                go_wp2_with fail
                obtain ⟨W1, hW1⟩ : ∃ W1, wr.alloc (.cells #[.int .i64 x.key.kind, .int .i64 x.key.subj, .int .i64 x.key.obj, .int .i64 x.val, .int .i64 x.fr, .int .i64 x.to, .int .i64 x.known, .int .i64 x.no] 28) = W1 := ⟨_, rfl⟩
                have hBn1 : Below w.heap.size w W1 := hW1 ▸ hBn
                have hn1 : W1.heap[wr.heap.size]? = some (.cells #[.int .i64 x.key.kind, .int .i64 x.key.subj, .int .i64 x.key.obj, .int .i64 x.val, .int .i64 x.fr, .int .i64 x.to, .int .i64 x.known, .int .i64 x.no] 28 (0, 0)) := hW1 ▸ HNew.out
                have hk1 : W1.heap[w.heap.size]? = some (.cells #[.int .i64 kk.kind, .int .i64 kk.subj, .int .i64 kk.obj] 24 (0, 0)) := hW1 ▸ HKey.out
                rw [hW1]
                clear hW1 hBn c0 c1 c2 c3 c4 c5 c6 c7
                have l1 := lt_of_heap hn1
                have l2 := lt_of_heap hk1
                have HN1 := hidp hn1
                have HK1 := hidp hk1
                have x0 := cell_of_heap (o := 0) hn1
                have x1 := cell_of_heap (o := 1) hn1
                have x2 := cell_of_heap (o := 2) hn1
                have x3 := cell_of_heap (o := 3) hn1
                have x4 := cell_of_heap (o := 4) hn1
                have x5 := cell_of_heap (o := 5) hn1
                have x6 := cell_of_heap (o := 6) hn1
                have x7 := cell_of_heap (o := 7) hn1
                have k0 := cell_of_heap (o := 0) hk1
                have k1 := cell_of_heap (o := 1) hk1
                have k2 := cell_of_heap (o := 2) hk1
                simp only [List.getElem?_toArray, List.getElem?_cons_zero, List.getElem?_cons_succ] at x0 x1 x2 x3 x4 x5 x6 x7 k0 k1 k2
                clear hn1 hk1
                refine wp_region_below W1.heap.size (by kernel_rfl) (by kernel_rfl) ?_
                repeat
                  first
                  | go_big_quiet_skip
                  | (refine q_step (by rfl) ?_
                     apply Exists.intro
                     refine ⟨fun w9 h9 => ?_, ?_⟩
                     · have hc9 := (bcell h9).1
                       go_simp
                       first | done | rfl 
                     go_simp)
                refine wpQuiet_nil ?_
                intro w9 hb9
                have hbz := hBn1.trans (hb9.mono hBn1.size)
                have hkz := (hb9.block _ l2).trans HK1.out
                clear x0 x1 x2 x3 x4 x5 x6 x7 k0 k1 k2 HN1 HK1
                go_wp2_with fail
                go_roundw
                case rel => exact ⟨k + 1, k, by omega, by go_num, rfl, RBest.new HB.out HX.out Q0.out Q1.out Q2.out Q3.out, hbz, hkz⟩
                case measure => simp [intOf]; omega
              · have HB := hidp hbf
                have HF := hidp hjf
                clear hbf hjf
                obtain ⟨z, hz⟩ : ∃ z, x.bef f = z := ⟨_, rfl⟩
                have HV := hidp hz
                clear hz
                go_wp2_with fail
                obtain ⟨W1, hW1⟩ : ∃ W1, wr.alloc (.cells #[.int .i64 x.key.kind, .int .i64 x.key.subj, .int .i64 x.key.obj, .int .i64 x.val, .int .i64 x.fr, .int .i64 x.to, .int .i64 x.known, .int .i64 x.no] 28) = W1 := ⟨_, rfl⟩
                have hBn1 : Below w.heap.size w W1 := hW1 ▸ hBn
                have hn1 : W1.heap[wr.heap.size]? = some (.cells #[.int .i64 x.key.kind, .int .i64 x.key.subj, .int .i64 x.key.obj, .int .i64 x.val, .int .i64 x.fr, .int .i64 x.to, .int .i64 x.known, .int .i64 x.no] 28 (0, 0)) := hW1 ▸ HNew.out
                have hk1 : W1.heap[w.heap.size]? = some (.cells #[.int .i64 kk.kind, .int .i64 kk.subj, .int .i64 kk.obj] 24 (0, 0)) := hW1 ▸ HKey.out
                rw [hW1]
                clear hW1 hBn c0 c1 c2 c3 c4 c5 c6 c7
                obtain ⟨b2, off2, f', he, _, hjf', d0, d1, d2, d3, d4, d5, d6, d7⟩ := fSl.get (hl.below fStable hBn1) (k := j) (by omega)
                simp only [Option.some.injEq, Addr.mk.injEq, and_true] at he
                obtain ⟨rfl, rfl⟩ := he
                have hff : f' = f := by have := HF.out; rw [hjf'] at this; exact Option.some.inj this
                rw [hff] at d0 d1 d2 d3 d4 d5 d6 d7
                clear hff hjf'
                have hjn : (j : Int) < n := by omega
                have hj0 : decide ((j : Int) < 0) = false := by rw [decide_eq_false_iff_not]; omega
                have hwb2 := lt_of_cell d0
                have l1 := lt_of_heap hn1
                have l2 := lt_of_heap hk1
                have HN1 := hidp hn1
                have HK1 := hidp hk1
                have x0 := cell_of_heap (o := 0) hn1
                have x1 := cell_of_heap (o := 1) hn1
                have x2 := cell_of_heap (o := 2) hn1
                have x3 := cell_of_heap (o := 3) hn1
                have x4 := cell_of_heap (o := 4) hn1
                have x5 := cell_of_heap (o := 5) hn1
                have x6 := cell_of_heap (o := 6) hn1
                have x7 := cell_of_heap (o := 7) hn1
                have k0 := cell_of_heap (o := 0) hk1
                have k1 := cell_of_heap (o := 1) hk1
                have k2 := cell_of_heap (o := 2) hk1
                simp only [List.getElem?_toArray, List.getElem?_cons_zero, List.getElem?_cons_succ] at x0 x1 x2 x3 x4 x5 x6 x7 k0 k1 k2
                clear hn1 hk1
                refine wp_region_below W1.heap.size (by kernel_rfl) (by kernel_rfl) ?_
                repeat
                  first
                  | go_big_quiet_skip
                  | (refine q_step (by rfl) ?_
                     apply Exists.intro
                     refine ⟨fun w9 h9 => ?_, ?_⟩
                     · have hc9 := (bcell h9).1
                       go_simp
                       first | done | rfl | exact calls_below h9 (Nat.le_refl _) (rBefore_any x f w9)
                     go_simp)
                refine wpQuiet_nil ?_
                intro w9 hb9
                have hbz := hBn1.trans (hb9.mono hBn1.size)
                have hkz := (hb9.block _ l2).trans HK1.out
                clear x0 x1 x2 x3 x4 x5 x6 x7 k0 k1 k2 HN1 HK1
                clear d0 d1 d2 d3 d4 d5 d6 d7
                rw [HV.out]
                cases z
                · go_wp2_with fail
                  go_roundw
                  case rel => exact ⟨k + 1, k, by omega, by go_num, rfl, RBest.up HB.out HV.out HX.out Q0.out Q1.out Q2.out Q3.out, hbz, hkz⟩
                  case measure => simp [intOf]; omega
                · go_wp2_with fail
                  go_roundw
                  case rel => exact ⟨k + 1, j, by omega, by go_num, rfl, RBest.old HB.out hj HF.out HV.out HX.out Q0.out Q1.out Q2.out Q3.out, hbz, hkz⟩
                  case measure => simp [intOf]; omega
    · obtain rfl : k = n := by omega
      have HT : Hid (l.take k = l) := List.take_of_length_le (by rw [← HN.out]; omega)
      rcases HA.out with ⟨rfl, hno⟩ | ⟨j, f, rfl, hj, hjf, hbf⟩
      · have HR : Hid (atF l kk t known = none) := by show _ = _; rw [atF, ← HT.out, hno]
        clear hno
        go_wp2_with fail
        go_ret2
        exact ⟨by rw [HR.out]; rfl, hbe⟩
      · have HB := hidp hbf
        rw [HT.out] at HB
        obtain ⟨b2, off2, f', rfl, _, hjf', d0, d1, d2, d3, d4, d5, d6, d7⟩ := fSl.get (hl.below fStable hbe) (k := j) (by omega)
        have hff : f' = f := by rw [hjf'] at hjf; exact Option.some.inj hjf
        rw [hff] at d3
        have hjn : (j : Int) < k := by omega
        have hj0 : decide ((j : Int) < 0) = false := by rw [decide_eq_false_iff_not]; omega
        have hwb2 := lt_of_cell d3
        clear hff hjf' hjf hbf d0 d1 d2 d4 d5 d6 d7
        by_cases hv : f.val < 0
        · have HR : Hid (atF l kk t known = none) := by show _ = _; rw [atF, HB.out]; simp [hv]
          go_wp2_with fail
          go_ret2
          exact ⟨by rw [HR.out]; rfl, hbe⟩
        · have HR : Hid (atF l kk t known = some f.val) := by show _ = _; rw [atF, HB.out]; simp [hv]
          go_wp2_with fail
          go_ret2
          exact ⟨by rw [HR.out]; rfl, hbe⟩
end Go.Proofs.Ytoalmffhiinbbaa
