import Derived.Test.YtefjigjjanjlkaaT26
namespace Go.Proofs.Ytefjigjjanjlkaa
open Go.RowKit Go.Shelf Go.Sort

theorem rcheck_eq (l : List Mt) : rcheckM l = checkM l := by
  have hov : ∀ x y : Mt, x.ok = true → y.ok = true → x.ov y = Mt.ovP (x, y) := fun x y hx hy => by
    have ax := x.ok_iff.1 hx
    have ay := y.ok_iff.1 hy
    rw [Bool.eq_iff_iff]
    simp [Mt.ov, Mt.ovP]
    omega
  have key : rcheckTo l l.length = true ↔ (l.all Mt.ok = false ∨ (pairsTo l l.length).any Mt.ovP = true) := by
    constructor
    · intro h
      cases hall : l.all Mt.ok with
      | false => exact .inl rfl
      | true =>
        refine .inr ?_
        rw [pairs_any_iff]
        rw [rcheckTo, List.any_eq_true] at h
        obtain ⟨i, hi, h⟩ := h
        split at h
        · rename_i m hm
          have hmo := List.all_eq_true.1 hall m (List.mem_of_getElem? hm)
          rw [hmo] at h
          simp only [Bool.not_true, Bool.false_or, List.any_eq_true] at h
          obtain ⟨x, hx, hv⟩ := h
          obtain ⟨j, hj⟩ := List.mem_iff_getElem?.1 hx
          rw [List.getElem?_take] at hj
          split at hj
          · rename_i hji
            have hxo := List.all_eq_true.1 hall x (List.mem_of_getElem? hj)
            exact ⟨j, i, x, m, hji, hj, hm, by rw [← hov x m hxo hmo]; exact hv⟩
          · cases hj
        · cases h
    · intro h
      rw [rcheckTo, List.any_eq_true]
      cases hall : l.all Mt.ok with
      | false =>
        obtain ⟨m, hm, hmo⟩ := List.all_eq_false.1 hall
        obtain ⟨i, hi⟩ := List.mem_iff_getElem?.1 hm
        refine ⟨i, List.mem_range.2 (List.getElem?_eq_some_iff.1 hi).1, ?_⟩
        rw [hi]
        simp [hmo]
      | true =>
        rw [hall] at h
        rcases h with h | h
        · cases h
        · obtain ⟨i, j, x, y, hij, hx, hy, hp⟩ := (pairs_any_iff l Mt.ovP).1 h
          refine ⟨j, List.mem_range.2 (List.getElem?_eq_some_iff.1 hy).1, ?_⟩
          rw [hy]
          have hxo := List.all_eq_true.1 hall x (List.mem_of_getElem? hx)
          have hyo := List.all_eq_true.1 hall y (List.mem_of_getElem? hy)
          simp only [Bool.or_eq_true, List.any_eq_true]
          exact .inr ⟨x, List.mem_of_getElem? (i := i) (by rw [List.getElem?_take, if_pos hij]; exact hx), by rw [hov x y hxo hyo]; exact hp⟩
  unfold rcheckM checkM
  simp only [key]

theorem wrap64s (x : Int) (h1 : -9223372036854775808 ≤ x) (h2 : x ≤ 9223372036854775807) : IntKind.i64.wrap x = x := by
  simp [IntKind.wrap, IntKind.bits, IntKind.signed]; omega

set_option maxRecDepth 100000 in
set_option maxHeartbeats 4000000 in
theorem rminutes_any (A : Option Addr) (n c : Nat) (l : List Mt) (w : World) (hl : MSl w w.heap.size A n c l) :
    Calls Try.prog 12 #[.slice A n c] w fun e w' => e = .returned (.tuple #[.int .i64 (if checkM l = 0 then minsM l else 0), .int .i64 (checkM l)]) ∧ Below w.heap.size w w' := by
  have HN := hidp hl.1
  have hcap := hl.2.2.1
  have hlen := hl.2.1
  have HE := hidp (rcheck_eq l)
  rcases checkM_cases l with hc | ⟨hc, h16, hall, _⟩
  · have HC := hidp hc
    clear hc
    rw [HC.out]
    go_enter Try.func12, Try.ntmps12
    go_wp2_with (go_at_call 20; refine (rcheck_any A n c l w hl).mono ?_; rintro e w1 ⟨rfl, hb1⟩; rw [HE.out, HC.out])
    go_ret2
    exact ⟨rfl, hb1⟩
  · have HC := hidp hc
    have H16 := hidp h16
    have HA := hidp hall
    clear hc h16 hall
    rw [HC.out]
    go_enter Try.func12, Try.ntmps12
    go_wp2_with (go_at_call 20; refine (rcheck_any A n c l w hl).mono ?_; rintro e w1 ⟨rfl, hb1⟩; rw [HE.out, HC.out])
    go_loopw [5, 6] (fun s i wr => ∃ k : Nat, k ≤ n ∧ i = .int .i64 k ∧ s = .int .i64 (minsM (l.take k)) ∧ Below w.heap.size w wr) (fun _ i _ => n - (intOf i).toNat)
    case atStart => exact ⟨0, by omega, rfl, rfl, hb1⟩
    case round =>
      obtain ⟨k, hk, rfl, rfl, hbe⟩ := hrel
      have hn16 : n ≤ 16 := by have := HN.out; have := H16.out; omega
      by_cases hlt : k < n
      · obtain ⟨b, off, m, rfl, hb, hzk, c0, c1, c2, c3, c4⟩ := MSl.get (hl.below mStable hbe) hlt
        have hwb := lt_of_cell c0
        have hmem := List.mem_of_getElem? hzk
        have hok := (List.all_eq_true.1 HA.out) m hmem
        obtain ⟨_, _, o1, o2, o3, o4, o5, o6⟩ := m.ok_iff.1 hok
        obtain ⟨p1, p2⟩ := m.mins_bd hok
        have hs := minsM_bd (l.take k) (by rw [List.all_eq_true]; exact fun x hx => (List.all_eq_true.1 HA.out) x (List.mem_of_mem_take hx))
        have hsl : ((l.take k).length : Int) ≤ 16 := by have := List.length_take_le k l; omega
        obtain ⟨s1, s2⟩ := hs
        have s3 : minsM (l.take k) ≤ 2000000 := by omega
        have HZ := hidp hzk
        obtain ⟨S, hS⟩ : ∃ S, minsM (l.take k) = S := ⟨_, rfl⟩
        rw [hS] at s1 s3 ⊢
        have HS := hidp hS
        have hkn : (k : Int) < n := by omega
        clear hzk hmem hok s2 hsl hS
        go_wp2_with fail
        refine wp_region_below wr.heap.size (by kernel_rfl) (by kernel_rfl) ?_
        repeat
          refine q_step (by rfl) ?_
          apply Exists.intro
          refine ⟨fun w9 h9 => ?_, ?_⟩
          · have hc9 := (bcell h9).1
            go_simp
            first | done | rfl
          go_simp
        refine wpQuiet_nil ?_
        intro w9 hb9
        have hb3 := hbe.trans (hb9.mono hbe.size)
        clear c0 c1 c2 c3 c4
        go_wp2_with fail
        go_roundw
        case rel => exact ⟨k + 1, by omega, by go_num, by rw [take_snoc HZ.out, sum_snoc, HS.out, wrap64s (m.to - m.fr) (by omega) (by omega), wrap64s (m.last - m.first) (by omega) (by omega), wrap64s (m.last - m.first + 1) (by omega) (by omega), wrap64s ((m.to - m.fr) * (m.last - m.first + 1)) (by omega) (by omega), wrap64s _ (by omega) (by omega)]; rfl, hb3⟩
        case measure => simp [intOf]; omega
      · obtain rfl : k = n := by omega
        go_wp2
        go_ret2
        rw [List.take_of_length_le (by rw [← HN.out]; omega)]
        exact ⟨rfl, hbe⟩
end Go.Proofs.Ytefjigjjanjlkaa
