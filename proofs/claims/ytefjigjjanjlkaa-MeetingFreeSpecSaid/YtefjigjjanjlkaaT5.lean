import Derived.Test.YtefjigjjanjlkaaT4
namespace Go.Proofs.Ytefjigjjanjlkaa
open Go.RowKit Go.Shelf

def rcheckTo (l : List Mt) (k : Nat) : Bool := (List.range k).any fun i => match l[i]? with
  | some m => !m.ok || (l.take i).any fun x => x.ov m
  | none => false
def rcheckM (l : List Mt) : Int := if 16 < l.length ∨ rcheckTo l l.length = true then 220 else 0
theorem rcheckTo_succ (l : List Mt) (k : Nat) (m : Mt) (h : l[k]? = some m) : rcheckTo l (k + 1) = (rcheckTo l k || (!m.ok || (l.take k).any fun x => x.ov m)) := by
  unfold rcheckTo
  rw [List.range_succ, List.any_append]
  simp [h]
theorem rcheckTo_mono (l : List Mt) (i d : Nat) (h : rcheckTo l i = true) : rcheckTo l (i + d) = true := by
  unfold rcheckTo at *
  rw [List.range_add, List.any_append, h]; rfl

set_option maxRecDepth 100000 in
set_option maxHeartbeats 2000000 in
theorem rcheck_any (A : Option Addr) (n c : Nat) (l : List Mt) (w : World) (hl : MSl w w.heap.size A n c l) :
    Calls Try.prog 20 #[.slice A n c] w fun e w' => e = .returned (.int .i64 (rcheckM l)) ∧ Below w.heap.size w w' := by
  have HN := hidp hl.1
  by_cases hn : n ≤ 16
  · go_enter Try.func20, Try.ntmps20
    go_wp2_with fail
    go_loopw [3, 4] (fun i _ wr => ∃ k : Nat, k ≤ n ∧ i = .int .i64 k ∧ rcheckTo l k = false ∧ Below w.heap.size w wr) (fun i _ _ => n - (intOf i).toNat)
    case atStart => exact ⟨0, by omega, rfl, rfl, Below.refl _ _⟩
    case round =>
      obtain ⟨k, hk, rfl, hno, hbe⟩ := hrel
      have HO := hidp hno
      clear hno
      have hsz := hbe.size
      by_cases hlt : k < n
      · have hl' := hl.below mStable hbe
        obtain ⟨b, off, m, rfl, hb, hzk, c0, c1, c2, c3, c4⟩ := MSl.get hl' hlt
        have HZ := hidp hzk
        clear hzk
        rcases hok : m.ok with _ | _
        · have HK := hidp hok
          clear hok
          go_wp2_with (go_at_call 32; refine (rValid_any m _).mono ?_; rintro e w1 ⟨rfl, hb1⟩; rw [HK.out])
          go_ret
          refine ⟨ret_int ?_, hbe.trans (hb1.mono hsz)⟩
          have := rcheckTo_mono l (k + 1) (l.length - (k + 1)) (by rw [rcheckTo_succ l k m HZ.out, HK.out]; simp)
          rw [show k + 1 + (l.length - (k + 1)) = l.length by have := HN.out; omega] at this
          simp [rcheckM, this]
        · have HK := hidp hok
          clear hok
          go_wp2_with (go_at_call 32; refine (rValid_any m _).mono ?_; rintro e w1 ⟨rfl, hb1⟩; rw [HK.out])
          have hbe1 := hbe.trans (hb1.mono hsz)
          clear c0 c1 c2 c3 c4
          go_loopw [4] (fun j wr2 => ∃ i : Nat, i ≤ k ∧ j = .int .i64 i ∧ ((l.take i).any fun x => x.ov m) = false ∧ Below w.heap.size w wr2) (fun j _ => k - (intOf j).toNat)
          case atStart => exact ⟨0, by omega, rfl, rfl, hbe1⟩
          case round =>
            obtain ⟨i, hi, rfl, hni, hb2⟩ := hrel
            have HI := hidp hni
            clear hni
            by_cases hlt2 : i < k
            · obtain ⟨b', off', x, he, hb', hzi, d0, d1, d2, d3, d4⟩ := MSl.get (hl.below mStable hb2) (k := i) (by omega)
              obtain ⟨_, _, m', he', _, hzk', c0, c1, c2, c3, c4⟩ := MSl.get (hl.below mStable hb2) hlt
              simp only [Option.some.injEq, Addr.mk.injEq, and_true] at he he'
              obtain ⟨rfl, rfl⟩ := he
              obtain ⟨rfl, rfl⟩ := he'
              have hm' : m' = m := by have := HZ.out; rw [hzk'] at this; exact Option.some.inj this
              rw [hm'] at c0 c1 c2 c3 c4
              have HZI := hidp hzi
              have hin : (i : Int) < n := by omega
              have hkn : (k : Int) < n := by omega
              clear hzi hzk' hm' hl'
              have hwb := lt_of_cell d0
              obtain ⟨bo, hbo⟩ : ∃ bo, x.ov m = bo := ⟨_, rfl⟩
              have HV := hidp hbo
              clear hbo
              go_wp2_with fail
              refine wp_region_below wr.heap.size (by kernel_rfl) (by kernel_rfl) ?_
              repeat
                refine q_step (by rfl) ?_
                apply Exists.intro
                refine ⟨fun w9 h9 => ?_, ?_⟩
                · have hc9 := (bcell h9).1
                  go_simp
                  first | done | rfl | exact calls_below h9 (Nat.le_refl _) (rOverlap_any x m w9)
                go_simp
              refine wpQuiet_nil ?_
              intro w9 hb9
              have hb3 := hb2.trans (hb9.mono hb2.size)
              clear d0 d1 d2 d3 d4 c0 c1 c2 c3 c4
              rw [HV.out]
              cases bo
              rotate_left
              · go_wp2
                have hv := HV.out
                go_ret
                refine ⟨ret_int ?_, hb3⟩
                have := rcheckTo_mono l (k + 1) (l.length - (k + 1)) (by
                  rw [rcheckTo_succ l k m HZ.out]
                  have : ((l.take k).any fun x => x.ov m) = true := by
                    rw [List.any_eq_true]
                    exact ⟨x, List.mem_of_getElem? (i := i) (by rw [List.getElem?_take, if_pos hlt2]; exact HZI.out), hv⟩
                  rw [this]; simp)
                rw [show k + 1 + (l.length - (k + 1)) = l.length by have := HN.out; omega] at this
                simp [rcheckM, this]
              · go_wp2
                have hv := HV.out
                go_roundw
                case rel => exact ⟨i + 1, by omega, by go_num, by rw [take_snoc HZI.out, List.any_append, HI.out]; simp [hv], hb3⟩
                case measure => simp [intOf]; omega
            · obtain rfl : i = k := by omega
              clear hl' 
              go_wp2
              go_roundw
              case rel => exact ⟨i + 1, by omega, by go_num, by rw [rcheckTo_succ l i m HZ.out, HO.out, HK.out, HI.out]; rfl, hb2⟩
              case measure => simp [intOf]; omega
      · obtain rfl : k = n := by omega
        go_wp2
        go_ret
        refine ⟨ret_int ?_, hbe⟩
        have h1 := HO.out
        have h2 := HN.out
        rw [h2] at h1 hn
        simp [rcheckM, h1, hn]
  · go_enter Try.func20, Try.ntmps20
    go_wp2
    go_ret
    refine ⟨ret_int ?_, Below.refl _ _⟩
    have h2 := HN.out
    simp [rcheckM]; omega
end Go.Proofs.Ytefjigjjanjlkaa
