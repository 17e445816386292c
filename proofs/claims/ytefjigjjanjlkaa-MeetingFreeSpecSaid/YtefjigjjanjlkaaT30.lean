import Derived.Test.YtefjigjjanjlkaaT29
namespace Go.Proofs.Ytefjigjjanjlkaa
open Go.RowKit Go.Shelf Go.Sort

theorem nil_or_snoc {α : Type} (l : List α) : l = [] ∨ ∃ a s, l = a ++ [s] := by
  rcases List.eq_nil_or_concat l with h | ⟨a, s, h⟩
  · exact .inl h
  · exact .inr ⟨a, s, by simpa using h⟩
def freeAt (l : List Mt) (day week t : Int) : Bool := !l.any fun m => m.cov day week t
set_option maxRecDepth 100000 in
set_option maxHeartbeats 4000000 in
theorem rfree_any (A : Option Addr) (n c : Nat) (l : List Mt) (day week : Int) (w : World) (hl : MSl w w.heap.size A n c l) :
    Calls Try.prog 14 #[.slice A n c, .int .i64 day, .int .i64 week] w fun e w' => Below w.heap.size w w' ∧
      ((checkM l = 220 ∧ e = .returned (.tuple #[.slice none 0 0, .int .i64 220])) ∨
       (checkM l = 0 ∧ badDay day week = true ∧ e = .returned (.tuple #[.slice none 0 0, .int .i64 1])) ∨
       (checkM l = 0 ∧ badDay day week = false ∧ ∃ v, e = .returned (.tuple #[v, .int .i64 0]) ∧ w'.ownsRow w.heap.size 42 2 v (rfTo (freeAt l day week) 1440).length ((rfTo (freeAt l day week) 1440).flatMap sEnc))) := by
  obtain ⟨i0, hi, hz, hs, hbb⟩ := info_parts spInfo
  have HN := hidp hl.1
  have hnc := hl.2.1
  have hcm := hl.2.2.1
  have HE := hidp (rcheck_eq l)
  go_enter Try.func14, Try.ntmps14
  go_wp2_with fail
  refine (rcheck_any _ _ _ _ _ hl).mono ?_
  rintro e w1 ⟨rfl, hb1⟩
  rw [HE.out]
  rcases checkM_cases l with hc | ⟨hc, h16, _, _⟩
  · rw [hc]
    have HC := hidp hc
    clear hc
    go_wp2_with fail
    go_ret2
    exact ⟨hb1, .inl ⟨HC.out, rfl⟩⟩
  · rw [hc]
    have HC := hidp hc
    clear hc
    have hl1 := hl.keep mStable hb1.size hb1.block
    obtain ⟨z1, hz1⟩ : ∃ z, decide (day < 0) = z := ⟨_, rfl⟩
    obtain ⟨z2, hz2⟩ : ∃ z, decide (7 ≤ day) = z := ⟨_, rfl⟩
    obtain ⟨z3, hz3⟩ : ∃ z, decide (week < 0) = z := ⟨_, rfl⟩
    obtain ⟨z4, hz4⟩ : ∃ z, decide (60 ≤ week) = z := ⟨_, rfl⟩
    have HBad : Hid (badDay day week = (z1 || z2 || z3 || z4)) := by show _ = _; rw [badDay, hz1, hz2, hz3, hz4]
    cases z1
    case true =>
      go_wp2_with fail
      go_ret2
      exact ⟨hb1, .inr (.inl ⟨HC.out, HBad.out, rfl⟩)⟩
    cases z2
    case true =>
      go_wp2_with fail
      go_ret2
      exact ⟨hb1, .inr (.inl ⟨HC.out, HBad.out, rfl⟩)⟩
    cases z3
    case true =>
      go_wp2_with fail
      go_ret2
      exact ⟨hb1, .inr (.inl ⟨HC.out, HBad.out, rfl⟩)⟩
    cases z4
    case true =>
      go_wp2_with fail
      go_ret2
      exact ⟨hb1, .inr (.inl ⟨HC.out, HBad.out, rfl⟩)⟩
    go_wp2_with fail
    clear hz1 hz2 hz3 hz4 hl
    have hn16 : n ≤ 16 := by rw [HN.out]; exact h16
    obtain ⟨f, hf⟩ : ∃ f, freeAt l day week = f := ⟨_, rfl⟩
    have HFr := hidp hf
    clear hf
    go_loopw [9, 10, 11, 12] (fun v t _ _ wr => ∃ (k : Nat), k ≤ 1440 ∧ t = .int .i64 k ∧ wr.ownsRow w1.heap.size 42 2 v (rfTo f k).length ((rfTo f k).flatMap sEnc) ∧ Below w1.heap.size w1 wr) (fun _ t _ _ _ => 1440 - (intOf t).toNat)
    case atStart => exact ⟨0, by omega, rfl, World.ownsRow_made w1 #[] 0 (Nat.le_refl _) (by decide) (by simp), (Below.refl _ w1).alloc (Nat.le_refl _) _⟩
    case round =>
      obtain ⟨k, hk, rfl, hown, hbe⟩ := hrel
      have HOwn := hidp hown
      by_cases hlt : k < 1440
      · have hk1440 : decide ((k : Int) < 1440) = true := decide_eq_true (by omega)
        have hal : (rfTo f k).length ≤ 1440 := Nat.le_trans (rfTo_len f k) hk
        obtain ⟨acc, hacc⟩ : ∃ acc, rfTo f k = acc := ⟨_, rfl⟩
        rw [hacc] at hown hal HOwn
        have HAcc := hidp hacc
        clear hacc hown
        go_wp2_with fail
        clear hk1440
        obtain ⟨wo, hwo⟩ : ∃ wo : World, wo = wr := ⟨_, rfl⟩
        subst hwo
        go_loopw [11, 12] (fun m i wr => ∃ (j : Nat), j ≤ n ∧ i = .int .i64 j ∧ m = .bool ((l.take j).any fun m => m.cov day week k) ∧ Below wo.heap.size wo wr) (fun _ i _ => n - (intOf i).toNat)
        case atStart => exact ⟨0, by omega, rfl, rfl, Below.refl _ _⟩
        case round =>
          obtain ⟨j, hj, rfl, rfl, hbe2⟩ := hrel
          obtain ⟨z0, hz0⟩ : ∃ z, ((l.take j).any fun m => m.cov day week k) = z := ⟨_, rfl⟩
          rw [hz0]
          have HZ0 := hidp hz0
          clear hz0
          have hbeA := hbe.trans (hbe2.mono hbe.size)
          by_cases hlt3 : j < n
          · obtain ⟨b, off, m, rfl, hb, hzk, c0, c1, c2, c3, c4⟩ := MSl.get (hl1.below mStable hbeA) hlt3
            have hwb := lt_of_cell c0
            obtain ⟨q, hq⟩ : ∃ q, m.cov day week k = q := ⟨_, rfl⟩
            have HQ : Hid (((l.take (j + 1)).any fun m => m.cov day week k) = (z0 || q)) := by
              show _ = _
              rw [any_snoc hzk, HZ0.out, hq]
            have HCov := hidp hq
            clear hzk hq
            cases z0
            · go_wp2_with fail
              refine (rCovers_any _ _ _ _ _).mono ?_
              rintro e w5 ⟨rfl, hb5⟩
              rw [show (decide (m.day = day) && decide (m.first ≤ week) && decide (week ≤ m.last) && decide (m.fr ≤ (k : Int)) && decide ((k : Int) < m.to)) = q from HCov.out]
              go_wp2_with fail
              go_roundw
              case rel => exact ⟨j + 1, by omega, by go_num, by rw [HQ.out]; simp, hbe2.trans (hb5.mono hbe2.size)⟩
              case measure => simp [intOf]; omega
            · go_wp2_with fail
              go_roundw
              case rel => exact ⟨j + 1, by omega, by go_num, by rw [HQ.out]; simp, hbe2⟩
              case measure => simp [intOf]; omega
          · obtain rfl : j = n := by omega
            have hz : f k = !z0 := by
              rw [← HFr.out, freeAt, ← HZ0.out, List.take_of_length_le (by rw [← HN.out]; exact Nat.le_refl _)]
            have HZ := hidp hz
            have hownr := own_stable _ _ _ _ _ _ _ _ hbe2 HOwn.out
            clear hz
            cases z0
            · have hsz := Nat.le_trans hbe.size hbe2.size
              obtain ⟨v', w5, hrun, hown5, hg, hat⟩ := run_append_one (P := Try.prog) (ty := 28) (enc := sEnc) (w := wr) (base := w1.heap.size) Try.underlying28 hi hz hs hbb rfl sEnc_len (by decide) sEnc_one hownr ((k : Int), (k : Int) + 1) (by omega) (by omega) hsz
              simp only [sEnc] at hrun
              have hB5 : Below w1.heap.size w1 w5 := (hbeA.alloc hsz _).grown hg (by simp; omega) (fun g hg => (hownr.lt g hg).1)
              have HO5 := hidp hown5
              have HOr := hidp hownr
              clear hown5 hg hat
              rcases nil_or_snoc acc with rfl | ⟨acc', s, rfl⟩
              · obtain ⟨A9, c9, rfl, r9⟩ := own_rows sEnc_len (by decide) hownr
                clear hownr r9
                go_wp2_with (at_builtin; refine wpList_append_known rfl (.tmp 77) (.tmp 82) 28 rfl rfl rfl hrun ?_)
                go_roundw
                case rel => exact ⟨k + 1, by omega, by go_num, by rw [rfTo_succ, HAcc.out, HZ.out]; exact HO5.out, hB5⟩
                case measure => simp [intOf]; omega
              · rcases hownr.2 with ⟨_, h0⟩ | ⟨g, cap, cur, rfl, hbg, hgg, hncap, hcapm, _⟩
                · simp at h0
                · obtain ⟨A9, c9, hA9, r9⟩ := own_rows sEnc_len (by decide) hownr
                  obtain ⟨rfl, rfl⟩ : some ⟨g, 0, none⟩ = A9 ∧ cap = c9 := by injection hA9 with h1 _ h3; exact ⟨h1, h3⟩
                  have hp : acc'.length < (acc' ++ [s]).length := by simp
                  obtain ⟨b, off, s', he, hbl, hzk, d0, d1⟩ := SSl.get r9 hp
                  simp only [Option.some.injEq, Addr.mk.injEq, and_true] at he
                  obtain ⟨rfl, rfl⟩ := he
                  obtain rfl : s = s' := by simpa using hzk
                  obtain ⟨s1, s2⟩ := s
                  have hfz := hownr.frozenAt (acc'.length * 2 + 1)
                  have hlen : (acc' ++ [(s1, s2)]).length = acc'.length + 1 := by simp
                  have hst := hownr.stored (acc'.length * 2 + 1) (.int .i64 ((k : Int) + 1))
                  have hset : ((acc' ++ [(s1, s2)]).flatMap sEnc).set (acc'.length * 2 + 1) (.int .i64 ((k : Int) + 1)) = (acc' ++ [(s1, (k : Int) + 1)]).flatMap sEnc := by
                    have := flat_len sEnc_len acc'
                    rw [List.flatMap_append, List.flatMap_append, List.set_append_right _ _ (by omega), this]
                    simp [sEnc]
                  rw [hset] at hst
                  have HSt := hidp hst
                  have HO5' := HO5
                  rw [hlen] at hrun hncap hal
                  obtain ⟨p, hp'⟩ : ∃ p, acc'.length = p := ⟨_, rfl⟩
                  dsimp only at d0 d1
                  rw [hp'] at hrun hncap d0 d1 hfz HSt hal
                  simp only [Nat.zero_add] at d0 d1
                  have HP := hidp hp'
                  have hgw := lt_of_cell d0
                  rw [hlen, hp']
                  clear hzk hst hset hp hA9 hownr hlen hp' hgg
                  by_cases hs : s2 = (k : Int)
                  · have hs' : (s2 == (k : Int)) = true := by simpa using hs
                    go_wp2_with fail
                    go_roundw
                    case rel =>
                      have e1 : rfTo f (k + 1) = acc' ++ [(s1, (k : Int) + 1)] := by
                        rw [rfTo_succ, HAcc.out, HZ.out]
                        simp [rfStep, hs]
                      refine ⟨k + 1, by omega, by go_num, ?_, hbeA.grown HSt.out.2 hsz (fun q e => by injection e with e; omega)⟩
                      rw [e1]
                      have := HSt.out.1
                      simp only [List.length_append, List.length_cons, List.length_nil, HP.out] at this ⊢
                      exact this
                    case measure => simp [intOf]; omega
                  · have hs' : (s2 == (k : Int)) = false := by simpa using hs
                    go_wp2_with (at_builtin; refine wpList_append_known rfl (.tmp 77) (.tmp 82) 28 rfl rfl rfl hrun ?_)
                    go_roundw
                    case rel =>
                      have e1 : rfTo f (k + 1) = acc' ++ [(s1, s2)] ++ [((k : Int), (k : Int) + 1)] := by
                        rw [rfTo_succ, HAcc.out, HZ.out]
                        simp [rfStep, hs]
                      refine ⟨k + 1, by omega, by go_num, ?_, hB5⟩
                      rw [e1]
                      have := HO5.out
                      simp only [List.length_append, List.length_cons, List.length_nil] at this ⊢
                      exact this
                    case measure => simp [intOf]; omega
            · go_wp2_with fail
              go_roundw
              case rel => exact ⟨k + 1, by omega, by go_num, by rw [rfTo_succ, HAcc.out, HZ.out]; exact hownr, hbeA⟩
              case measure => simp [intOf]; omega
      · obtain rfl : k = 1440 := by omega
        go_wp2_with fail
        go_ret2
        exact ⟨hb1.trans (hbe.mono hb1.size), .inr (.inr ⟨HC.out, HBad.out, _, rfl, by rw [HFr.out]; exact own_mono HOwn.out hb1.size⟩)⟩
end Go.Proofs.Ytefjigjjanjlkaa
