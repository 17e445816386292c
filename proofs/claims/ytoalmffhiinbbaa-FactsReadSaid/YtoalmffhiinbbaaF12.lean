/- facts.of: its iterator walked. -/
import Derived.Test.YtoalmffhiinbbaaF9
import Derived.Test.YtoalmffhiinbbaaF7
import Derived.OwnWalkIn
import Derived.TacticsInMore
import Derived.LoopNIn
import Derived.LoopIn
namespace Go.Proofs.Ytoalmffhiinbbaa
open Go.RowKit Go.Shelf
attribute [local go_sem] Oper.semAt_some

theorem ofF_take_yes {l : List Fc} {kk : Ky} {known : Int} {k : Nat} {x : Fc} (h : l[k]? = some x) (h1 : x.key = kk) (h2 : x.known ≤ known) : ofF (l.take (k + 1)) kk known = ofF (l.take k) kk known ++ [x] := by
  rw [take_snoc h, ofF, ofF, List.filter_append]
  simp [h1, h2]
theorem ofF_take_no {l : List Fc} {kk : Ky} {known : Int} {k : Nat} {x : Fc} (h : l[k]? = some x) (h1 : ¬ (x.key = kk ∧ x.known ≤ known)) : ofF (l.take (k + 1)) kk known = ofF (l.take k) kk known := by
  rw [take_snoc h, ofF, ofF, List.filter_append]
  have : (decide (x.key = kk) && decide (x.known ≤ known)) = false := by
    rw [← Bool.decide_and, decide_eq_false_iff_not]; exact h1
  simp [this]
theorem ofF_split {l : List Fc} {kk : Ky} {known : Int} {k : Nat} {x : Fc} (h : l[k]? = some x) (h1 : x.key = kk) (h2 : x.known ≤ known) : ofF l kk known = ofF (l.take k) kk known ++ x :: ofF (l.drop (k + 1)) kk known := by
  conv => lhs; rw [split_at h]
  rw [ofF, ofF, ofF, List.filter_append]
  simp [h1, h2]

set_option maxRecDepth 100000 in
set_option maxHeartbeats 2000000 in
theorem of1_seq (Bl Bk Bn n₀ : Nat) (A : Option Addr) (len cap : Nat) (l : List Fc) (kk : Ky) (known : Int) (w : World)
    (hBl : w.cell? ⟨Bl, 0, none⟩ = some (.slice A len cap)) (hBk : w.heap[Bk]? = some (.cells #[.int .i64 kk.kind, .int .i64 kk.subj, .int .i64 kk.obj] 24 (0, 0))) (hBn : w.cell? ⟨Bn, 0, none⟩ = some (.int .i64 known)) (hm : fSl w n₀ A len cap l) :
    SeqC Try.prog 53 #[.pointer (some ⟨Bl, 0, none⟩), .pointer (some ⟨Bk, 0, none⟩), .pointer (some ⟨Bn, 0, none⟩)] (fun x : Fc => #[.agg #[.int .i64 x.key.kind, .int .i64 x.key.subj, .int .i64 x.key.obj, .int .i64 x.val, .int .i64 x.fr, .int .i64 x.to, .int .i64 x.known, .int .i64 x.no]])
      (ofF l kk known) (fun b => b < n₀ ∨ b = Bl ∨ b = Bk ∨ b = Bn) w := by
  intro li J Jx C W hS hC hJ hJx hY h0
  refine (callsIn_wide (n := 0)).1 (callsIn_of_wp Try.func53 rfl trivial ?_ rfl)
  simp only [Try.ntmps53, List.size_toArray, List.length_cons, List.length_nil, Nat.reduceAdd, Nat.reduceSub, Array.replicate_succ, Array.replicate_zero, List.push_toArray, List.append_toArray, List.nil_append, List.cons_append]
  have HY := hidp hY
  have HJ := hidp hJ
  have HJx := hidp hJx
  clear hY hJ hJx
  have hBW := (SeqSt.start hS hC).cell (b := Bl) (o := 0) (.inr (.inl rfl))
  rw [hBl] at hBW
  have hlen := hm.2.1
  have hcap := hm.2.2.1
  have HN := hidp hm.1
  have hk0 := cell_of_heap (o := 0) hBk
  have hk1 := cell_of_heap (o := 1) hBk
  have hk2 := cell_of_heap (o := 2) hBk
  simp only [List.getElem?_toArray, List.getElem?_cons_zero, List.getElem?_cons_succ] at hk0 hk1 hk2
  gi_wp2
  gi_loopw [6, 9] (fun _ i wr => ∃ (k : Nat) (C1 : Nat → Prop), k ≤ len ∧ i = .int .i64 k ∧ J (ofF (l.take k) kk known) C1 wr ∧ SeqSt (fun b => b < n₀ ∨ b = Bl ∨ b = Bk ∨ b = Bn) w W C1 wr)
    (fun _ i _ => len - (intOf i).toNat)
  case atStart => exact ⟨0, C, by omega, rfl, h0, SeqSt.start hS hC⟩
  case round =>
    obtain ⟨k, C1, hk, rfl, hJk, hst⟩ := hrel
    have hbk0 := hst.cell (b := Bk) (o := 0) (.inr (.inr (.inl rfl)))
    have hbk1 := hst.cell (b := Bk) (o := 1) (.inr (.inr (.inl rfl)))
    have hbk2 := hst.cell (b := Bk) (o := 2) (.inr (.inr (.inl rfl)))
    have hbn := hst.cell (b := Bn) (o := 0) (.inr (.inr (.inr rfl)))
    rw [hk0] at hbk0
    rw [hk1] at hbk1
    rw [hk2] at hbk2
    rw [hBn] at hbn
    have hmr := hm.keep fStable (Nat.le_refl _) fun b hb => (hst.reads b (.inl hb)).2.1
    have hBkl := lt_of_cell hbk0
    have hBnl := lt_of_cell hbn
    clear hm h0 hBW hBl hBn hBk hk0 hk1 hk2
    by_cases hlt : k < len
    · obtain ⟨b, off, x, rfl, hb, hzk, c0, c1, c2, c3, c4, c5, c6, c7⟩ := fSl.get hmr hlt
      have hbl := lt_of_cell c0
      have hJa := HJ.out _ _ _ _ hJk ((Kept.refl _ wr).alloc (.cells #[.int .i64 x.key.kind, .int .i64 x.key.subj, .int .i64 x.key.obj, .int .i64 x.val, .int .i64 x.fr, .int .i64 x.to, .int .i64 x.known, .int .i64 x.no] 28))
      have hsa := hst.alloc (.cells #[.int .i64 x.key.kind, .int .i64 x.key.subj, .int .i64 x.key.obj, .int .i64 x.val, .int .i64 x.fr, .int .i64 x.to, .int .i64 x.known, .int .i64 x.no] 28)
      have HZ := hidp hzk
      clear hmr hzk hJk
      obtain ⟨z, hz⟩ : ∃ z, decide (x.key = kk) = z := ⟨_, rfl⟩
      have hq := fun W => k_eql x.key kk W
      rw [hz] at hq
      have HQ := hidp hz
      clear hz
      cases z
      · have HT : Hid (ofF (l.take (k + 1)) kk known = ofF (l.take k) kk known) := ofF_take_no HZ.out (fun h => by have := HQ.out; simp [h.1] at this)
        gi_wp2
        refine ⟨(fun _ h => by cases h), ?_⟩
        gi_wp2
        go_roundw
        case rel => exact ⟨k + 1, C1, by omega, by go_num, by rw [HT.out]; exact hJa, hsa⟩
        case measure => simp [intOf]; omega
      · obtain ⟨z2, hz2⟩ : ∃ z, decide (x.known ≤ known) = z := ⟨_, rfl⟩
        have HK := hidp hz2
        cases z2
        · have HT : Hid (ofF (l.take (k + 1)) kk known = ofF (l.take k) kk known) := ofF_take_no HZ.out (fun h => by have := HK.out; simp [h.2] at this)
          gi_wp2
          refine ⟨(fun _ h => by cases h), ?_⟩
          gi_wp2
          go_roundw
          case rel => exact ⟨k + 1, C1, by omega, by go_num, by rw [HT.out]; exact hJa, hsa⟩
          case measure => simp [intOf]; omega
        · have e1 : x.key = kk := by have := HQ.out; simpa using this
          have e2 : x.known ≤ known := by have := HK.out; simpa using this
          have HT : Hid (ofF (l.take (k + 1)) kk known = ofF (l.take k) kk known ++ [x]) := ofF_take_yes HZ.out e1 e2
          have HSp : Hid (ofF l kk known = ofF (l.take k) kk known ++ x :: ofF (l.drop (k + 1)) kk known) := ofF_split HZ.out e1 e2
          clear e1 e2
          obtain ⟨fn, tmps, assign, body, hy, hR⟩ := HY.out 0 _ _ _ _ _ HSp.out hJa
          clear hJa
          gi_wp2
          refine ⟨rfl, hR.mono ?_⟩
          rintro e W3 ⟨C3, hk3, hC3, (⟨rfl, hJ3⟩ | ⟨rfl, hJx3⟩)⟩
          · gi_wp2
            go_roundw
            case rel => exact ⟨k + 1, C3, by omega, by go_num, by rw [HT.out]; exact hJ3, hsa.round hk3 hC3⟩
            case measure => simp [intOf]; omega
          · gi_wp2
            refine bodyPost_ret (results_none rfl _ _ _) rfl ?_
            exact ⟨⟨_, rfl⟩, C3, .inr hJx3⟩
    · obtain rfl : k = len := by omega
      have HA : Hid (l.take k = l) := List.take_of_length_le (by rw [← HN.out]; omega)
      gi_wp2
      go_end0
      exact ⟨⟨_, rfl⟩, C1, .inl (by have := hJk; rw [HA.out] at this; exact this)⟩

set_option maxHeartbeats 400000 in
theorem of_any (A : Option Addr) (n c : Nat) (kk : Ky) (known : Int) (w : World) :
    Calls Try.prog 38 #[.slice A n c, .agg #[.int .i64 kk.kind, .int .i64 kk.subj, .int .i64 kk.obj], .int .i64 known] w fun e w' => e = .returned (.func (.func 53) #[] #[.pointer (some ⟨w.heap.size, 0, none⟩), .pointer (some ⟨w.heap.size + 1, 0, none⟩), .pointer (some ⟨w.heap.size + 2, 0, none⟩)]) ∧ ((w.alloc (.cells #[.slice A n c] 22)).alloc (.cells #[.int .i64 kk.kind, .int .i64 kk.subj, .int .i64 kk.obj] 24)).alloc (.cells #[.int .i64 known] 3) = w' := by
  go_enter Try.func38, Try.ntmps38
  go_wp2
  go_ret
  exact ⟨rfl, rfl⟩
end Go.Proofs.Ytoalmffhiinbbaa
