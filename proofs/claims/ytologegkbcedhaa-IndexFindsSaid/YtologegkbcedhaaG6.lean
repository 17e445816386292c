/- index.links: its iterator walked. -/
import Derived.Test.YtologegkbcedhaaG5
import Derived.OwnWalkIn
import Derived.TacticsInMore
import Derived.LoopNIn
import Derived.LoopIn
namespace Go.Proofs.Ytologegkbcedhaa
open Go.RowKit Go.Shelf
attribute [local go_sem] Oper.semAt_some

theorem linksOf_take {at' : Int} {l : List Rd} {k : Nat} {x : Rd} (h : l[k]? = some x) : linksOf at' (l.take (k + 1)) = linksOf at' (l.take k) ++ [(x, at')] := by
  rw [take_snoc h, linksOf, List.map_append]; rfl
theorem linksOf_split {at' : Int} {l : List Rd} {k : Nat} {x : Rd} (h : l[k]? = some x) : linksOf at' l = linksOf at' (l.take k) ++ (x, at') :: linksOf at' (l.drop (k + 1)) := by
  conv => lhs; rw [split_at h]
  rw [linksOf, List.map_append]; rfl

set_option maxRecDepth 100000 in
set_option maxHeartbeats 2000000 in
theorem links1_seq (Bd Ba n₀ : Nat) (A : Option Addr) (len cap : Nat) (l : List Rd) (at' : Int) (w : World)
    (hBd : w.cell? ⟨Bd, 8, none⟩ = some (.slice A len cap)) (hBa : w.cell? ⟨Ba, 0, none⟩ = some (.int .i64 at')) (hm : RdSl w n₀ A len cap l) :
    SeqC Try.prog 48 #[.pointer (some ⟨Bd, 0, none⟩), .pointer (some ⟨Ba, 0, none⟩)] (fun x : Lk => #[.agg #[.int .i64 x.1.1.kind, .int .i64 x.1.1.subj, .int .i64 x.1.1.obj, .int .i64 x.1.2.1, .int .i64 x.1.2.2, .int .i64 x.2]])
      (linksOf at' l) (fun b => b < n₀ ∨ b = Bd ∨ b = Ba) w := by
  intro li J Jx C W hS hC hJ hJx hY h0
  refine (callsIn_wide (n := 0)).1 (callsIn_of_wp Try.func48 rfl trivial ?_ rfl)
  simp only [Try.ntmps48, List.size_toArray, List.length_cons, List.length_nil, Nat.reduceAdd, Nat.reduceSub, Array.replicate_succ, Array.replicate_zero, List.push_toArray, List.append_toArray, List.nil_append, List.cons_append]
  have HY := hidp hY
  have HJ := hidp hJ
  have HJx := hidp hJx
  clear hY hJ hJx
  have hBW := (SeqSt.start hS hC).cell (b := Bd) (o := 8) (.inr (.inl rfl))
  rw [hBd] at hBW
  have hlen := hm.2.1
  have hcap := hm.2.2.1
  have HN := hidp hm.1
  gi_wp2
  gi_loopw [5, 9] (fun _ i wr => ∃ (k : Nat) (C1 : Nat → Prop), k ≤ len ∧ i = .int .i64 k ∧ J (linksOf at' (l.take k)) C1 wr ∧ SeqSt (fun b => b < n₀ ∨ b = Bd ∨ b = Ba) w W C1 wr)
    (fun _ i _ => len - (intOf i).toNat)
  case atStart => exact ⟨0, C, by omega, rfl, h0, SeqSt.start hS hC⟩
  case round =>
    obtain ⟨k, C1, hk, rfl, hJk, hst⟩ := hrel
    have hba := hst.cell (b := Ba) (o := 0) (.inr (.inr rfl))
    rw [hBa] at hba
    have hmr := hm.keep rdStable (Nat.le_refl _) fun b hb => (hst.reads b (.inl hb)).2.1
    have hBal := lt_of_cell hba
    clear hm h0 hBW hBd hBa
    by_cases hlt : k < len
    · obtain ⟨b, off, x, rfl, hb, hzk, c0, c1, c2, c3, c4⟩ := RdSl.get hmr hlt
      have hbl := lt_of_cell c0
      have hJa := HJ.out _ _ _ _ hJk ((Kept.refl _ wr).alloc (.cells #[.int .i64 x.1.kind, .int .i64 x.1.subj, .int .i64 x.1.obj, .int .i64 x.2.1, .int .i64 x.2.2] 47))
      have hsa := hst.alloc (.cells #[.int .i64 x.1.kind, .int .i64 x.1.subj, .int .i64 x.1.obj, .int .i64 x.2.1, .int .i64 x.2.2] 47)
      have HT : Hid (linksOf at' (l.take (k + 1)) = linksOf at' (l.take k) ++ [(x, at')]) := linksOf_take hzk
      have HSp : Hid (linksOf at' l = linksOf at' (l.take k) ++ (x, at') :: linksOf at' (l.drop (k + 1))) := linksOf_split hzk
      clear hmr hzk hJk
      obtain ⟨fn, tmps, assign, body, hy, hR⟩ := HY.out 0 _ _ _ _ _ HSp.out hJa
      clear hJa
      gi_wp2
      refine ⟨rfl, hR.mono ?_⟩
      rintro e W3 ⟨C3, hk3, hC3, (⟨rfl, hJ3⟩ | ⟨rfl, hJx3⟩)⟩
      · gi_wp2
        go_roundw
        case rel => exact ⟨k + 1, C3, by omega, by go_num, by rw [HT.out]; exact hJ3, hsa.round hk3 hC3⟩
        case measure => simp [intOf]; omega
      · gi_wp2
        refine bodyPost_ret (results_none rfl _ _ _) rfl ?_
        exact ⟨⟨_, rfl⟩, C3, .inr hJx3⟩
    · obtain rfl : k = len := by omega
      have HA : Hid (l.take k = l) := List.take_of_length_le (by rw [← HN.out]; omega)
      gi_wp2
      go_end0
      exact ⟨⟨_, rfl⟩, C1, .inl (by have := hJk; rw [HA.out] at this; exact this)⟩
end Go.Proofs.Ytologegkbcedhaa
