import Derived.Test.YtefjigjjanjlkaaT1
import Derived.Test.YtefjigjjanjlkaaIter
import Derived.OwnWalkIn
import Derived.TacticsInMore
import Derived.LoopNIn
import Derived.LoopIn
namespace Go.Proofs.Ytefjigjjanjlkaa
open Go.RowKit
attribute [local go_sem] Oper.semAt_some

def mEnc (m : Mt) : List Value := [.int .i64 m.day, .int .i64 m.fr, .int .i64 m.to, .int .i64 m.first, .int .i64 m.last]
abbrev MSl := Rows 5 (Rep.flat mEnc)
theorem mStable : (Rep.flat mEnc).Stable := Rep.flat_stable _
theorem MSl.get {n₀ n c k : Nat} {A : Option Addr} {l : List Mt} {W : World} (h : MSl W n₀ A n c l) (hk : k < n) :
    ∃ b off m, A = some ⟨b, off, none⟩ ∧ b < n₀ ∧ l[k]? = some m ∧ W.cell? ⟨b, off + k * 5, none⟩ = some (.int .i64 m.day) ∧ W.cell? ⟨b, off + k * 5 + 1, none⟩ = some (.int .i64 m.fr) ∧ W.cell? ⟨b, off + k * 5 + 2, none⟩ = some (.int .i64 m.to) ∧ W.cell? ⟨b, off + k * 5 + 3, none⟩ = some (.int .i64 m.first) ∧ W.cell? ⟨b, off + k * 5 + 4, none⟩ = some (.int .i64 m.last) := by
  obtain ⟨b, off, m, cs, e, hlt, hk', rfl, hc⟩ := Rows.get h hk
  exact ⟨b, off, m, e, hlt, hk', hc 0 _ rfl, hc 1 _ rfl, hc 2 _ rfl, hc 3 _ rfl, hc 4 _ rfl⟩

def pairsTo (zs : List Mt) (k : Nat) : List (Mt × Mt) := (List.range k).flatMap fun i => match zs[i]? with
  | some m => (zs.drop (i + 1)).map fun x => (m, x)
  | none => []
theorem pairsTo_zero (zs : List Mt) : pairsTo zs 0 = [] := rfl
theorem pairsTo_succ (zs : List Mt) (k : Nat) (m : Mt) (h : zs[k]? = some m) : pairsTo zs (k + 1) = pairsTo zs k ++ (zs.drop (k + 1)).map fun x => (m, x) := by
  unfold pairsTo
  rw [List.range_succ, List.flatMap_append]
  simp [h]

set_option maxHeartbeats 400000 in
theorem pairs_any (A : Option Addr) (n c : Nat) (w : World) :
    Calls Try.prog 31 #[.slice A n c] w fun e w' => e = .returned (.func (.func 38) #[] #[.pointer (some ⟨w.heap.size, 0, none⟩)]) ∧ w.alloc (.cells #[.slice A n c] 22) = w' := by
  go_enter Try.func31, Try.ntmps31
  go_wp2
  go_ret
  exact ⟨rfl, rfl⟩

theorem pairsTo_prefix (zs : List Mt) (i d : Nat) : pairsTo zs i <+: pairsTo zs (i + d) := by
  unfold pairsTo
  rw [List.range_add, List.flatMap_append]
  exact List.prefix_append _ _
theorem pairs_split (zs : List Mt) (len k j : Nat) (m x : Mt) (hk : zs[k]? = some m) (hx : (zs.drop (k + 1))[j]? = some x) (hl : k + 1 ≤ len) :
    ∃ suf, pairsTo zs len = (pairsTo zs k ++ ((zs.drop (k + 1)).take j).map fun x => (m, x)) ++ (m, x) :: suf := by
  obtain ⟨t, ht⟩ := pairsTo_prefix zs (k + 1) (len - (k + 1))
  have e : k + 1 + (len - (k + 1)) = len := by omega
  rw [e] at ht
  refine ⟨((zs.drop (k + 1)).drop (j + 1)).map (fun x => (m, x)) ++ t, ?_⟩
  rw [← ht, pairsTo_succ zs k m hk]
  have hd : zs.drop (k + 1) = (zs.drop (k + 1)).take j ++ x :: (zs.drop (k + 1)).drop (j + 1) := by
    have hlt : j < (zs.drop (k + 1)).length := (List.getElem?_eq_some_iff.1 hx).1
    have hxe : (zs.drop (k + 1))[j] = x := (List.getElem?_eq_some_iff.1 hx).2
    rw [← hxe, ← List.drop_eq_getElem_cons hlt, List.take_append_drop]
  conv => lhs; rw [hd]
  simp [List.append_assoc]
theorem info38 : (Try.prog.info? 38).map (fun i => i.size) = some 5 := by kernel_rfl
theorem info_size {P : Program} {t : TypeId} {k : Nat} (h : (P.info? t).map (fun i => i.size) = some k) : ∃ i, P.info? t = some i ∧ i.size = k := by
  cases hi : P.info? t with
  | none => simp [hi] at h
  | some i => exact ⟨i, rfl, by simpa [hi] using h⟩

set_option maxRecDepth 100000 in
set_option maxHeartbeats 2000000 in
theorem pairs1_seq (Bs n₀ : Nat) (A : Option Addr) (len cap : Nat) (zs : List Mt) (w : World)
    (hBs : w.cell? ⟨Bs, 0, none⟩ = some (.slice A len cap)) (hm : MSl w n₀ A len cap zs) :
    SeqC Try.prog 38 #[.pointer (some ⟨Bs, 0, none⟩)] (fun x : Mt × Mt => #[.agg #[.int .i64 x.1.day, .int .i64 x.1.fr, .int .i64 x.1.to, .int .i64 x.1.first, .int .i64 x.1.last], .agg #[.int .i64 x.2.day, .int .i64 x.2.fr, .int .i64 x.2.to, .int .i64 x.2.first, .int .i64 x.2.last]])
      (pairsTo zs len) (fun b => b < n₀ ∨ b = Bs) w := by
  intro l J Jx C W hS hC hJ hJx hY h0
  refine (callsIn_wide (n := 0)).1 (callsIn_of_wp Try.func38 rfl trivial ?_ rfl)
  simp only [Try.ntmps38, List.size_toArray, List.length_cons, List.length_nil, Nat.reduceAdd, Nat.reduceSub, Array.replicate_succ, Array.replicate_zero, List.push_toArray, List.append_toArray, List.nil_append, List.cons_append]
  have HY := hidp hY
  have HJ := hidp hJ
  have HJx := hidp hJx
  clear hY hJ hJx
  have hBW := (SeqSt.start hS hC).cell (b := Bs) (o := 0) (.inr rfl)
  rw [hBs] at hBW
  obtain ⟨i38, hi38, hz38⟩ := info_size info38
  have hlen := hm.2.1
  have hcap := hm.2.2.1
  gi_wp2
  gi_loopw [3, 4, 6, 9] (fun _ _ _ i wr => ∃ (k : Nat) (C1 : Nat → Prop), k ≤ len ∧ i = .int .i64 k ∧ J (pairsTo zs k) C1 wr ∧ SeqSt (fun b => b < n₀ ∨ b = Bs) w W C1 wr)
    (fun _ _ _ i _ => len - (intOf i).toNat)
  case atStart => exact ⟨0, C, by omega, rfl, h0, SeqSt.start hS hC⟩
  case round =>
    obtain ⟨k, C1, hk, rfl, hJk, hst⟩ := hrel
    have hbx := hst.cell (b := Bs) (o := 0) (.inr rfl)
    rw [hBs] at hbx
    have hmr := hm.keep mStable (Nat.le_refl _) fun b hb => (hst.reads b (.inl hb)).2.1
    have hlen := hm.2.1
    have hcap := hm.2.2.1
    have hBl := lt_of_cell hbx
    by_cases hlt : k < len
    · have hmd := hmr.cut (m := k + 1) (by omega)
      obtain ⟨b, off, m, rfl, hb, hzk, c0, c1, c2, c3, c4⟩ := MSl.get hmr hlt
      have hbl := lt_of_cell c0
      have hJa := HJ.out _ _ _ _ hJk ((Kept.refl _ wr).alloc (.cells #[.int .i64 m.day, .int .i64 m.fr, .int .i64 m.to, .int .i64 m.first, .int .i64 m.last] 38))
      have hsa := hst.alloc (.cells #[.int .i64 m.day, .int .i64 m.fr, .int .i64 m.to, .int .i64 m.first, .int .i64 m.last] 38)
      have hba : (wr.alloc (.cells #[.int .i64 m.day, .int .i64 m.fr, .int .i64 m.to, .int .i64 m.first, .int .i64 m.last] 38)).heap[wr.heap.size]? = some (.cells #[.int .i64 m.day, .int .i64 m.fr, .int .i64 m.to, .int .i64 m.first, .int .i64 m.last] 38 (0, 0)) := World.alloc_heap_new _ _
      have hna : ¬ C1 wr.heap.size := fun e => by have := hst.lt _ e; omega
      have hWr : W.heap.size ≤ wr.heap.size := hst.size
      have HZ := hidp hzk
      clear hJk hm hmr hzk h0
      have hsl := fun W => run_cut_low (P := Try.prog) W Try.underlying22 hi38 (some ⟨b, off, none⟩) len cap (k + 1) .i64 ((k : Int) + 1) (by omega) (by omega)
      rw [hz38] at hsl
      generalize cutA (some (⟨b, off, none⟩ : Addr)) cap (k + 1) 5 = A2 at hsl hmd
      gi_wp2
      all_goals
        have hkl : k + 1 ≤ len := hlt
        obtain ⟨wo, hwo⟩ : ∃ wo : World, wo = wr := ⟨_, rfl⟩
        have hWo : W.heap.size ≤ wo.heap.size := by rw [hwo]; exact hWr
        subst hwo
        gi_loopw [6, 19] (fun _ i w2 => ∃ (j : Nat) (C2 : Nat → Prop), j ≤ len - (k + 1) ∧ i = .int .i64 j ∧ J (pairsTo zs k ++ ((zs.drop (k + 1)).take j).map fun x => (m, x)) C2 w2 ∧ SeqSt (fun b => b < n₀ ∨ b = Bs) w W C2 w2 ∧
            w2.heap[wo.heap.size]? = some (.cells #[.int .i64 m.day, .int .i64 m.fr, .int .i64 m.to, .int .i64 m.first, .int .i64 m.last] 38 (0, 0)) ∧ ¬ C2 wo.heap.size)
          (fun _ i _ => len - (k + 1) - (intOf i).toNat)
        case atStart =>
          exact ⟨0, C1, by omega, rfl, by simpa using hJa, hsa, hba, hna⟩
        case round =>
          obtain ⟨j, C2, hj, rfl, hJj, hsj, hbj, hnj⟩ := hrel
          by_cases hjl : j < len - (k + 1)
          · obtain ⟨b', off', x, he, hb', hxj, d0, d1, d2, d3, d4⟩ := MSl.get (hmd.keep mStable (W' := wr) (Nat.le_refl _) fun b hb => ((hsj.reads b (.inl hb)).2.1).trans (hst.reads b (.inl hb)).2.1.symm) hjl
            have e0 := cell_of_heap (o := 0) hbj
            have e1 := cell_of_heap (o := 1) hbj
            have e2 := cell_of_heap (o := 2) hbj
            have e3 := cell_of_heap (o := 3) hbj
            have e4 := cell_of_heap (o := 4) hbj
            have hbl' := lt_of_cell d0
            have hwl := lt_of_heap hbj
            simp only [List.getElem?_toArray, List.getElem?_cons_zero, List.getElem?_cons_succ] at e0 e1 e2 e3 e4
            have hne : cap ≠ k + 1 := by omega
            obtain ⟨suf, hsuf⟩ := pairs_split zs len k j m x HZ.out hxj hkl
            have HT := hidp (take_snoc hxj)
            have hJ1 := HJ.out _ _ _ _ hJj ((Kept.refl _ wr).alloc (.cells #[.int .i64 x.day, .int .i64 x.fr, .int .i64 x.to, .int .i64 x.first, .int .i64 x.last] 38))
            have hs1 := hsj.alloc (.cells #[.int .i64 x.day, .int .i64 x.fr, .int .i64 x.to, .int .i64 x.first, .int .i64 x.last] 38)
            have hb1 : (wr.alloc (.cells #[.int .i64 x.day, .int .i64 x.fr, .int .i64 x.to, .int .i64 x.first, .int .i64 x.last] 38)).heap[wo.heap.size]? = _ := (Below.heap_alloc _ _ _ hwl).trans hbj
            obtain ⟨fn, tmps, assign, body, hy, hR⟩ := HY.out 0 _ _ _ _ _ hsuf hJ1
            clear hsuf hJ1 hJj hxj
            dsimp only at hy
            subst he
            gi_wp2
            refine ⟨rfl, hR.mono ?_⟩
            rintro e W3 ⟨C3, hk3, hC3, (⟨rfl, hJ3⟩ | ⟨rfl, hJx3⟩)⟩
            · obtain ⟨hb3, hn3⟩ := SeqSt.mine hk3 hC3 hb1 hnj
              gi_wp2
              go_roundw
              case rel => exact ⟨j + 1, C3, by omega, by go_num, by rw [HT.out, List.map_append, ← List.append_assoc]; exact hJ3, hs1.round hk3 hC3, hb3, hn3⟩
              case measure => simp [intOf]; omega
            · gi_wp2
              refine bodyPost_ret (results_none rfl _ _ _) rfl ?_
              exact ⟨⟨_, rfl⟩, C3, .inr hJx3⟩
          · obtain rfl : j = len - (k + 1) := by omega
            have HP : Hid (pairsTo zs (k + 1) = pairsTo zs k ++ ((zs.drop (k + 1)).take (len - (k + 1))).map fun x => (m, x)) := by
              show _ = _
              rw [pairsTo_succ zs k m HZ.out, List.take_of_length_le (by have := hmd.1; omega)]
            gi_wp2
            go_roundw
            case rel => exact ⟨k + 1, C2, hkl, by go_num, by rw [HP.out]; exact hJj, hsj⟩
            case measure => simp [intOf]; omega
    · obtain rfl : k = len := by omega
      gi_wp2
      go_end0
      exact ⟨⟨_, rfl⟩, C1, .inl hJk⟩
end Go.Proofs.Ytefjigjjanjlkaa
