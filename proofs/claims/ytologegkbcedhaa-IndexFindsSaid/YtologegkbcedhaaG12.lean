/- index.touched, index.of. -/
import Derived.Test.YtologegkbcedhaaH0
import Derived.Test.YtologegkbcedhaaC0
import Derived.OwnWalkIn
import Derived.TacticsInMore
import Derived.LoopNIn
import Derived.LoopIn
namespace Go.Proofs.Ytologegkbcedhaa
open Go.RowKit Go.Shelf
attribute [local go_sem] Oper.semAt_some

set_option maxRecDepth 100000 in
set_option maxHeartbeats 4000000 in
theorem sIndex_any (g : FuncId) (fs cs : Array Value) (p : Int × Int → Bool) (A : Option Addr) (n c : Nat) (l : List (Int × Int)) (w : World) (hl : sSl w w.heap.size A n c l)
    (eg : ∀ args w, (callFunc g args).run Try.prog w = .ok (.enter g args) w)
    (hp : ∀ (m : Int × Int) (W : World), Below w.heap.size w W → Calls Try.prog g (fs.push (.agg #[.int .i64 m.1, .int .i64 m.2]) ++ cs) W fun e W' => e = .returned (.bool (p m)) ∧ Below W.heap.size W W') :
    Calls Try.prog 70 #[.slice A n c, .func (.func g) fs cs] w fun e w' => e = .returned (.int .i64 (firstM p l)) ∧ Below w.heap.size w w' := by
  have HN := hidp hl.1
  have hcap := hl.2.2.1
  have hlen := hl.2.1
  have HP := hidp hp
  clear hp
  go_enter Try.func70, Try.ntmps70
  go_wp2
  go_loopw [5, 8] (fun _ i wr => ∃ k : Nat, k ≤ n ∧ i = .int .i64 k ∧ (l.take k).all (fun m => !p m) = true ∧ Below w.heap.size w wr) (fun _ i _ => n - (intOf i).toNat)
  case atStart => exact ⟨0, by omega, rfl, rfl, Below.refl _ _⟩
  case round =>
    obtain ⟨k, hk, rfl, hno, hbe⟩ := hrel
    have HA := hidp hno
    clear hno
    by_cases hlt : k < n
    · obtain ⟨b, off, m, rfl, hb, hzk, c0, c1⟩ := sSl.get (hl.below sStable hbe) hlt
      have hbb := lt_of_cell c0
      have HZ := hidp hzk
      have hc := HP.out m
      obtain ⟨bo, hbo⟩ : ∃ bo, p m = bo := ⟨_, rfl⟩
      rw [hbo] at hc
      have HC := hidp hc
      have HB := hidp hbo
      clear hzk hc hbo
      go_wp2_with fail
      refine (HC.out _ hbe).mono ?_
      rintro e w1 ⟨rfl, hb1⟩
      have hbe1 := hbe.trans (hb1.mono hbe.size)
      cases bo
      · go_wp2_with fail
        go_roundw
        case rel => exact ⟨k + 1, by omega, by go_num, by rw [take_snoc HZ.out, List.all_append, HA.out]; simp [HB.out], hbe1⟩
        case measure => simp [intOf]; omega
      · go_wp2_with fail
        go_ret
        exact ⟨ret_int (firstM_at HZ.out HB.out HA.out).symm, hbe1⟩
    · obtain rfl : k = n := by omega
      go_wp2_with fail
      go_ret
      refine ⟨ret_int ?_, hbe⟩
      have h1 := HA.out
      rw [List.take_of_length_le (by rw [← HN.out]; omega)] at h1
      exact (firstM_no h1).symm

set_option maxRecDepth 100000 in
set_option maxHeartbeats 1000000 in
theorem sContains_any (g : FuncId) (fs cs : Array Value) (p : Int × Int → Bool) (A : Option Addr) (n c : Nat) (l : List (Int × Int)) (w : World) (hl : sSl w w.heap.size A n c l)
    (eg : ∀ args w, (callFunc g args).run Try.prog w = .ok (.enter g args) w)
    (hp : ∀ (m : Int × Int) (W : World), Below w.heap.size w W → Calls Try.prog g (fs.push (.agg #[.int .i64 m.1, .int .i64 m.2]) ++ cs) W fun e W' => e = .returned (.bool (p m)) ∧ Below W.heap.size W W') :
    Calls Try.prog 57 #[.slice A n c, .func (.func g) fs cs] w fun e w' => e = .returned (.bool (l.any p)) ∧ Below w.heap.size w w' := by
  have hc := sIndex_any g fs cs p A n c l w hl eg hp
  have HG := hidp (firstM_ge p l)
  generalize firstM p l = q at hc HG
  have HC := hidp hc
  clear hc hp eg
  go_enter Try.func57, Try.ntmps57
  go_wp2_with fail
  refine HC.out.mono ?_
  rintro e w1 ⟨rfl, hb1⟩
  go_wp2_with fail
  go_ret
  exact ⟨ret_bool HG.out, hb1⟩


set_option maxRecDepth 100000 in
set_option maxHeartbeats 1000000 in
theorem xtouched1_any (br : Nat) (r : Rd) (s : Int × Int) (W : World) (hr : W.heap[br]? = some (.cells #[.int .i64 r.1.kind, .int .i64 r.1.subj, .int .i64 r.1.obj, .int .i64 r.2.1, .int .i64 r.2.2] 47 (0, 0))) :
    Calls Try.prog 58 #[.agg #[.int .i64 s.1, .int .i64 s.2], .pointer (some ⟨br, 0, none⟩)] W fun e w' => e = .returned (.bool (decide (max r.2.1 s.1 < min r.2.2 s.2))) ∧ Below W.heap.size W w' := by
  have c3 := cell_of_heap (o := 3) hr
  have c4 := cell_of_heap (o := 4) hr
  have h1 := lt_of_heap hr
  simp only [List.getElem?_toArray, List.getElem?_cons_zero, List.getElem?_cons_succ] at c3 c4
  rcases Int.lt_or_le r.2.1 s.1 with h | h <;> rcases Int.lt_or_le s.2 r.2.2 with h' | h'
  all_goals
    go_enter Try.func58, Try.ntmps58
    go_wp2_with fail
    go_ret
    exact ⟨ret_bool (by rw [decide_eq_decide]; omega), (Below.refl _ _).alloc (Nat.le_refl _) _⟩
set_option maxRecDepth 100000 in
set_option maxHeartbeats 1000000 in
theorem xtouched_any (r : Rd) (A : Option Addr) (n c : Nat) (ss : List (Int × Int)) (w : World) (hl : sSl w w.heap.size A n c ss) :
    Calls Try.prog 38 #[.agg #[.int .i64 r.1.kind, .int .i64 r.1.subj, .int .i64 r.1.obj, .int .i64 r.2.1, .int .i64 r.2.2], .slice A n c] w fun e w' => e = .returned (.bool (touchS r ss)) ∧ Below w.heap.size w w' := by
  have hB := (Below.refl w.heap.size w).alloc (Nat.le_refl _) (.cells #[.int .i64 r.1.kind, .int .i64 r.1.subj, .int .i64 r.1.obj, .int .i64 r.2.1, .int .i64 r.2.2] 47)
  have hk := World.alloc_heap_new w (.cells #[.int .i64 r.1.kind, .int .i64 r.1.subj, .int .i64 r.1.obj, .int .i64 r.2.1, .int .i64 r.2.2] 47)
  have HB := hidp hB
  have HK := hidp hk
  clear hB hk
  go_enter Try.func38, Try.ntmps38
  go_wp2_with fail
  refine (sContains_any 58 #[] #[.pointer (some ⟨w.heap.size, 0, none⟩)] (fun s => decide (max r.2.1 s.1 < min r.2.2 s.2)) A n c ss _ (hl.keep sStable (by simp) (fun b hb => Below.heap_alloc _ _ _ hb)) (enters_of Try.func58 (by kernel_rfl) rfl) (fun m W hW => xtouched1_any w.heap.size r m W ((hW.block _ (by simp)).trans HK.out))).mono ?_
  rintro e w1 ⟨rfl, hb1⟩
  go_wp2_with fail
  go_ret
  exact ⟨rfl, HB.out.trans (hb1.mono (by simp))⟩

/-- The links of a key. -/
def ofL (X : List Lk) (kk : Ky) : List Lk := X.filter fun x => decide (x.1.1 = kk)
theorem ofL_yes {X : List Lk} {kk : Ky} {k : Nat} {x : Lk} (h : X[k]? = some x) (h1 : x.1.1 = kk) : ofL (X.take (k + 1)) kk = ofL (X.take k) kk ++ [x] := by
  rw [take_snoc h, ofL, ofL, List.filter_append]
  simp [h1]
theorem ofL_no {X : List Lk} {kk : Ky} {k : Nat} {x : Lk} (h : X[k]? = some x) (h1 : x.1.1 ≠ kk) : ofL (X.take (k + 1)) kk = ofL (X.take k) kk := by
  rw [take_snoc h, ofL, ofL, List.filter_append]
  simp [h1]
theorem ofL_split {X : List Lk} {kk : Ky} {k : Nat} {x : Lk} (h : X[k]? = some x) (h1 : x.1.1 = kk) : ofL X kk = ofL (X.take k) kk ++ x :: ofL (X.drop (k + 1)) kk := by
  conv => lhs; rw [split_at h]
  rw [ofL, ofL, ofL, List.filter_append]
  simp [h1]

set_option maxRecDepth 100000 in
set_option maxHeartbeats 2000000 in
theorem xof1_seq (Bl Bk n₀ : Nat) (A : Option Addr) (len cap : Nat) (X : List Lk) (kk : Ky) (w : World)
    (hBl : w.cell? ⟨Bl, 0, none⟩ = some (.slice A len cap)) (hBk : w.heap[Bk]? = some (.cells #[.int .i64 kk.kind, .int .i64 kk.subj, .int .i64 kk.obj] 45 (0, 0))) (hm : lSl w n₀ A len cap X) :
    SeqC Try.prog 56 #[.pointer (some ⟨Bl, 0, none⟩), .pointer (some ⟨Bk, 0, none⟩)] (fun x : Lk => #[.agg #[.int .i64 x.1.1.kind, .int .i64 x.1.1.subj, .int .i64 x.1.1.obj, .int .i64 x.1.2.1, .int .i64 x.1.2.2, .int .i64 x.2]])
      (ofL X kk) (fun b => b < n₀ ∨ b = Bl ∨ b = Bk) w := by
  intro li J Jx C W hS hC hJ hJx hY h0
  refine (callsIn_wide (n := 0)).1 (callsIn_of_wp Try.func56 rfl trivial ?_ rfl)
  simp only [Try.ntmps56, List.size_toArray, List.length_cons, List.length_nil, Nat.reduceAdd, Nat.reduceSub, Array.replicate_succ, Array.replicate_zero, List.push_toArray, List.append_toArray, List.nil_append, List.cons_append]
  have HY := hidp hY
  have HJ := hidp hJ
  have HJx := hidp hJx
  clear hY hJ hJx
  have hBW := (SeqSt.start hS hC).cell (b := Bl) (o := 0) (.inr (.inl rfl))
  rw [hBl] at hBW
  have hlen := hm.2.1
  have hcap := hm.2.2.1
  have HN := hidp hm.1
  have hk0 := cell_of_heap (o := 0) hBk
  have hk1 := cell_of_heap (o := 1) hBk
  have hk2 := cell_of_heap (o := 2) hBk
  simp only [List.getElem?_toArray, List.getElem?_cons_zero, List.getElem?_cons_succ] at hk0 hk1 hk2
  gi_wp2
  gi_loopw [5, 9] (fun _ i wr => ∃ (k : Nat) (C1 : Nat → Prop), k ≤ len ∧ i = .int .i64 k ∧ J (ofL (X.take k) kk) C1 wr ∧ SeqSt (fun b => b < n₀ ∨ b = Bl ∨ b = Bk) w W C1 wr)
    (fun _ i _ => len - (intOf i).toNat)
  case atStart => exact ⟨0, C, by omega, rfl, h0, SeqSt.start hS hC⟩
  case round =>
    obtain ⟨k, C1, hk, rfl, hJk, hst⟩ := hrel
    have hbk0 := hst.cell (b := Bk) (o := 0) (.inr (.inr rfl))
    have hbk1 := hst.cell (b := Bk) (o := 1) (.inr (.inr rfl))
    have hbk2 := hst.cell (b := Bk) (o := 2) (.inr (.inr rfl))
    rw [hk0] at hbk0
    rw [hk1] at hbk1
    rw [hk2] at hbk2
    have hmr := hm.keep lStable (Nat.le_refl _) fun b hb => (hst.reads b (.inl hb)).2.1
    have hBkl := lt_of_cell hbk0
    clear hm h0 hBW hBl hBk hk0 hk1 hk2
    by_cases hlt : k < len
    · obtain ⟨b, off, x, rfl, hb, hzk, c0, c1, c2, c3, c4, c5⟩ := lSl.get hmr hlt
      have hbl := lt_of_cell c0
      have hJa := HJ.out _ _ _ _ hJk ((Kept.refl _ wr).alloc (.cells #[.int .i64 x.1.1.kind, .int .i64 x.1.1.subj, .int .i64 x.1.1.obj, .int .i64 x.1.2.1, .int .i64 x.1.2.2, .int .i64 x.2] 49))
      have hsa := hst.alloc (.cells #[.int .i64 x.1.1.kind, .int .i64 x.1.1.subj, .int .i64 x.1.1.obj, .int .i64 x.1.2.1, .int .i64 x.1.2.2, .int .i64 x.2] 49)
      have HZ := hidp hzk
      clear hmr hzk hJk
      obtain ⟨z, hz⟩ : ∃ z, decide (x.1.1 = kk) = z := ⟨_, rfl⟩
      have hq := fun W => k_eql x.1.1 kk W
      rw [hz] at hq
      have HQ := hidp hz
      clear hz
      cases z
      · have HT : Hid (ofL (X.take (k + 1)) kk = ofL (X.take k) kk) := ofL_no HZ.out (fun h => by have := HQ.out; simp [h] at this)
        gi_wp2
        refine ⟨(fun _ h => by cases h), ?_⟩
        gi_wp2
        go_roundw
        case rel => exact ⟨k + 1, C1, by omega, by go_num, by rw [HT.out]; exact hJa, hsa⟩
        case measure => simp [intOf]; omega
      · have e1 : x.1.1 = kk := by have := HQ.out; simpa using this
        have HT : Hid (ofL (X.take (k + 1)) kk = ofL (X.take k) kk ++ [x]) := ofL_yes HZ.out e1
        have HSp : Hid (ofL X kk = ofL (X.take k) kk ++ x :: ofL (X.drop (k + 1)) kk) := ofL_split HZ.out e1
        clear e1
        obtain ⟨fn, tmps, assign, body, hy, hR⟩ := HY.out 0 _ _ _ _ _ HSp.out hJa
        clear hJa
        gi_wp2
        refine ⟨rfl, hR.mono ?_⟩
        rintro e W3 ⟨C3, hk3, hC3, (⟨rfl, hJ3⟩ | ⟨rfl, hJx3⟩)⟩
        · gi_wp2
          go_roundw
          case rel => exact ⟨k + 1, C3, by omega, by go_num, by rw [HT.out]; exact hJ3, hsa.round hk3 hC3⟩
          case measure => simp [intOf]; omega
        · gi_wp2
          refine bodyPost_ret (results_none rfl _ _ _) rfl ?_
          exact ⟨⟨_, rfl⟩, C3, .inr hJx3⟩
    · obtain rfl : k = len := by omega
      have HA : Hid (X.take k = X) := List.take_of_length_le (by rw [← HN.out]; omega)
      gi_wp2
      go_end0
      exact ⟨⟨_, rfl⟩, C1, .inl (by have := hJk; rw [HA.out] at this; exact this)⟩

set_option maxHeartbeats 400000 in
theorem xof_any (A : Option Addr) (n c : Nat) (kk : Ky) (w : World) :
    Calls Try.prog 37 #[.agg #[.slice A n c], .agg #[.int .i64 kk.kind, .int .i64 kk.subj, .int .i64 kk.obj]] w fun e w' => e = .returned (.func (.func 56) #[] #[.pointer (some ⟨w.heap.size, 0, none⟩), .pointer (some ⟨w.heap.size + 1, 0, none⟩)]) ∧ (w.alloc (.cells #[.slice A n c] 28)).alloc (.cells #[.int .i64 kk.kind, .int .i64 kk.subj, .int .i64 kk.obj] 45) = w' := by
  go_enter Try.func37, Try.ntmps37
  go_wp2
  go_ret
  exact ⟨rfl, rfl⟩
end Go.Proofs.Ytologegkbcedhaa
