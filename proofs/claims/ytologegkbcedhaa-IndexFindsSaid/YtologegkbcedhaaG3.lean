/- slices.DeleteFunc at links; equality of links (printed by wip/tools/genslices.py). -/
import Derived.Test.YtologegkbcedhaaG2
import Derived.Test.YtologegkbcedhaaRel
namespace Go.Proofs.Ytologegkbcedhaa
open Go.RowKit Go.Shelf

set_option maxRecDepth 100000 in
set_option maxHeartbeats 4000000 in
theorem lDelete_any (g : FuncId) (fs cs : Array Value) (p : Lk → Bool) (base n cap G : Nat) (l : List (Lk)) (w : World) (hown : w.ownsRow base 49 6 (.slice (some ⟨G, 0, none⟩) n cap) n (l.flatMap lEnc)) (hbase : base ≤ w.heap.size)
    (eg : ∀ args w, (callFunc g args).run Try.prog w = .ok (.enter g args) w)
    (hp : ∀ (m : Lk) (W : World), Below base w W → Calls Try.prog g (fs.push (.agg #[.int .i64 m.1.1.kind, .int .i64 m.1.1.subj, .int .i64 m.1.1.obj, .int .i64 m.1.2.1, .int .i64 m.1.2.2, .int .i64 m.2]) ++ cs) W fun e W' => e = .returned (.bool (p m)) ∧ Below W.heap.size W W') :
    Calls Try.prog 34 #[.slice (some ⟨G, 0, none⟩) n cap, .func (.func g) fs cs] w fun e w' => ∃ k : Nat, e = .returned (.slice (some ⟨G, 0, none⟩) k cap) ∧ w'.ownsRow base 49 6 (.slice (some ⟨G, 0, none⟩) k cap) k ((l.filter fun m => !p m).flatMap lEnc) ∧ Below base w w' := by
  obtain ⟨i0, hiE, _, hsE, _⟩ := info_parts lInfo
  obtain ⟨A0, c0', hA0, rl⟩ := own_rows lEnc_len (by decide) hown
  obtain ⟨rfl, rfl⟩ : some ⟨G, 0, none⟩ = A0 ∧ cap = c0' := by injection hA0 with h1 _ h3; exact ⟨h1, h3⟩
  have HN := hidp rl.1
  have hcap := rl.2.1
  have hcap' := rl.2.2.1
  have HP := hidp hp
  have HOwn := hidp hown
  have hG : base ≤ G ∧ G < w.heap.size := hown.lt G rfl
  clear hown hA0
  go_enter Try.func34, Try.ntmps34
  go_wp2_with fail
  refine (lIndex_any g fs cs p _ _ _ _ _ rl eg (fun m W hb => hp m W (hb.mono hbase))).mono ?_
  clear hp
  rintro e w1 ⟨rfl, hb1⟩
  have own1 := own_stable _ _ _ _ _ _ _ _ hb1 HOwn.out
  have hB1 := hb1.mono hbase
  rcases Int.lt_or_le (firstM p l) 0 with hneg | hpos
  · obtain ⟨h1, h2⟩ := firstM_none hneg
    rw [h1]
    have H2 := hidp h2
    clear hneg h1 h2
    go_wp2_with fail
    go_ret
    exact ⟨n, rfl, by rw [H2.out]; exact own1, hB1⟩
  · obtain ⟨i, h1, hil, h2⟩ := firstM_some hpos
    rw [h1]
    have H2 := hidp h2
    rw [← HN.out] at hil
    clear hpos h1 h2
    have HO1 := hidp own1
    clear own1
    have hne : ((i : Int) == -1) = false := by rw [beq_eq_false_iff_ne]; omega
    go_wp2_with fail
    clear hne
    go_loopw [5, 6, 7] (fun i j _ wr => ∃ (kq jq : Nat) (K J : List (Lk)), i = .int .i64 kq ∧ j = .int .i64 jq ∧ kq < jq ∧ jq ≤ n ∧ K.length = kq ∧ K.length + J.length = jq ∧ K = (l.take jq).filter (fun m => !p m) ∧ wr.ownsRow base 49 6 (.slice (some ⟨G, 0, none⟩) n cap) n ((K ++ J ++ l.drop jq).flatMap lEnc) ∧ Below base w wr) (fun _ j _ _ => n - (intOf j).toNat)
    case atStart => 
      have hl : i < l.length := by rw [← HN.out]; exact hil
      refine ⟨i, i + 1, l.take i, [l[i]], rfl, rfl, by omega, by omega, by simp; omega, by simp; omega, H2.out.symm, ?_, hB1⟩
      have : l.take i ++ [l[i]] ++ l.drop (i + 1) = l := by
        rw [List.append_assoc]
        exact (split_at (List.getElem?_eq_getElem hl)).symm
      rw [this]
      exact HO1.out
    case round =>
      obtain ⟨kq, jq, K, J, rfl, rfl, hkj, hjn, hkl, hjl, hK, hO, hbe⟩ := hrel
      have HK := hidp hK
      have HKL := hidp hkl
      have HJL := hidp hjl
      have hbs := Nat.le_trans hbase hbe.size
      obtain ⟨A1, c1', hA1, rM⟩ := own_rows lEnc_len (by decide) hO
      obtain ⟨rfl, rfl⟩ : some ⟨G, 0, none⟩ = A1 ∧ cap = c1' := by injection hA1 with h1 _ h3; exact ⟨h1, h3⟩
      have HO := hidp hO
      clear hA1 hK hkl hjl hO
      by_cases hlt : jq < n
      · obtain ⟨b, off, m, he, hb, hzk, c0, c1, c2, c3, c4, c5⟩ := lSl.get rM hlt
        simp only [Option.some.injEq, Addr.mk.injEq, and_true] at he
        obtain ⟨rfl, rfl⟩ := he
        have hGw := hG
        have hGr : G < wr.heap.size := lt_of_cell c0
        have hm : l[jq]? = some m := by
          have e1 := HKL.out
          have e2 := HJL.out
          rw [List.getElem?_append_right (by simp; omega), List.getElem?_drop] at hzk
          simp only [List.length_append] at hzk
          rwa [show jq + (jq - (K.length + J.length)) = jq by omega] at hzk
        have HZ := hidp hm
        simp only [Nat.zero_add] at c0 c1 c2 c3 c4 c5
        have hc := HP.out m
        obtain ⟨bo, hbo⟩ : ∃ bo, p m = bo := ⟨_, rfl⟩
        rw [hbo] at hc
        have HC := hidp hc
        have HB := hidp hbo
        clear hzk hc hbo hm
        have hnew := World.alloc_heap_new wr (.cells (lEnc m).toArray 49)
        have hbA : Below base w (wr.alloc (.cells (lEnc m).toArray 49)) := hbe.alloc hbs _
        have d0 := cell_of_heap (o := 0) hnew
        have d1 := cell_of_heap (o := 1) hnew
        have d2 := cell_of_heap (o := 2) hnew
        have d3 := cell_of_heap (o := 3) hnew
        have d4 := cell_of_heap (o := 4) hnew
        have d5 := cell_of_heap (o := 5) hnew
        simp only [lEnc, List.getElem?_toArray, List.getElem?_cons_zero, List.getElem?_cons_succ] at d0 d1 d2 d3 d4 d5
        have HNew := hidp hnew
        clear hnew
        go_wp2_with fail
        refine (HC.out _ hbA).mono ?_
        rintro e w5 ⟨rfl, hb5⟩
        have hb5b : Below base w w5 := hbA.trans (hb5.mono (by simp; omega))
        have hO5 : w5.ownsRow base 49 6 (.slice (some ⟨G, 0, none⟩) n cap) n ((K ++ J ++ l.drop jq).flatMap lEnc) := own_stable _ _ _ _ _ _ _ _ hb5 (HO.out.alloc _)
        cases bo
        · have hkn : kq < n := by omega
          obtain ⟨cs', hh, hl', _, hO6⟩ := own_put lEnc_len hO5 (by decide) hkn m
          have hnew5 := (hb5.block _ (lt_of_heap HNew.out)).trans HNew.out
          have e0 := cell_of_heap (o := 0) hnew5
          have e1 := cell_of_heap (o := 1) hnew5
          have e2 := cell_of_heap (o := 2) hnew5
          have e3 := cell_of_heap (o := 3) hnew5
          have e4 := cell_of_heap (o := 4) hnew5
          have e5 := cell_of_heap (o := 5) hnew5
          simp only [lEnc, List.getElem?_toArray, List.getElem?_cons_zero, List.getElem?_cons_succ] at e0 e1 e2 e3 e4 e5
          have HO6 := hidp hO6
          clear hnew5 hO6 hO5
          go_wp2_with (first | (refine wpList_store_at (vs := lEnc m) 49 (.tmp 33) (.tmp 32) rfl rfl rfl rfl hh (by rw [hiE]; simp [hsE, lEnc_len]) hl' (lEnc_one m) ?_))
          go_roundw
          case rel =>
            have e1 := HKL.out
            have e2 := HJL.out
            obtain ⟨y, J', rfl⟩ : ∃ y J', J = y :: J' := by
              cases J with
              | nil => simp at e2; omega
              | cons y J' => exact ⟨y, J', rfl⟩
            refine ⟨kq + 1, jq + 1, K ++ [m], J' ++ [m], by go_num, by go_num, by omega, by omega, by simp; omega, by simp at e2 ⊢; omega, ?_, ?_, below_setRow hb5b hG.1 _⟩
            · rw [take_snoc HZ.out, List.filter_append, ← HK.out]
              simp [HB.out]
            · have : (K ++ y :: J' ++ l.drop jq).set kq m = K ++ [m] ++ (J' ++ [m]) ++ l.drop (jq + 1) := by
                rw [drop_cons HZ.out, ← e1, List.append_assoc, List.set_append_right _ _ (Nat.le_refl _), Nat.sub_self]
                simp
              rw [← this]
              exact HO6.out
          case measure => simp [intOf]; omega
        · go_wp2_with fail
          go_roundw
          case rel =>
            refine ⟨kq, jq + 1, K, J ++ [m], rfl, by go_num, by omega, by omega, HKL.out, by simp; have := HJL.out; omega, ?_, ?_, hb5b⟩
            · rw [take_snoc HZ.out, List.filter_append, ← HK.out]
              simp [HB.out]
            · have : K ++ (J ++ [m]) ++ l.drop (jq + 1) = K ++ J ++ l.drop jq := by rw [drop_cons HZ.out]; simp
              rw [this]
              exact hO5
          case measure => simp [intOf]; omega
      · obtain rfl : n = jq := by omega
        have e1 := HKL.out
        have hK := HK.out
        have e3 := HN.out
        rw [List.take_of_length_le (by omega)] at hK
        have hO' := HO.out
        rw [List.drop_of_length_le (by omega), List.append_nil] at hO'
        obtain ⟨cs', hh, hl', _, hO6⟩ := own_clear lEnc_len hO' (by decide) (i := kq) (by omega) (Builtin.zeroCells #[.int .i64 0, .int .i64 0, .int .i64 0, .int .i64 0, .int .i64 0, .int .i64 0] (n - kq)).toList (by simp [size_zeroCells])
        have hrun := fun ty => run_clear_at (P := Try.prog) (w := wr) (t := 26) (ty := ty) (m := n - kq) (c := cap - kq) Try.underlying26 lZero (by intro v hv; simp [Value.cells] at hv; rcases hv with rfl | rfl | rfl | rfl | rfl | rfl <;> rfl) (by omega) hh (by simpa [size_zeroCells, Value.cells] using hl')
        have hcut := run_cut_low (P := Try.prog) wr Try.underlying26 hiE (some ⟨G, 0, none⟩) n cap kq .i64 (kq : Int) rfl (by omega)
        rw [hsE, cutA, if_neg (by omega)] at hcut
        simp only [Option.map_some, addr_add, Nat.zero_add] at hcut
        have hcut2 := fun W => run_cut_high (P := Try.prog) W Try.underlying26 hiE (some ⟨G, 0, none⟩) n cap kq .i64 (kq : Int) rfl (by omega)
        have HKK := hidp hK
        have HO6 := hidp hO6
        clear hO6 hO' hK e3 HO
        go_wp2_with (first | (at_builtin; refine wpList_clear_known rfl (.tmp 38) 26 rfl rfl (hrun _) ?_))
        go_ret
        refine ⟨kq, rfl, ?_, below_setRow hbe hG.1 _⟩
        have h6 := HO6.out
        rw [List.take_append_of_le_length (by omega), List.take_of_length_le (by omega), HKK.out] at h6
        exact h6

set_option maxRecDepth 100000 in
set_option maxHeartbeats 2000000 in
theorem l_in (a b : Lk) (w : World) : (Op.equalIn 10000 49 (.agg #[.int .i64 a.1.1.kind, .int .i64 a.1.1.subj, .int .i64 a.1.1.obj, .int .i64 a.1.2.1, .int .i64 a.1.2.2, .int .i64 a.2]) (.agg #[.int .i64 b.1.1.kind, .int .i64 b.1.1.subj, .int .i64 b.1.1.obj, .int .i64 b.1.2.1, .int .i64 b.1.2.2, .int .i64 b.2])).run Try.prog w = .ok (decide (a = b)) w := by
  have hS : Try.prog.underlying 49 = some (.struct (Try.prog.fieldsOf 49)) := by kernel_rfl
  have hp : Try.prog.stoodInHeld 49 = false := by kernel_rfl
  rw [show (10000 : Nat) = 9999 + 1 from rfl, run_equalIn_agg w 9999 49 _ _ hS hp]
  simp only [Program.fieldsOf, Try.underlying49]
  have agRead := Try.isAgg47
  have szRead := Try.sizeOf47
  have agKey := Try.isAgg45
  have szKey := Try.sizeOf45
  have u3 := Try.underlying3
  have a3 := Try.isAgg3
  have z3 := Try.sizeOf3
  clear hS hp
  go_simp
  by_cases he : a = b
  · subst he
    simp
  · rw [decide_eq_false he]
    repeat' split
    all_goals first | rfl | (exfalso; exact he (Lk.ext' ‹_› ‹_› ‹_› ‹_› ‹_› ‹_›))

theorem l_eql (a b : Lk) (w : World) : (binOp .eql 49 (.agg #[.int .i64 a.1.1.kind, .int .i64 a.1.1.subj, .int .i64 a.1.1.obj, .int .i64 a.1.2.1, .int .i64 a.1.2.2, .int .i64 a.2]) (.agg #[.int .i64 b.1.1.kind, .int .i64 b.1.1.subj, .int .i64 b.1.1.obj, .int .i64 b.1.2.1, .int .i64 b.1.2.2, .int .i64 b.2])).run Try.prog w = .ok (.bool (decide (a = b))) w := by
  have h : (Op.equalIn 10000 49 (.agg #[.int .i64 a.1.1.kind, .int .i64 a.1.1.subj, .int .i64 a.1.1.obj, .int .i64 a.1.2.1, .int .i64 a.1.2.2, .int .i64 a.2]) (.agg #[.int .i64 b.1.1.kind, .int .i64 b.1.1.subj, .int .i64 b.1.1.obj, .int .i64 b.1.2.1, .int .i64 b.1.2.2, .int .i64 b.2])).run Try.prog w = .ok (decide (a = b)) w := l_in _ _ w
  rw [run_eql_struct, h]
  rfl

theorem l_neq (a b : Lk) (w : World) : (binOp .neq 49 (.agg #[.int .i64 a.1.1.kind, .int .i64 a.1.1.subj, .int .i64 a.1.1.obj, .int .i64 a.1.2.1, .int .i64 a.1.2.2, .int .i64 a.2]) (.agg #[.int .i64 b.1.1.kind, .int .i64 b.1.1.subj, .int .i64 b.1.1.obj, .int .i64 b.1.2.1, .int .i64 b.1.2.2, .int .i64 b.2])).run Try.prog w = .ok (.bool (!decide (a = b))) w := by
  have h : (Op.equalIn 10000 49 (.agg #[.int .i64 a.1.1.kind, .int .i64 a.1.1.subj, .int .i64 a.1.1.obj, .int .i64 a.1.2.1, .int .i64 a.1.2.2, .int .i64 a.2]) (.agg #[.int .i64 b.1.1.kind, .int .i64 b.1.1.subj, .int .i64 b.1.1.obj, .int .i64 b.1.2.1, .int .i64 b.1.2.2, .int .i64 b.2])).run Try.prog w = .ok (decide (a = b)) w := l_in _ _ w
  rw [run_neq_struct, h]
  rfl

end Go.Proofs.Ytologegkbcedhaa
