import Derived.Test.YtefjigjjanjlkaaT20
namespace Go.Proofs.Ytefjigjjanjlkaa
open Go.RowKit Go.Shelf Go.Sort

theorem own_mono {w : World} {b b' : Nat} {e : TypeId} {k : Nat} {v : Value} {n : Nat} {xs : List Value} (h : w.ownsRow b e k v n xs) (hb : b' ≤ b) : w.ownsRow b' e k v n xs :=
  ⟨h.1, h.2.imp id fun ⟨g, cap, cur, hv, hg, h3⟩ => ⟨g, cap, cur, hv, Nat.le_trans hb hg, h3⟩⟩
theorem delete_own (g : FuncId) (fs cs : Array Value) (p : Mt → Bool) (base n : Nat) (v : Value) (l : List Mt) (w : World) (hown : w.ownsRow base 38 5 v n (l.flatMap mEnc)) (hbase : base ≤ w.heap.size)
    (eg : ∀ args w, (callFunc g args).run Try.prog w = .ok (.enter g args) w) (hn : n ≤ 1000000)
    (hp : ∀ (m : Mt) (W : World), Below base w W → Calls Try.prog g (fs.push (.agg #[.int .i64 m.day, .int .i64 m.fr, .int .i64 m.to, .int .i64 m.first, .int .i64 m.last]) ++ cs) W fun e W' => e = .returned (.bool (p m)) ∧ Below W.heap.size W W') :
    Calls Try.prog 21 #[v, .func (.func g) fs cs] w fun e w' => ∃ v' k, e = .returned v' ∧ w'.ownsRow base 38 5 v' k ((l.filter fun m => !p m).flatMap mEnc) ∧ Below base w w' := by
  have hlen := own_len mEnc_len (by decide) hown
  rcases hown.2 with ⟨rfl, rfl⟩ | ⟨G, cap, _, rfl, _⟩
  · have hl : l = [] := List.eq_nil_of_length_eq_zero hlen.symm
    subst hl
    exact (del_nil _ _).mono fun e w' ⟨he, hb⟩ => ⟨_, 0, he, World.ownsRow_nil _ _ _ _, hb.mono hbase⟩
  · exact (deleteFunc_any g fs cs p base n cap G l w hown hbase hn eg hp).mono fun e w' ⟨k, he, ho, hb⟩ => ⟨_, k, he, ho, hb⟩
theorem sort_own (base n : Nat) (v : Value) (l : List Mt) (w : World) (hown : w.ownsRow base 38 5 v n (l.flatMap mEnc)) (hn : n < 4611686018427387904) :
    Calls Try.prog 24 #[v, .func (.func 25) #[] #[]] w fun e w' => e = .returned (.tuple #[]) ∧ ∃ d : List Mt, d.Perm l ∧ d.Pairwise (fun x y => x.fr ≤ y.fr) ∧ w'.ownsRow base 38 5 v n (d.flatMap mEnc) ∧ Below base w w' := by
  have hlen := own_len mEnc_len (by decide) hown
  rcases hown.2 with ⟨rfl, rfl⟩ | ⟨G, cap, _, rfl, _⟩
  · have hl : l = [] := List.eq_nil_of_length_eq_zero hlen.symm
    subst hl
    exact (sort_nil _ _ _ _).mono fun e w' ⟨he, hb⟩ => by subst hb; exact ⟨he, [], List.Perm.nil, List.Pairwise.nil, World.ownsRow_nil _ _ _ _, Below.refl _ _⟩
  · exact sort_any base n cap G l w hown hn

def gapStep (s : List (Int × Int) × Int) (m : Mt) : List (Int × Int) × Int := (if s.2 < m.fr then s.1 ++ [(s.2, m.fr)] else s.1, m.to)
def gapFold (d : List Mt) : List (Int × Int) × Int := d.foldl gapStep ([], 0)
def gapsOf (d : List Mt) : List (Int × Int) := if (gapFold d).2 < 1440 then (gapFold d).1 ++ [((gapFold d).2, 1440)] else (gapFold d).1
theorem gapFold_snoc {d : List Mt} {k : Nat} {m : Mt} (h : d[k]? = some m) : gapFold (d.take (k + 1)) = gapStep (gapFold (d.take k)) m := by
  rw [take_snoc h, gapFold, List.foldl_append]
  rfl
theorem gapFold_len (d : List Mt) (k : Nat) (hk : k ≤ d.length) : (gapFold (d.take k)).1.length ≤ k := by
  induction k with
  | zero => simp [gapFold]
  | succ k ih =>
    have hx := List.getElem?_eq_getElem (l := d) (i := k) (by omega)
    rw [gapFold_snoc hx, gapStep]
    have := ih (by omega)
    simp only []
    split
    · simp; omega
    · omega
def today (day week : Int) (m : Mt) : Bool := !(m.day != day || decide (week < m.first) || decide (m.last < week))
def badDay (day week : Int) : Bool := decide (day < 0) || decide (7 ≤ day) || decide (week < 0) || decide (60 ≤ week)

set_option maxRecDepth 100000 in
set_option maxHeartbeats 4000000 in
theorem free_any (A : Option Addr) (n c : Nat) (l : List Mt) (day week : Int) (w : World) (hl : MSl w w.heap.size A n c l) :
    Calls Try.prog 13 #[.slice A n c, .int .i64 day, .int .i64 week] w fun e w' => Below w.heap.size w w' ∧
      ((checkM l = 220 ∧ e = .returned (.tuple #[.slice none 0 0, .int .i64 220])) ∨
       (checkM l = 0 ∧ badDay day week = true ∧ e = .returned (.tuple #[.slice none 0 0, .int .i64 1])) ∨
       (checkM l = 0 ∧ badDay day week = false ∧ ∃ d v, d.Perm (l.filter (today day week)) ∧ d.Pairwise (fun x y => x.fr ≤ y.fr) ∧ e = .returned (.tuple #[v, .int .i64 0]) ∧ w'.ownsRow w.heap.size 42 2 v (gapsOf d).length ((gapsOf d).flatMap sEnc))) := by
  obtain ⟨i0, hi, hz, hs, hb⟩ := info_parts spInfo
  have HN := hidp hl.1
  have hbox : ∀ W : World, Below w.heap.size w ((w.alloc (.cells #[.int .i64 day] 3)).alloc (.cells #[.int .i64 week] 3)) := fun _ => ((Below.refl _ w).alloc (Nat.le_refl _) _).alloc (by simp) _
  have hd0 : ((w.alloc (.cells #[.int .i64 day] 3)).alloc (.cells #[.int .i64 week] 3)).heap[w.heap.size]? = some (.cells #[.int .i64 day] 3 (0, 0)) :=
    (Below.heap_alloc _ _ _ (by simp)).trans (World.alloc_heap_new w _)
  have hw0 : ((w.alloc (.cells #[.int .i64 day] 3)).alloc (.cells #[.int .i64 week] 3)).heap[w.heap.size + 1]? = some (.cells #[.int .i64 week] 3 (0, 0)) := by
    have := World.alloc_heap_new (w.alloc (.cells #[.int .i64 day] 3)) (.cells #[.int .i64 week] 3)
    simpa using this
  have hl0 := hl.keep mStable (hbox w).size (hbox w).block
  have hB0 := hbox w
  have HD0 := hidp hd0
  have HW0 := hidp hw0
  clear hd0 hw0 hbox
  go_enter Try.func13, Try.ntmps13
  go_wp2_with fail
  refine (check_any _ _ _ _ _ hl0).mono ?_
  rintro e w1 ⟨rfl, hb1⟩
  have hB1 := hB0.trans (hb1.mono hB0.size)
  rcases checkM_cases l with hc | ⟨hc, h16, _, _⟩
  · rw [hc]
    have HC := hidp hc
    clear hc
    go_wp2_with fail
    go_ret2
    exact ⟨hB1, .inl ⟨HC.out, rfl⟩⟩
  · rw [hc]
    have HC := hidp hc
    clear hc
    have hd1 := (hb1.block _ (lt_of_heap HD0.out)).trans HD0.out
    have hw1 := (hb1.block _ (lt_of_heap HW0.out)).trans HW0.out
    have hl1 := hl0.keep mStable hb1.size hb1.block
    have c1 := cell_of_heap (o := 0) hd1
    have c2 := cell_of_heap (o := 0) hw1
    have k1 := lt_of_heap hd1
    have k2 := lt_of_heap hw1
    simp only [List.getElem?_toArray, List.getElem?_cons_zero] at c1 c2
    have HD1 := hidp hd1
    have HW1 := hidp hw1
    clear hd1 hw1 hl0 hb1
    obtain ⟨z1, hz1⟩ : ∃ z, decide (day < 0) = z := ⟨_, rfl⟩
    obtain ⟨z2, hz2⟩ : ∃ z, decide (7 ≤ day) = z := ⟨_, rfl⟩
    obtain ⟨z3, hz3⟩ : ∃ z, decide (week < 0) = z := ⟨_, rfl⟩
    obtain ⟨z4, hz4⟩ : ∃ z, decide (60 ≤ week) = z := ⟨_, rfl⟩
    have HBad : Hid (badDay day week = (z1 || z2 || z3 || z4)) := by show _ = _; rw [badDay, hz1, hz2, hz3, hz4]
    cases z1
    case true =>
      go_wp2_with fail
      go_ret2
      exact ⟨hB1, .inr (.inl ⟨HC.out, HBad.out, rfl⟩)⟩
    cases z2
    case true =>
      go_wp2_with fail
      go_ret2
      exact ⟨hB1, .inr (.inl ⟨HC.out, HBad.out, rfl⟩)⟩
    cases z3
    case true =>
      go_wp2_with fail
      go_ret2
      exact ⟨hB1, .inr (.inl ⟨HC.out, HBad.out, rfl⟩)⟩
    cases z4
    case true =>
      go_wp2_with fail
      go_ret2
      exact ⟨hB1, .inr (.inl ⟨HC.out, HBad.out, rfl⟩)⟩
    have hn16 : n ≤ 16 := by rw [HN.out]; exact h16
    go_wp2_with fail
    clear hz1 hz2 hz3 hz4 c1 c2
    refine (clone_any _ _ _ _ _ hl1 (by omega)).mono ?_
    rintro e w2 ⟨v2, rfl, hown2, -, hb2⟩
    have hB2 := hB1.trans (hb2.mono hB1.size)
    have hd2 := (hb2.block _ k1).trans HD1.out
    have hw2 := (hb2.block _ k2).trans HW1.out
    have HD2 := hidp hd2
    have HW2 := hidp hw2
    have HO2 := hidp hown2
    clear hd2 hw2 hown2
    go_wp2_with fail
    refine (delete_own 23 #[] _ (fun m => m.day != day || decide (week < m.first) || decide (m.last < week)) _ _ _ _ _ HO2.out hb2.size (enters_of Try.func23 (by kernel_rfl) rfl) (by omega) ?_).mono ?_
    · intro m W hbW
      exact free1_any _ _ day week m W ((hbW.block _ k1).trans HD2.out) ((hbW.block _ k2).trans HW2.out)
    rintro e w3 ⟨v3, k3, rfl, hown3, hb3⟩
    have hB3 := hB2.trans (hb3.mono hB1.size)
    have hs3 := Nat.le_trans hb2.size hb3.size
    have HO3 := hidp hown3
    have hk3 : k3 ≤ 16 := by
      rw [own_len mEnc_len (by decide) hown3]
      exact Nat.le_trans (List.length_filter_le _ _) h16
    clear hown3 HO2
    go_wp2_with fail
    refine (sort_own _ _ _ _ _ HO3.out (by omega)).mono ?_
    rintro e w4 ⟨rfl, d, hperm, hpair, hown4, hb4⟩
    have hB4 := hB3.trans (hb4.mono hB1.size)
    obtain ⟨A4, c4, rfl, rd⟩ := own_rows mEnc_len (by decide) hown4
    have HP := hidp hperm
    have HS := hidp hpair
    have HL := hidp rd.1
    have hcap4 := rd.2.2.1
    have hcap4' := rd.2.1
    clear hperm hpair hown4 HO3 HD1 HD2 HW1 HW2 HD0 HW0 k1 k2 hb2 hb3 hl1
    go_wp2_with fail
    go_loopw [6, 10, 12, 40] (fun x f _ i wr => ∃ (k : Nat), k ≤ k3 ∧ i = .int .i64 k ∧ f = .int .i64 (gapFold (d.take k)).2 ∧ wr.ownsRow w4.heap.size 42 2 x (gapFold (d.take k)).1.length ((gapFold (d.take k)).1.flatMap sEnc) ∧ Below w4.heap.size w4 wr) (fun _ _ _ i _ => k3 - (intOf i).toNat)
    case atStart => exact ⟨0, by omega, rfl, rfl, World.ownsRow_nil _ _ _ _, Below.refl _ _⟩
    case round =>
      obtain ⟨k, hk, rfl, rfl, hown, hbe⟩ := hrel
      obtain ⟨acc, hacc⟩ : ∃ acc, (gapFold (d.take k)).1 = acc := ⟨_, rfl⟩
      obtain ⟨f, hf⟩ : ∃ f, (gapFold (d.take k)).2 = f := ⟨_, rfl⟩
      rw [hacc] at hown
      rw [hf]
      have hal : acc.length ≤ 16 := by rw [← hacc]; exact Nat.le_trans (gapFold_len d k (by rw [← HL.out]; omega)) (by omega)
      have HAcc := hidp hacc
      have HF := hidp hf
      clear hacc hf
      by_cases hlt : k < k3
      · obtain ⟨b, off, m, rfl, hb', hzk, d0, d1, d2, d3, d4⟩ := MSl.get (rd.below mStable hbe) hlt
        have hbb := lt_of_cell d0
        have HZ := hidp hzk
        have hstep := gapFold_snoc hzk
        have HStep := hidp hstep
        clear hzk hstep
        have hbA : Below w4.heap.size w4 (wr.alloc (.cells (mEnc m).toArray 38)) := hbe.alloc hbe.size _
        obtain ⟨v', w5, hrun, hown5, hg, hat⟩ := run_append_one (P := Try.prog) (ty := 28) (enc := sEnc) (w := wr.alloc (.cells (mEnc m).toArray 38)) (base := w4.heap.size) Try.underlying28 hi hz hs hb rfl sEnc_len (by decide) sEnc_one (hown.alloc _) (f, m.fr) (by omega) (by omega) (by have := hbe.size; simp; omega)
        have hnew := (Below.heap_alloc (wr.alloc (.cells (mEnc m).toArray 38)) (.cells (sEnc (f, m.fr)).toArray 42) _ (by simp)).trans (World.alloc_heap_new wr (.cells (mEnc m).toArray 38))
        have hbox5 : w5.heap[wr.heap.size]? = some (.cells (mEnc m).toArray 38 (0, 0)) := by
          rw [hg.block wr.heap.size (by simp; omega) (fun e => by have := (hown.lt _ e.symm).2; omega)]
          exact hnew
        have hbx := World.alloc_heap_new wr (.cells (mEnc m).toArray 38)
        have x1 := cell_of_heap (o := 1) hbx
        have x2 := cell_of_heap (o := 2) hbx
        have y2 := cell_of_heap (o := 2) hbox5
        have hB5 : Below w4.heap.size w4 w5 := (hbA.alloc (by have := hbe.size; simp; omega) _).grown hg (by have := hbe.size; simp; omega) (fun g hg => (hown.lt g hg).1)
        have hbl5 := lt_of_heap hbox5
        simp only [mEnc, List.getElem?_toArray, List.getElem?_cons_zero, List.getElem?_cons_succ] at x1 x2 y2
        have HO5 := hidp hown5
        have HOwn := hidp hown
        clear hown5 hown hbx hbox5 hnew hg hat
        simp only [World.size_alloc, mEnc, sEnc] at hrun
        by_cases hfm : f < m.fr
        · go_wp2_with (at_builtin; refine wpList_append_known rfl (.tmp 48) (.tmp 53) 28 rfl rfl rfl hrun ?_)
          go_roundw
          case rel =>
            refine ⟨k + 1, by omega, by go_num, ?_, ?_, hB5⟩
            · rw [HStep.out, gapStep]
            · rw [HStep.out, gapStep, HAcc.out, HF.out, if_pos hfm]
              simpa using HO5.out
          case measure => simp [intOf]; omega
        · go_wp2_with fail
          go_roundw
          case rel =>
            refine ⟨k + 1, by omega, by go_num, ?_, ?_, hbA⟩
            · rw [HStep.out, gapStep]
            · rw [HStep.out, gapStep, HAcc.out, HF.out, if_neg hfm]
              exact HOwn.out.alloc _
          case measure => simp [intOf]; omega
      · obtain rfl : k3 = k := by omega
        have hdk : d.take k3 = d := List.take_of_length_le (by rw [← HL.out]; exact Nat.le_refl _)
        rw [hdk] at HAcc HF
        obtain ⟨v', w5, hrun, hown5, hg, hat⟩ := run_append_one (P := Try.prog) (ty := 28) (enc := sEnc) (w := wr) (base := w4.heap.size) Try.underlying28 hi hz hs hb rfl sEnc_len (by decide) sEnc_one hown (f, 1440) (by omega) (by omega) hbe.size
        have hB5 : Below w4.heap.size w4 w5 := (hbe.alloc hbe.size _).grown hg (by have := hbe.size; simp; omega) (fun g hg => (hown.lt g hg).1)
        have hs4 := hB4.size
        have HO5 := hidp (own_mono hown5 hs4)
        have HOwn := hidp (own_mono hown hs4)
        have hout : Hid (gapsOf d = if f < 1440 then acc ++ [(f, 1440)] else acc) := by show _ = _; rw [gapsOf, HAcc.out, HF.out]
        clear hown5 hown hg hat hdk
        simp only [sEnc] at hrun
        by_cases hf : f < 1440
        · go_wp2_with (at_builtin; refine wpList_append_known rfl (.tmp 60) (.tmp 63) 28 rfl rfl rfl hrun ?_)
          go_ret2
          refine ⟨hB4.trans (hB5.mono hs4), .inr (.inr ⟨HC.out, HBad.out, d, v', HP.out, HS.out, rfl, ?_⟩)⟩
          · rw [hout.out, if_pos hf]
            simpa using HO5.out
        · go_wp2_with fail
          go_ret2
          refine ⟨hB4.trans (hbe.mono hs4), .inr (.inr ⟨HC.out, HBad.out, d, HP.out, HS.out, _, rfl, ?_⟩)⟩
          · rw [hout.out, if_neg (by omega)]
            exact HOwn.out
end Go.Proofs.Ytefjigjjanjlkaa
