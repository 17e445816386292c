/- rules.parts: its iterator walked. -/
import Derived.Test.YtbmbpannhncpjaaDoorU4
import Derived.OwnWalkIn
import Derived.TacticsInMore
import Derived.LoopNIn
import Derived.LoopIn
namespace Go.Proofs.YtbmbpannhncpjaaDoor
open Go.RowKit Go.Sort
attribute [local go_sem] Oper.semAt_some

def duEnc (x : DRu) : Array Value := #[.int .i64 x.1, .agg #[.int .i64 x.2.op, .int .i64 x.2.course, .string x.2.name, .int .i64 x.2.n, .int .i64 x.2.d, .slice x.2.kA x.2.kn x.2.kc]]
/-- What a walk does with what a round has left. -/
def WalkPost (J : List DRu → (Nat → Prop) → World → Prop) (Jx : (Nat → Prop) → World → Prop) (ys : List DRu) (C1 : Nat → Prop) (W1 : World) (e : Ending) (W2 : World) : Prop :=
  ∃ C2, Kept C1 W1 W2 ∧ (∀ b, C2 b → b < W2.heap.size ∧ (C1 b ∨ W1.heap.size ≤ b)) ∧ ((e = .returned (.bool true) ∧ J ys C2 W2) ∨ (e = .returned (.bool false) ∧ Jx C2 W2))

/-- Two steps of which each may write what it has made. -/
theorem kept_two {C1 C2 : Nat → Prop} {A B D : World} (h1 : Kept C1 A B) (hC : ∀ b, C2 b → b < B.heap.size ∧ (C1 b ∨ A.heap.size ≤ b)) (h2 : Kept C2 B D) : Kept C1 A D :=
  ⟨h2.os.trans h1.os, h2.tape.trans h1.tape, h2.output.trans h1.output, Nat.le_trans h1.size h2.size, fun b hb hn => (h2.block b (Nat.lt_of_lt_of_le hb h1.size) (fun hc => by
    rcases (hC b hc).2 with h | h
    · exact hn h
    · omega)).trans (h1.block b hb hn)⟩
theorem sub_two {C1 C2 C3 : Nat → Prop} {A B D : World} (h1 : Kept C1 A B) (hC : ∀ b, C2 b → b < B.heap.size ∧ (C1 b ∨ A.heap.size ≤ b)) (hC' : ∀ b, C3 b → b < D.heap.size ∧ (C2 b ∨ B.heap.size ≤ b)) : ∀ b, C3 b → b < D.heap.size ∧ (C1 b ∨ A.heap.size ≤ b) := fun b hb => by
  refine ⟨(hC' b hb).1, ?_⟩
  rcases (hC' b hb).2 with h | h
  · exact (hC b h).2
  · exact .inr (Nat.le_trans h1.size h)

section
variable (Bw n₀ l : Nat) (w W : World) (J : List DRu → (Nat → Prop) → World → Prop) (Jx : (Nat → Prop) → World → Prop) (xs : List DRu)

set_option maxRecDepth 100000 in
set_option maxHeartbeats 4000000 in
theorem walk_any (hfun : w.cell? ⟨Bw, 0, none⟩ = some (.func (.func 51) #[] #[.pointer (some ⟨Bw, 0, none⟩)]))
    (hJ : ∀ pre C1 W1 W2, J pre C1 W1 → Kept (fun b => W.heap.size ≤ b ∧ ¬ C1 b) W1 W2 → J pre C1 W2)
    (hY : ∀ m pre x suf C1 W1, xs = pre ++ x :: suf → J pre C1 W1 → YieldAt Fence.wide m Tryd.prog l (duEnc x) W1 (WalkPost J Jx (pre ++ [x]) C1 W1)) :
    ∀ (h : Nat) (x : Ru) (dep : Int) (pre suf : List DRu) (C1 : Nat → Prop) (wa : World), RuIn h w n₀ x → xs = pre ++ partsD dep x ++ suf → J pre C1 wa → SeqSt (fun q => q < n₀ ∨ q = Bw) w W C1 wa →
      Calls Tryd.prog 51 #[.agg #[.int .i64 x.op, .int .i64 x.course, .string x.name, .int .i64 x.n, .int .i64 x.d, .slice x.kA x.kn x.kc], .int .i64 dep, .func (.yield l) #[] #[], .pointer (some ⟨Bw, 0, none⟩)] wa (WalkPost J Jx (pre ++ partsD dep x) C1 wa) := by
  intro h
  induction h using Nat.strongRecOn with
  | _ h ih =>
    intro x dep pre suf C1 wa hr hxs hj hst
    refine (callsIn_wide (n := 0)).1 (callsIn_of_wp Tryd.func51 rfl trivial ?_ rfl)
    simp only [Tryd.ntmps51, List.size_toArray, List.length_cons, List.length_nil, Nat.reduceAdd, Nat.reduceSub, Array.replicate_succ, Array.replicate_zero, List.push_toArray, List.append_toArray, List.nil_append, List.cons_append]
    obtain ⟨W0, hW0⟩ : ∃ W0, wa.alloc (.cells #[.int .i64 x.op, .int .i64 x.course, .string x.name, .int .i64 x.n, .int .i64 x.d, .slice x.kA x.kn x.kc] 24) = W0 := ⟨_, rfl⟩
    have g1 : W0.heap[wa.heap.size]? = some (.cells #[.int .i64 x.op, .int .i64 x.course, .string x.name, .int .i64 x.n, .int .i64 x.d, .slice x.kA x.kn x.kc] 24 (0, 0)) := hW0 ▸ World.alloc_heap_new _ _
    have hk0 : ∀ M, Kept M wa W0 := fun M => hW0 ▸ (Kept.refl M wa).alloc _
    have hst0 : SeqSt (fun q => q < n₀ ∨ q = Bw) w W C1 W0 := hW0 ▸ hst.alloc _
    have hJ0 := hJ _ _ _ _ hj (hk0 _)
    have hgC : ¬ C1 wa.heap.size := fun hc => by have := hst.lt _ hc; omega
    have x0 := cell_of_heap (o := 0) g1
    have x1 := cell_of_heap (o := 1) g1
    have x2 := cell_of_heap (o := 2) g1
    have x3 := cell_of_heap (o := 3) g1
    have x4 := cell_of_heap (o := 4) g1
    have x5 := cell_of_heap (o := 5) g1
    simp only [List.getElem?_toArray, List.getElem?_cons_zero, List.getElem?_cons_succ] at x0 x1 x2 x3 x4 x5
    have hlt0 := lt_of_heap g1
    obtain ⟨fn, tmps, assign, body, hy, hR⟩ := hY 0 pre (dep, x) (partsL (wrap64 (dep + 1)) x.kids ++ suf) C1 W0 (by rw [hxs, partsD_eq]; simp) hJ0
    simp only [duEnc] at hy
    have HY := hidp hY
    have HJ := hidp hJ
    have HI := hidp ih
    have HW0 := hidp hW0
    have G1 := hidp g1
    have HX := hidp hxs
    clear hY hJ ih hW0 g1 hxs hj hst
    gi_wp2_with fail
    rw [HW0.out]
    gi_wp2
    rw [hy]
    refine ⟨fun h => by simp [Fence.wide] at h, hR.mono ?_⟩
    rintro e W3 ⟨C3, hk3, hC3, (⟨rfl, hJ3⟩ | ⟨rfl, hJx3⟩)⟩
    · have hmine := SeqSt.mine hk3 hC3 G1.out hgC
      have hst3 := hst0.round hk3 hC3
      have y5 := cell_of_heap (o := 5) hmine.1
      simp only [List.getElem?_toArray, List.getElem?_cons_zero, List.getElem?_cons_succ] at y5
      have HN := hidp hr.len
      have hcap := hr.2.2.1
      have hlen := hr.2.1
      have HFun := hidp hfun
      have HP : Hid (∀ k y, x.kids[k]? = some y → xs = (pre ++ (dep, x) :: partsL (wrap64 (dep + 1)) (x.kids.take k)) ++ partsD (wrap64 (dep + 1)) y ++ (partsL (wrap64 (dep + 1)) (x.kids.drop (k + 1)) ++ suf)) := by
        intro k y hy
        rw [HX.out, partsD_eq, partsL_split hy]
        simp
      clear x0 x1 x2 x3 x4 x5 hfun hy hR HX hJ0
      gi_wp2_with fail
      gi_loopw [18] (fun i wr => ∃ (k : Nat) (Cq : Nat → Prop), k ≤ x.kn ∧ i = .int .i64 k ∧ Kept C3 W3 wr ∧ (∀ b, Cq b → b < wr.heap.size ∧ (C3 b ∨ W3.heap.size ≤ b)) ∧ J (pre ++ (dep, x) :: partsL (wrap64 (dep + 1)) (x.kids.take k)) Cq wr) (fun i _ => x.kn - (intOf i).toNat)
      case atStart => exact ⟨0, C3, by omega, rfl, Kept.refl _ _, fun b hb => ⟨hst3.lt b hb, .inl hb⟩, by simpa [partsL] using hJ3⟩
      case round =>
        obtain ⟨k, Cq, hk, rfl, hkq, hCq, hJq⟩ := hrel
        have hstq := hst3.round hkq hCq
        by_cases hlt : k < x.kn
        · have hrq : RuIn h wr n₀ x := hr.keep (Nat.le_refl _) fun b hb => (hstq.reads b (.inl hb)).2.1
          obtain ⟨h', b, off, y, rfl, he, hb, hky, hry, c0, c1, c2, c3, c4, c5⟩ := hrq.get hlt
          have cf := (hstq.cell (b := Bw) (o := 0) (.inr rfl)).trans HFun.out
          have lb := lt_of_cell c0
          have lf := lt_of_cell cf
          obtain ⟨W4, hW4⟩ : ∃ W4, wr.alloc (.cells #[.int .i64 y.op, .int .i64 y.course, .string y.name, .int .i64 y.n, .int .i64 y.d, .slice y.kA y.kn y.kc] 24) = W4 := ⟨_, rfl⟩
          have HC := hidp (HI.out h' (Nat.lt_succ_self _) y (wrap64 (dep + 1)) (pre ++ (dep, x) :: partsL (wrap64 (dep + 1)) (x.kids.take k)) _ Cq W4 (hry.keep (Nat.le_refl _) fun b hb => (hstq.reads b (.inl hb)).2.1.symm) (HP.out k y hky) (HJ.out _ _ _ _ hJq (hW4 ▸ (Kept.refl _ _).alloc _)) (hW4 ▸ hstq.alloc _))
          have HW4 := hidp hW4
          have HK4 := hidp (show Kept Cq wr W4 from hW4 ▸ (Kept.refl _ _).alloc _)
          have HS : Hid (partsL (wrap64 (dep + 1)) (x.kids.take (k + 1)) = partsL (wrap64 (dep + 1)) (x.kids.take k) ++ partsD (wrap64 (dep + 1)) y) := partsL_step hky
          have hkn : (k : Int) < x.kn := by omega
          have HKQ := hidp hkq
          have HCQ := hidp hCq
          rw [he]
          have HE := hidp he
          clear hW4 hky hry hJq hstq hrq hJ3 hkq hCq he y5
          gi_wp2_with fail
          rw [HW4.out]
          refine ⟨trivial, rfl, callsIn_wide.2 (HC.out.mono ?_)⟩
          rintro e W5 ⟨C5, hk5, hC5, (⟨rfl, hJ5⟩ | ⟨rfl, hJx5⟩)⟩
          · have hk45 := (HK4.out).trans hk5
            have hC45 : ∀ b, C5 b → b < W5.heap.size ∧ (Cq b ∨ wr.heap.size ≤ b) := fun b hb => ⟨(hC5 b hb).1, (hC5 b hb).2.imp id fun h => Nat.le_trans HK4.out.size h⟩
            have hkf := kept_two HKQ.out HCQ.out hk45
            have hCf := sub_two HKQ.out HCQ.out hC45
            have HJ5 := hidp hJ5
            clear hJ5 hk5 hC5
            gi_wp2_with fail
            go_roundw
            case rel => exact ⟨k + 1, C5, by omega, by go_num, hkf, hCf, by rw [HS.out]; simpa using HJ5.out⟩
            case measure => simp [intOf]; omega
          · have hk45 := (HK4.out).trans hk5
            have hC45 : ∀ b, C5 b → b < W5.heap.size ∧ (Cq b ∨ wr.heap.size ≤ b) := fun b hb => ⟨(hC5 b hb).1, (hC5 b hb).2.imp id fun h => Nat.le_trans HK4.out.size h⟩
            have hkf := kept_two HKQ.out HCQ.out hk45
            have hCf := sub_two HKQ.out HCQ.out hC45
            have hkg := kept_two ((hk0 C1).trans hk3) (fun b hb => ⟨(hC3 b hb).1, (hC3 b hb).2.imp id fun h => Nat.le_trans (hk0 C1).size h⟩) hkf
            have hCg := sub_two ((hk0 C1).trans hk3) (fun b hb => ⟨(hC3 b hb).1, (hC3 b hb).2.imp id fun h => Nat.le_trans (hk0 C1).size h⟩) hCf
            have HJX := hidp hJx5
            clear hJx5 hk5 hC5 hkf hCf hk45 hC45
            gi_wp2_with fail
            go_ret
            exact ⟨C5, hkg, hCg, .inr ⟨rfl, HJX.out⟩⟩
        · obtain rfl : k = x.kn := by omega
          have HD : Hid (pre ++ (dep, x) :: partsL (wrap64 (dep + 1)) (x.kids.take x.kn) = pre ++ partsD dep x) := by show _ = _; rw [HN.out, List.take_length, partsD_eq]
          rw [HD.out] at hJq
          have hkf := kept_two ((hk0 C1).trans hk3) (fun b hb => ⟨(hC3 b hb).1, (hC3 b hb).2.imp id fun h => Nat.le_trans (hk0 C1).size h⟩) hkq
          have hCf := sub_two ((hk0 C1).trans hk3) (fun b hb => ⟨(hC3 b hb).1, (hC3 b hb).2.imp id fun h => Nat.le_trans (hk0 C1).size h⟩) hCq
          have HJQ := hidp hJq
          clear hJq hkq hCq HD
          gi_wp2_with fail
          go_ret
          exact ⟨Cq, hkf, hCf, .inl ⟨rfl, HJQ.out⟩⟩
    · clear hy hR x0 x1 x2 x3 x4 x5 hfun
      have hkf := (hk0 C1).trans hk3
      have hCf : ∀ b, C3 b → b < W3.heap.size ∧ (C1 b ∨ wa.heap.size ≤ b) := fun b hb => ⟨(hC3 b hb).1, (hC3 b hb).2.imp id fun h => Nat.le_trans (hk0 C1).size h⟩
      have HJX := hidp hJx3
      clear hJx3
      gi_wp2_with fail
      go_ret
      exact ⟨C3, hkf, hCf, .inr ⟨rfl, HJX.out⟩⟩
end

set_option maxRecDepth 100000 in
set_option maxHeartbeats 1000000 in
theorem parts2_seq (Bw Br n₀ h : Nat) (x : Ru) (w : World) (hfun : w.cell? ⟨Bw, 0, none⟩ = some (.func (.func 51) #[] #[.pointer (some ⟨Bw, 0, none⟩)]))
    (hrule : w.heap[Br]? = some (.cells #[.int .i64 x.op, .int .i64 x.course, .string x.name, .int .i64 x.n, .int .i64 x.d, .slice x.kA x.kn x.kc] 24 (0, 0))) (hr : RuIn h w n₀ x) :
    SeqC Tryd.prog 52 #[.pointer (some ⟨Bw, 0, none⟩), .pointer (some ⟨Br, 0, none⟩)] duEnc (partsD 1 x) (fun q => q < n₀ ∨ q = Bw ∨ q = Br) w := by
  intro li J Jx C W hS hC hJ hJx hY h0
  have hst : SeqSt (fun q => q < n₀ ∨ q = Bw ∨ q = Br) w W C W := SeqSt.start hS hC
  have hst' : SeqSt (fun q => q < n₀ ∨ q = Bw) w W C W := ⟨fun b hb => hst.reads b (by rcases hb with h | h; exact .inl h; exact .inr (.inl h)), hst.lt, hst.size⟩
  have hw := walk_any Bw n₀ li w W J Jx (partsD 1 x) hfun hJ (fun m pre x suf C1 W1 h1 h2 => hY m pre x suf C1 W1 h1 h2) h x 1 [] [] C W hr (by simp) h0 hst'
  have hB : W.heap[Br]? = some (.cells #[.int .i64 x.op, .int .i64 x.course, .string x.name, .int .i64 x.n, .int .i64 x.d, .slice x.kA x.kn x.kc] 24 (0, 0)) := (hst.reads Br (.inr (.inr rfl))).2.1.trans hrule
  have cf := (hst.cell (b := Bw) (o := 0) (.inr (.inl rfl))).trans hfun
  have x0 := cell_of_heap (o := 0) hB
  have x1 := cell_of_heap (o := 1) hB
  have x2 := cell_of_heap (o := 2) hB
  have x3 := cell_of_heap (o := 3) hB
  have x4 := cell_of_heap (o := 4) hB
  have x5 := cell_of_heap (o := 5) hB
  simp only [List.getElem?_toArray, List.getElem?_cons_zero, List.getElem?_cons_succ] at x0 x1 x2 x3 x4 x5
  have HW := hidp hw
  clear hS hC hJ hJx hY h0 hst hst' hw hfun hrule hr hB
  show Calls Tryd.prog 52 #[.func (.yield li) #[] #[], .pointer (some ⟨Bw, 0, none⟩), .pointer (some ⟨Br, 0, none⟩)] W _
  go_enter Tryd.func52, Tryd.ntmps52
  go_wp2_with fail
  refine HW.out.mono ?_
  rintro e W5 ⟨C5, hk5, hC5, hcase⟩
  have HC : Hid ((e = Ending.returned (.bool true) ∧ J (partsD 1 x) C5 W5) ∨ (e = Ending.returned (.bool false) ∧ Jx C5 W5)) := hcase
  have HF : Hid (∃ C', J (partsD 1 x) C' W5 ∨ Jx C' W5) := ⟨C5, HC.out.imp (·.2) (·.2)⟩
  have he : ∃ b : Bool, e = Ending.returned (.bool b) := by
    rcases HC.out with ⟨h, _⟩ | ⟨h, _⟩
    · exact ⟨_, h⟩
    · exact ⟨_, h⟩
  obtain ⟨b, rfl⟩ := he
  clear hk5 hC5 hcase HC
  go_wp2_with fail
  go_end0
  exact ⟨⟨_, rfl⟩, HF.out⟩

/-- A rule in its cells. -/
def ruCells (x : Ru) : Obj := .cells #[.int .i64 x.op, .int .i64 x.course, .string x.name, .int .i64 x.n, .int .i64 x.d, .slice x.kA x.kn x.kc] 24
set_option maxHeartbeats 400000 in
theorem uparts_any (x : Ru) (w : World) :
    Calls Tryd.prog 34 #[.agg #[.int .i64 x.op, .int .i64 x.course, .string x.name, .int .i64 x.n, .int .i64 x.d, .slice x.kA x.kn x.kc]] w
      fun e w' => e = .returned (.func (.func 52) #[] #[.pointer (some ⟨w.heap.size + 1, 0, none⟩), .pointer (some ⟨w.heap.size, 0, none⟩)]) ∧
        (w.alloc (ruCells x)).alloc (.cells #[.func (.func 51) #[] #[.pointer (some ⟨w.heap.size + 1, 0, none⟩)]] 82) = w' := by
  go_enter Tryd.func34, Tryd.ntmps34
  go_wp2
  go_ret
  exact ⟨rfl, rfl⟩
end Go.Proofs.YtbmbpannhncpjaaDoor
