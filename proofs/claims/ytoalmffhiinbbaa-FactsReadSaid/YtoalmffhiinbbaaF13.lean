/- facts.At walked. -/
import Derived.Test.YtoalmffhiinbbaaF12
namespace Go.Proofs.Ytoalmffhiinbbaa
open Go.RowKit Go.Shelf
attribute [local go_sem] Oper.semAt_some

theorem heap_set {w : World} {b : Nat} {cs : Array Value} {t : TypeId} {fr : Nat × Nat} (h : w.heap[b]? = some (.cells cs t fr)) (o : Nat) (u : Value) : (w.setCell ⟨b, o, none⟩ u).heap[b]? = some (.cells (cs.setIfInBounds o u) t fr) := by
  simp [World.setCell, Array.getElem?_modify, h]
theorem heap_set_ne {w : World} {b b' : Nat} {ob : Option Obj} (h : w.heap[b]? = ob) (hne : b ≠ b') (o : Nat) (u : Value) : (w.setCell ⟨b', o, none⟩ u).heap[b]? = ob := (Below.heap_setCell w ⟨b', o, none⟩ u b hne).trans h

/-- What 'best' and 'some' hold. -/
def Bst (b : Option Fc) (sm : Bool) (f : Fc) : Prop := (sm = false ∧ b = none) ∨ (sm = true ∧ b = some f)
theorem Bst.none (f : Fc) : Bst none false f := .inl ⟨rfl, rfl⟩
theorem Bst.some (f : Fc) : Bst (some f) true f := .inr ⟨rfl, rfl⟩
theorem better_no {t : Int} {b : Option Fc} {x : Fc} (h : x.at t = false) : better t b x = b := by simp [better, h]
theorem better_new {t : Int} {x : Fc} (h : x.at t = true) : better t none x = some x := by simp [better, h]
theorem better_old {t : Int} {x f : Fc} (h : x.at t = true) (hb : x.bef f = true) : better t (some f) x = some f := by simp [better, h, hb]
theorem better_up {t : Int} {x f : Fc} (h : x.at t = true) (hb : x.bef f = false) : better t (some f) x = some x := by simp [better, h, hb]
theorem bst_no {pre : List Fc} {t : Int} {sm : Bool} {f x : Fc} (h : Bst (bestF pre t) sm f) (hx : x.at t = false) : Bst (bestF (pre ++ [x]) t) sm f := by
  rw [bestF_snoc, better_no hx]; exact h
theorem bst_new {pre : List Fc} {t : Int} {f x : Fc} (h : Bst (bestF pre t) false f) (hx : x.at t = true) : Bst (bestF (pre ++ [x]) t) true x := by
  rcases h with ⟨_, h⟩ | ⟨h, _⟩
  · rw [bestF_snoc, h, better_new hx]; exact Bst.some x
  · cases h
theorem bst_up {pre : List Fc} {t : Int} {f x : Fc} (h : Bst (bestF pre t) true f) (hx : x.at t = true) (hb : x.bef f = false) : Bst (bestF (pre ++ [x]) t) true x := by
  rcases h with ⟨h, _⟩ | ⟨_, h⟩
  · cases h
  · rw [bestF_snoc, h, better_up hx hb]; exact Bst.some x
theorem bst_old {pre : List Fc} {t : Int} {f x : Fc} (h : Bst (bestF pre t) true f) (hx : x.at t = true) (hb : x.bef f = true) : Bst (bestF (pre ++ [x]) t) true f := by
  rcases h with ⟨h, _⟩ | ⟨_, h⟩
  · cases h
  · rw [bestF_snoc, h, better_old hx hb]; exact Bst.some f
theorem at_false1 {x : Fc} {t : Int} (h : decide (x.fr ≤ t) = false) : x.at t = false := by simp [Fc.at, h]
theorem at_false2 {x : Fc} {t : Int} (h : decide (t < x.to) = false) : x.at t = false := by simp [Fc.at, h]
theorem at_true {x : Fc} {t : Int} (h : decide (x.fr ≤ t) = true) (h2 : decide (t < x.to) = true) : x.at t = true := by simp [Fc.at, h, h2]

/-- A fact is stored into 'best', true into 'some'. -/
theorem at_store {w W2 : World} {B1 B2 B3 : Nat} {f x : Fc} {o1 : Option Obj} {sm : Bool} (h1 : W2.heap[B1]? = o1) (h2 : W2.heap[B2]? = some (.cells #[.int .i64 f.key.kind, .int .i64 f.key.subj, .int .i64 f.key.obj, .int .i64 f.val, .int .i64 f.fr, .int .i64 f.to, .int .i64 f.known, .int .i64 f.no] 28 (0, 0))) (h3 : W2.heap[B3]? = some (.cells #[.bool sm] 4 (0, 0)))
    (hb : Below w.heap.size w W2) (h12 : B1 ≠ B2) (h13 : B1 ≠ B3) (h23 : B2 ≠ B3) (hB2 : w.heap.size ≤ B2) (hB3 : w.heap.size ≤ B3) :
    Kept (fun b => b = B2 ∨ b = B3) W2 (((((((((W2.setCell ⟨B2, 0, none⟩ (.int .i64 x.key.kind)).setCell ⟨B2, 1, none⟩ (.int .i64 x.key.subj)).setCell ⟨B2, 2, none⟩ (.int .i64 x.key.obj)).setCell ⟨B2, 3, none⟩ (.int .i64 x.val)).setCell ⟨B2, 4, none⟩ (.int .i64 x.fr)).setCell ⟨B2, 5, none⟩ (.int .i64 x.to)).setCell ⟨B2, 6, none⟩ (.int .i64 x.known)).setCell ⟨B2, 7, none⟩ (.int .i64 x.no)).setCell ⟨B3, 0, none⟩ (.bool true)) ∧ (((((((((W2.setCell ⟨B2, 0, none⟩ (.int .i64 x.key.kind)).setCell ⟨B2, 1, none⟩ (.int .i64 x.key.subj)).setCell ⟨B2, 2, none⟩ (.int .i64 x.key.obj)).setCell ⟨B2, 3, none⟩ (.int .i64 x.val)).setCell ⟨B2, 4, none⟩ (.int .i64 x.fr)).setCell ⟨B2, 5, none⟩ (.int .i64 x.to)).setCell ⟨B2, 6, none⟩ (.int .i64 x.known)).setCell ⟨B2, 7, none⟩ (.int .i64 x.no)).setCell ⟨B3, 0, none⟩ (.bool true)).heap[B1]? = o1 ∧ (((((((((W2.setCell ⟨B2, 0, none⟩ (.int .i64 x.key.kind)).setCell ⟨B2, 1, none⟩ (.int .i64 x.key.subj)).setCell ⟨B2, 2, none⟩ (.int .i64 x.key.obj)).setCell ⟨B2, 3, none⟩ (.int .i64 x.val)).setCell ⟨B2, 4, none⟩ (.int .i64 x.fr)).setCell ⟨B2, 5, none⟩ (.int .i64 x.to)).setCell ⟨B2, 6, none⟩ (.int .i64 x.known)).setCell ⟨B2, 7, none⟩ (.int .i64 x.no)).setCell ⟨B3, 0, none⟩ (.bool true)).heap[B2]? = some (.cells #[.int .i64 x.key.kind, .int .i64 x.key.subj, .int .i64 x.key.obj, .int .i64 x.val, .int .i64 x.fr, .int .i64 x.to, .int .i64 x.known, .int .i64 x.no] 28 (0, 0)) ∧ (((((((((W2.setCell ⟨B2, 0, none⟩ (.int .i64 x.key.kind)).setCell ⟨B2, 1, none⟩ (.int .i64 x.key.subj)).setCell ⟨B2, 2, none⟩ (.int .i64 x.key.obj)).setCell ⟨B2, 3, none⟩ (.int .i64 x.val)).setCell ⟨B2, 4, none⟩ (.int .i64 x.fr)).setCell ⟨B2, 5, none⟩ (.int .i64 x.to)).setCell ⟨B2, 6, none⟩ (.int .i64 x.known)).setCell ⟨B2, 7, none⟩ (.int .i64 x.no)).setCell ⟨B3, 0, none⟩ (.bool true)).heap[B3]? = some (.cells #[.bool true] 4 (0, 0)) ∧ Below w.heap.size w (((((((((W2.setCell ⟨B2, 0, none⟩ (.int .i64 x.key.kind)).setCell ⟨B2, 1, none⟩ (.int .i64 x.key.subj)).setCell ⟨B2, 2, none⟩ (.int .i64 x.key.obj)).setCell ⟨B2, 3, none⟩ (.int .i64 x.val)).setCell ⟨B2, 4, none⟩ (.int .i64 x.fr)).setCell ⟨B2, 5, none⟩ (.int .i64 x.to)).setCell ⟨B2, 6, none⟩ (.int .i64 x.known)).setCell ⟨B2, 7, none⟩ (.int .i64 x.no)).setCell ⟨B3, 0, none⟩ (.bool true)) := by
  have a0 := heap_set_ne h1 h12 0 (.int .i64 x.key.kind)
  have b0 := heap_set h2 0 (.int .i64 x.key.kind)
  have c0 := heap_set_ne h3 (Ne.symm h23) 0 (.int .i64 x.key.kind)
  have k0 := (Kept.refl (fun b => b = B2 ∨ b = B3) W2).setCell (p := ⟨B2, 0, none⟩) (.inl (.inl rfl)) (.int .i64 x.key.kind)
  have l0 := hb.setCell (p := ⟨B2, 0, none⟩) hB2 (.int .i64 x.key.kind)
  have a1 := heap_set_ne a0 h12 1 (.int .i64 x.key.subj)
  have b1 := heap_set b0 1 (.int .i64 x.key.subj)
  have c1 := heap_set_ne c0 (Ne.symm h23) 1 (.int .i64 x.key.subj)
  have k1 := k0.setCell (p := ⟨B2, 1, none⟩) (.inl (.inl rfl)) (.int .i64 x.key.subj)
  have l1 := l0.setCell (p := ⟨B2, 1, none⟩) hB2 (.int .i64 x.key.subj)
  have a2 := heap_set_ne a1 h12 2 (.int .i64 x.key.obj)
  have b2 := heap_set b1 2 (.int .i64 x.key.obj)
  have c2 := heap_set_ne c1 (Ne.symm h23) 2 (.int .i64 x.key.obj)
  have k2 := k1.setCell (p := ⟨B2, 2, none⟩) (.inl (.inl rfl)) (.int .i64 x.key.obj)
  have l2 := l1.setCell (p := ⟨B2, 2, none⟩) hB2 (.int .i64 x.key.obj)
  have a3 := heap_set_ne a2 h12 3 (.int .i64 x.val)
  have b3 := heap_set b2 3 (.int .i64 x.val)
  have c3 := heap_set_ne c2 (Ne.symm h23) 3 (.int .i64 x.val)
  have k3 := k2.setCell (p := ⟨B2, 3, none⟩) (.inl (.inl rfl)) (.int .i64 x.val)
  have l3 := l2.setCell (p := ⟨B2, 3, none⟩) hB2 (.int .i64 x.val)
  have a4 := heap_set_ne a3 h12 4 (.int .i64 x.fr)
  have b4 := heap_set b3 4 (.int .i64 x.fr)
  have c4 := heap_set_ne c3 (Ne.symm h23) 4 (.int .i64 x.fr)
  have k4 := k3.setCell (p := ⟨B2, 4, none⟩) (.inl (.inl rfl)) (.int .i64 x.fr)
  have l4 := l3.setCell (p := ⟨B2, 4, none⟩) hB2 (.int .i64 x.fr)
  have a5 := heap_set_ne a4 h12 5 (.int .i64 x.to)
  have b5 := heap_set b4 5 (.int .i64 x.to)
  have c5 := heap_set_ne c4 (Ne.symm h23) 5 (.int .i64 x.to)
  have k5 := k4.setCell (p := ⟨B2, 5, none⟩) (.inl (.inl rfl)) (.int .i64 x.to)
  have l5 := l4.setCell (p := ⟨B2, 5, none⟩) hB2 (.int .i64 x.to)
  have a6 := heap_set_ne a5 h12 6 (.int .i64 x.known)
  have b6 := heap_set b5 6 (.int .i64 x.known)
  have c6 := heap_set_ne c5 (Ne.symm h23) 6 (.int .i64 x.known)
  have k6 := k5.setCell (p := ⟨B2, 6, none⟩) (.inl (.inl rfl)) (.int .i64 x.known)
  have l6 := l5.setCell (p := ⟨B2, 6, none⟩) hB2 (.int .i64 x.known)
  have a7 := heap_set_ne a6 h12 7 (.int .i64 x.no)
  have b7 := heap_set b6 7 (.int .i64 x.no)
  have c7 := heap_set_ne c6 (Ne.symm h23) 7 (.int .i64 x.no)
  have k7 := k6.setCell (p := ⟨B2, 7, none⟩) (.inl (.inl rfl)) (.int .i64 x.no)
  have l7 := l6.setCell (p := ⟨B2, 7, none⟩) hB2 (.int .i64 x.no)
  have a9 := heap_set_ne a7 h13 0 (.bool true)
  have b9 := heap_set_ne b7 h23 0 (.bool true)
  have c9 := heap_set c7 0 (.bool true)
  have k9 := k7.setCell (p := ⟨B3, 0, none⟩) (.inl (.inr rfl)) (.bool true)
  have l9 := l7.setCell (p := ⟨B3, 0, none⟩) hB3 (.bool true)
  refine ⟨k9, a9, ?_, ?_, l9⟩
  · simpa using b9
  · simpa using c9

def AtPost (l : List Fc) (k : Ky) (t known : Int) (w : World) (e : Ending) (w' : World) : Prop := e = .returned (.tuple #[.int .i64 ((atF l k t known).getD 0), .bool (atF l k t known).isSome]) ∧ Below w.heap.size w w'

set_option maxRecDepth 100000 in
set_option maxHeartbeats 1000000 in
theorem fAt_any (A : Option Addr) (n c : Nat) (l : List Fc) (kk : Ky) (t known : Int) (w : World) (hl : fSl w w.heap.size A n c l) :
    Calls Try.prog 18 #[.slice A n c, .agg #[.int .i64 kk.kind, .int .i64 kk.subj, .int .i64 kk.obj], .int .i64 t, .int .i64 known] w (AtPost l kk t known w) := by
  refine calls_of_wp_marks Try.func18 rfl ?_
  simp only [Try.ntmps18, List.size_toArray, List.length_cons, List.length_nil, Nat.reduceAdd, Nat.reduceSub, Array.replicate_succ, Array.replicate_zero, List.push_toArray, List.append_toArray, List.nil_append, List.cons_append]
  obtain ⟨W0, hW0⟩ : ∃ W0, (((w.alloc (.cells #[.int .i64 kk.kind, .int .i64 kk.subj, .int .i64 kk.obj] 24)).alloc (.cells #[.int .i64 t] 3)).alloc (.cells #[.int .i64 0, .int .i64 0, .int .i64 0, .int .i64 0, .int .i64 0, .int .i64 0, .int .i64 0, .int .i64 0] 28)).alloc (.cells #[.bool false] 4) = W0 := ⟨_, rfl⟩
  have hBW : Below w.heap.size w W0 := by rw [← hW0]; exact ((((Below.refl _ w).alloc (Nat.le_refl _) _).alloc (by simp) _).alloc (by simp; omega) _).alloc (by simp; omega) _
  have hz0 : W0.heap.size = w.heap.size + 4 := by rw [← hW0]; simp
  obtain ⟨B1, hB1⟩ : ∃ b, w.heap.size + 1 = b := ⟨_, rfl⟩
  obtain ⟨B2, hB2⟩ : ∃ b, B1 + 1 = b := ⟨_, rfl⟩
  obtain ⟨B3, hB3⟩ : ∃ b, B2 + 1 = b := ⟨_, rfl⟩
  have g1 : W0.heap[B1]? = some (.cells #[.int .i64 t] 3 (0, 0)) := by
    rw [← hW0, Below.heap_alloc _ _ _ (by simp; omega), Below.heap_alloc _ _ _ (by simp; omega)]
    have := World.alloc_heap_new (w.alloc (.cells #[.int .i64 kk.kind, .int .i64 kk.subj, .int .i64 kk.obj] 24)) (.cells #[.int .i64 t] 3)
    rwa [World.size_alloc, hB1] at this
  have g2 : W0.heap[B2]? = some (.cells #[.int .i64 0, .int .i64 0, .int .i64 0, .int .i64 0, .int .i64 0, .int .i64 0, .int .i64 0, .int .i64 0] 28 (0, 0)) := by
    rw [← hW0, Below.heap_alloc _ _ _ (by simp; omega)]
    have := World.alloc_heap_new ((w.alloc (.cells #[.int .i64 kk.kind, .int .i64 kk.subj, .int .i64 kk.obj] 24)).alloc (.cells #[.int .i64 t] 3)) (.cells #[.int .i64 0, .int .i64 0, .int .i64 0, .int .i64 0, .int .i64 0, .int .i64 0, .int .i64 0, .int .i64 0] 28)
    rwa [World.size_alloc, World.size_alloc, hB1, hB2] at this
  have g3 : W0.heap[B3]? = some (.cells #[.bool false] 4 (0, 0)) := by
    rw [← hW0]
    have := World.alloc_heap_new (((w.alloc (.cells #[.int .i64 kk.kind, .int .i64 kk.subj, .int .i64 kk.obj] 24)).alloc (.cells #[.int .i64 t] 3)).alloc (.cells #[.int .i64 0, .int .i64 0, .int .i64 0, .int .i64 0, .int .i64 0, .int .i64 0, .int .i64 0, .int .i64 0] 28)) (.cells #[.bool false] 4)
    rwa [World.size_alloc, World.size_alloc, World.size_alloc, hB1, hB2, hB3] at this
  have HW0 := hidp hW0
  have HZ0 := hidp hz0
  have G1 := hidp g1
  have G2 := hidp g2
  have G3 := hidp g3
  have HB1 := hidp hB1
  have HB2 := hidp hB2
  have HB3 := hidp hB3
  clear hW0 hz0 g1 g2 g3 hB1 hB2 hB3
  go_wp2_with fail
  rw [HW0.out, HB1.out, HB2.out, HB3.out]
  refine (of_any A n c kk known W0).mono ?_
  rintro e w1 ⟨rfl, hw1⟩
  go_wp2_with fail
  have hb1 : w1.heap[W0.heap.size]? = some (.cells #[.slice A n c] 22 (0, 0)) := by
    rw [← hw1, Below.heap_alloc _ _ _ (by simp; omega), Below.heap_alloc _ _ _ (by simp)]; exact World.alloc_heap_new _ _
  have hb2 : w1.heap[W0.heap.size + 1]? = some (.cells #[.int .i64 kk.kind, .int .i64 kk.subj, .int .i64 kk.obj] 24 (0, 0)) := by
    rw [← hw1, Below.heap_alloc _ _ _ (by simp)]
    have := World.alloc_heap_new (W0.alloc (.cells #[.slice A n c] 22)) (.cells #[.int .i64 kk.kind, .int .i64 kk.subj, .int .i64 kk.obj] 24)
    rwa [World.size_alloc] at this
  have hb3 : w1.heap[W0.heap.size + 2]? = some (.cells #[.int .i64 known] 3 (0, 0)) := by
    rw [← hw1]
    have := World.alloc_heap_new ((W0.alloc (.cells #[.slice A n c] 22)).alloc (.cells #[.int .i64 kk.kind, .int .i64 kk.subj, .int .i64 kk.obj] 24)) (.cells #[.int .i64 known] 3)
    rwa [World.size_alloc, World.size_alloc] at this
  have hBe : Below W0.heap.size W0 w1 := by rw [← hw1]; exact (((Below.refl _ W0).alloc (Nat.le_refl _) _).alloc (by simp) _).alloc (by simp; omega) _
  have hz1 : w1.heap.size = W0.heap.size + 3 := by rw [← hw1]; simp
  have k1 := (hBe.block _ (lt_of_heap G1.out)).trans G1.out
  have k2 := (hBe.block _ (lt_of_heap G2.out)).trans G2.out
  have k3 := (hBe.block _ (lt_of_heap G3.out)).trans G3.out
  have hB1w : Below w.heap.size w w1 := hBW.trans (hBe.mono hBW.size)
  have hseq := of1_seq W0.heap.size (W0.heap.size + 1) (W0.heap.size + 2) w.heap.size A n c l kk known w1 (cell_of_heap hb1) hb2 (cell_of_heap hb3) (hl.below fStable hB1w)
  obtain ⟨z0, z0'⟩ : W0.heap.size ≤ w.heap.size + 4 ∧ w.heap.size + 4 ≤ W0.heap.size := by have := HZ0.out; omega
  obtain ⟨y1, y1'⟩ : w.heap.size + 1 ≤ B1 ∧ B1 ≤ w.heap.size + 1 := by have := HB1.out; omega
  obtain ⟨y2, y2'⟩ : B1 + 1 ≤ B2 ∧ B2 ≤ B1 + 1 := by have := HB2.out; omega
  obtain ⟨y3, y3'⟩ : B2 + 1 ≤ B3 ∧ B3 ≤ B2 + 1 := by have := HB3.out; omega
  have K1 := hidp k1
  have K2 := hidp k2
  have K3 := hidp k3
  clear hb1 hb2 hb3 hw1 k1 k2 k3 G1 G2 G3 HW0
  refine wp_rangeM (gf := 53) (lb := #[.pointer (some ⟨W0.heap.size, 0, none⟩), .pointer (some ⟨W0.heap.size + 1, 0, none⟩), .pointer (some ⟨W0.heap.size + 2, 0, none⟩)]) rfl (enters_of Try.func53 (by kernel_rfl) rfl) hseq (fun b => b = B2 ∨ b = B3) ?S (fun _ => rfl) ?M
    (fun pre W => ∃ (sm : Bool) (f : Fc), W.heap[B1]? = some (.cells #[.int .i64 t] 3 (0, 0)) ∧ W.heap[B2]? = some (.cells #[.int .i64 f.key.kind, .int .i64 f.key.subj, .int .i64 f.key.obj, .int .i64 f.val, .int .i64 f.fr, .int .i64 f.to, .int .i64 f.known, .int .i64 f.no] 28 (0, 0)) ∧ W.heap[B3]? = some (.cells #[.bool sm] 4 (0, 0)) ∧ Bst (bestF pre t) sm f ∧ Below w.heap.size w W)
    (fun _ _ => False)
    ?hI ?hIx ?h0 (fun ll pre x a' W => ∃ (B4 : Nat) (sm : Bool) (f : Fc), W.heap[B1]? = some (.cells #[.int .i64 t] 3 (0, 0)) ∧ W.heap[B2]? = some (.cells #[.int .i64 f.key.kind, .int .i64 f.key.subj, .int .i64 f.key.obj, .int .i64 f.val, .int .i64 f.fr, .int .i64 f.to, .int .i64 f.known, .int .i64 f.no] 28 (0, 0)) ∧ W.heap[B3]? = some (.cells #[.bool sm] 4 (0, 0)) ∧ Bst (bestF pre t) sm f ∧ Below w.heap.size w W ∧
        B4 ≠ ll ∧ B3 < B4 ∧ W.heap[B4]? = some (.cells #[.int .i64 x.key.kind, .int .i64 x.key.subj, .int .i64 x.key.obj, .int .i64 x.val, .int .i64 x.fr, .int .i64 x.to, .int .i64 x.known, .int .i64 x.no] 28 (0, 0)) ∧
        a' = { tmps := #[.slice A n c, .agg #[.int .i64 kk.kind, .int .i64 kk.subj, .int .i64 kk.obj], .int .i64 t, .int .i64 known, undef, .pointer (some ⟨w.heap.size, 0, none⟩), .pointer (some ⟨B1, 0, none⟩), undef, .int .i64 0, .bool false, .pointer (some ⟨B2, 0, none⟩), .pointer (some ⟨B3, 0, none⟩), .pointer (some ⟨B4, 0, none⟩), .slice A n c, .agg #[.int .i64 kk.kind, .int .i64 kk.subj, .int .i64 kk.obj], .int .i64 known,
          .func (.func 53) #[] #[.pointer (some ⟨W0.heap.size, 0, none⟩), .pointer (some ⟨W0.heap.size + 1, 0, none⟩), .pointer (some ⟨W0.heap.size + 2, 0, none⟩)], .agg #[.int .i64 x.key.kind, .int .i64 x.key.subj, .int .i64 x.key.obj, .int .i64 x.val, .int .i64 x.fr, .int .i64 x.to, .int .i64 x.known, .int .i64 x.no], undef, undef, undef, undef, undef, undef, undef, undef, undef, undef, undef, undef, undef, undef, undef, undef, undef, undef, undef, undef, undef, undef, undef, undef, undef, undef, undef, undef, undef, undef, undef, undef], defers := [] })
    ?hAx ?assign ?body ?done ?stop
  case S =>
    have z1 := hz1
    have hs := hBW.size
    rintro b (hb | rfl | rfl | rfl) <;> exact ⟨by omega, rfl, by omega⟩
  case M => rintro b (rfl | rfl) <;> omega
  case hI =>
    rintro pre W1 W2 ⟨sm, f, h1, h2, h3, h4, h5⟩ hk
    exact ⟨sm, f, (hk.block _ (lt_of_heap h1) (by omega)).trans h1, (hk.block _ (lt_of_heap h2) (by omega)).trans h2, (hk.block _ (lt_of_heap h3) (by omega)).trans h3, h4, h5.trans (hk.toBelow h5.size (by omega))⟩
  case hIx => rintro cd W1 W2 h; exact h.elim
  case h0 => exact ⟨false, ⟨⟨0, 0, 0⟩, 0, 0, 0, 0, 0⟩, K1.out, K2.out, K3.out, Bst.none _, hB1w⟩
  case hAx =>
    rintro ll pre x a' W2 W3 hll ⟨B4, sm, f, h1, h2, h3, h4, h5, h6, h7, h8, rfl⟩ _ hk
    exact ⟨B4, sm, f, (hk.block _ (lt_of_heap h1) (by omega)).trans h1, (hk.block _ (lt_of_heap h2) (by omega)).trans h2, (hk.block _ (lt_of_heap h3) (by omega)).trans h3, h4, h5.trans (hk.toBelow h5.size (by omega)), h6, h7, (hk.block _ (lt_of_heap h8) h6).trans h8, rfl⟩
  case assign =>
    rintro ll m pre x suf W1 K hll hlt _ ⟨sm, f, h1, h2, h3, h4, h5⟩ hK
    have l1 := lt_of_heap h1
    have l2 := lt_of_heap h2
    have l3 := lt_of_heap h3
    gi_wp2
    refine hK _ _ ((Kept.refl _ _).alloc _) ⟨W1.heap.size, sm, f, (Below.heap_alloc _ _ _ l1).trans h1, (Below.heap_alloc _ _ _ l2).trans h2, (Below.heap_alloc _ _ _ l3).trans h3, h4, h5.alloc h5.size _, by omega, by omega, World.alloc_heap_new _ _, rfl⟩
  case body =>
    rintro ll m pre x suf a' W2 hll hxs ⟨B4, sm, f, h1, h2, h3, h4, h5, h6, h7, h8, rfl⟩ _
    have c1 := cell_of_heap (o := 0) h1
    have s0 := cell_of_heap (o := 0) h3
    have t0 := frozen_of_heap (o := 0) h3
    have f0 := cell_of_heap (o := 0) h2
    have r0 := frozen_of_heap (o := 0) h2
    have x0 := cell_of_heap (o := 0) h8
    have f1 := cell_of_heap (o := 1) h2
    have r1 := frozen_of_heap (o := 1) h2
    have x1 := cell_of_heap (o := 1) h8
    have f2 := cell_of_heap (o := 2) h2
    have r2 := frozen_of_heap (o := 2) h2
    have x2 := cell_of_heap (o := 2) h8
    have f3 := cell_of_heap (o := 3) h2
    have r3 := frozen_of_heap (o := 3) h2
    have x3 := cell_of_heap (o := 3) h8
    have f4 := cell_of_heap (o := 4) h2
    have r4 := frozen_of_heap (o := 4) h2
    have x4 := cell_of_heap (o := 4) h8
    have f5 := cell_of_heap (o := 5) h2
    have r5 := frozen_of_heap (o := 5) h2
    have x5 := cell_of_heap (o := 5) h8
    have f6 := cell_of_heap (o := 6) h2
    have r6 := frozen_of_heap (o := 6) h2
    have x6 := cell_of_heap (o := 6) h8
    have f7 := cell_of_heap (o := 7) h2
    have r7 := frozen_of_heap (o := 7) h2
    have x7 := cell_of_heap (o := 7) h8
    simp only [List.getElem?_toArray, List.getElem?_cons_zero, List.getElem?_cons_succ] at c1 s0 f0 f1 f2 f3 f4 f5 f6 f7 x0 x1 x2 x3 x4 x5 x6 x7
    have l1 := lt_of_heap h1
    have l2 := lt_of_heap h2
    have l3 := lt_of_heap h3
    have l8 := lt_of_heap h8
    have H1 := hidp h1
    have H2 := hidp h2
    have H3 := hidp h3
    have H4 := hidp h4
    clear h1 h2 h3 h4 h8 hxs hseq
    obtain ⟨d1, hd1⟩ : ∃ z, decide (x.fr ≤ t) = z := ⟨_, rfl⟩
    have D1 := hidp hd1
    cases d1
    · gi_wp2
      all_goals (try (exfalso; rename_i hq; exact hq _ rfl))
      all_goals (try (exfalso; rename_i hq _; simp [undef] at hq; done))
      all_goals (try (rename_i hq hr; injection hq with hq; injection hq with hq; subst hq; exact absurd rfl hr))
      all_goals (try (rename_i hq hr; injection hq with hq; injection hq with hq; subst hq; cases hr; done))
      refine ⟨trivial, ?_⟩
      gi_wp2
      exact ⟨Kept.refl _ _, sm, f, H1.out, H2.out, H3.out, bst_no H4.out (at_false1 D1.out), h5⟩
    · obtain ⟨d2, hd2⟩ : ∃ z, decide (t < x.to) = z := ⟨_, rfl⟩
      have D2 := hidp hd2
      cases d2
      · gi_wp2
        all_goals (try (exfalso; rename_i hq; exact hq _ rfl))
        all_goals (try (exfalso; rename_i hq _; simp [undef] at hq; done))
        all_goals (try (rename_i hq hr; injection hq with hq; injection hq with hq; subst hq; exact absurd rfl hr))
        all_goals (try (rename_i hq hr; injection hq with hq; injection hq with hq; subst hq; cases hr; done))
        refine ⟨trivial, ?_⟩
        gi_wp2
        exact ⟨Kept.refl _ _, sm, f, H1.out, H2.out, H3.out, bst_no H4.out (at_false2 D2.out), h5⟩
      · have hx := at_true D1.out D2.out
        have HX := hidp hx
        clear hx
        cases sm
        · gi_wp2
          all_goals (try (exfalso; rename_i hq; exact hq _ rfl))
          all_goals (try (exfalso; rename_i hq _; simp [undef] at hq; done))
          all_goals (try (rename_i hq hr; injection hq with hq; injection hq with hq; subst hq; exact absurd rfl hr))
          all_goals (try (rename_i hq hr; injection hq with hq; injection hq with hq; subst hq; cases hr; done))
          refine ⟨trivial, ?_⟩
          gi_wp2
          obtain ⟨q1, q2, q3, q4, q5⟩ := at_store (x := x) H1.out H2.out H3.out h5 (by omega) (by omega) (by omega) (by omega) (by omega)
          exact ⟨q1, true, x, q2, q3, q4, bst_new H4.out HX.out, q5⟩
        · obtain ⟨z, hz⟩ : ∃ z, x.bef f = z := ⟨_, rfl⟩
          have HV := hidp hz
          have HW := hidp (bef_cmp hz)
          clear hz
          gi_wp2
          all_goals (try (exfalso; rename_i hq; exact hq _ rfl))
          all_goals (try (exfalso; rename_i hq _; simp [undef] at hq; done))
          all_goals (try (rename_i hq hr; injection hq with hq; injection hq with hq; subst hq; exact absurd rfl hr))
          all_goals (try (rename_i hq hr; injection hq with hq; injection hq with hq; subst hq; cases hr; done))
          refine ⟨trivial, fun h => by simp [Fence.wide] at h, (CallsIn.inRound ll (callsIn_wide.2 (fcmp_any x f _))).mono ?_⟩
          rintro e w3 ⟨rfl, hb3⟩
          have hb3 := hb3.b
          obtain ⟨hc3, hf3⟩ := bcell hb3
          have hz3 := hb3.size
          have hB3' := h5.trans (hb3.mono h5.size)
          have K1 := (hb3.block _ l1).trans H1.out
          have K2 := (hb3.block _ l2).trans H2.out
          have K3 := (hb3.block _ l3).trans H3.out
          have K1' := hidp K1
          have K2' := hidp K2
          have K3' := hidp K3
          have hk3 := kept_of_below (M := fun b => b = B2 ∨ b = B3) hb3 (by omega)
          clear K1 K2 K3
          cases z
          · have hw : decide (0 ≤ cmpF x f) = true := HW.out
            gi_wp2
            obtain ⟨q1, q2, q3, q4, q5⟩ := at_store (x := x) K1'.out K2'.out K3'.out hB3' (by omega) (by omega) (by omega) (by omega) (by omega)
            exact ⟨hk3.trans q1, true, x, q2, q3, q4, bst_up H4.out HX.out HV.out, q5⟩
          · have hw : decide (0 ≤ cmpF x f) = false := HW.out
            gi_wp2
            exact ⟨hk3, true, f, K1'.out, K2'.out, K3'.out, bst_old H4.out HX.out HV.out, hB3'⟩
  case done =>
    rintro D W hD hlt ⟨sm, f, h1, h2, h3, h4, h5⟩ hk
    have s0 := cell_of_heap (o := 0) h3
    have f3 := cell_of_heap (o := 3) h2
    simp only [List.getElem?_toArray, List.getElem?_cons_zero, List.getElem?_cons_succ] at s0 f3
    have HK := hidp hk
    have l2 := lt_of_heap h2
    have l3 := lt_of_heap h3
    have hBD := h5.trans (((Kept.refl (fun b => b = D) W).putObj (r := D) (.inl rfl) (.deferred none)).toBelow h5.size (by omega))
    have HB := hidp h4
    clear hk h1 h2 h3 h4 hseq
    cases sm
    · have HR : Hid (atF l kk t known = none) := by
        rcases HB.out with ⟨_, h⟩ | ⟨h, _⟩
        · show _ = _; rw [atF, h]
        · cases h
      go_wp2
      refine leave_mark (.inl rfl) (D := D) HK.out rfl (v := .tuple #[.int .i64 0, .bool false]) ?_ ⟨by rw [HR.out]; rfl, hBD⟩
      simp [results, Try.f18, go_sem]
    · have HF : Hid (bestF (ofF l kk known) t = some f) := by
        rcases HB.out with ⟨h, _⟩ | ⟨_, h⟩
        · cases h
        · exact h
      by_cases hv : f.val < 0
      · have HR : Hid (atF l kk t known = none) := by show _ = _; rw [atF, HF.out]; simp [hv]
        go_wp2
        refine leave_mark (.inl rfl) (D := D) HK.out rfl (v := .tuple #[.int .i64 0, .bool false]) ?_ ⟨by rw [HR.out]; rfl, hBD⟩
        simp [results, Try.f18, go_sem]
      · have HR : Hid (atF l kk t known = some f.val) := by show _ = _; rw [atF, HF.out]; simp [hv]
        go_wp2
        refine leave_mark (.inl rfl) (D := D) HK.out rfl (v := .tuple #[.int .i64 f.val, .bool true]) ?_ ⟨by rw [HR.out]; rfl, hBD⟩
        simp [results, Try.f18, go_sem]
  case stop => rintro D cd W hD hlt h; exact h.elim
end Go.Proofs.Ytoalmffhiinbbaa
