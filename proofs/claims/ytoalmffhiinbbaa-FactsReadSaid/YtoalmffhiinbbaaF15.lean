/- The tables of facts.values in memory: 1024 facts and 1024 bools. -/
import Derived.Test.YtoalmffhiinbbaaF13
import Derived.Test.YtoalmffhiinbbaaRound
import Derived.Test.YtoalmffhiinbbaaPut
import Derived.Laws.Rows
namespace Go.Proofs.Ytoalmffhiinbbaa
open Go.RowKit Go.Shelf

def allI : List Value → Nat → Bool
  | [], 0 => true
  | .int .i64 z :: l, n + 1 => (z == 0) && allI l n
  | _, _ => false
def allF : List Value → Nat → Bool
  | [], 0 => true
  | .bool z :: l, n + 1 => !z && allF l n
  | _, _ => false
theorem allI_at : ∀ (l : List Value) (n : Nat), allI l n = true → l.length = n ∧ ∀ j, j < n → l[j]? = some (.int .i64 0)
  | [], 0, _ => ⟨rfl, fun j h => by omega⟩
  | [], n + 1, h => by simp [allI] at h
  | v :: l, n, h => by
    unfold allI at h
    split at h
    · exact absurd ‹v :: l = []› (by simp)
    · rename_i z l' n' h1
      injection h1 with h1 h2
      subst h1 h2
      rw [Bool.and_eq_true] at h
      obtain ⟨h3, h4⟩ := allI_at l n' h.2
      have hz : z = 0 := by simpa using h.1
      subst hz
      refine ⟨by simp [h3], fun j hj => ?_⟩
      cases j with
      | zero => rfl
      | succ j => simpa using h4 j (by omega)
    · cases h
theorem allF_at : ∀ (l : List Value) (n : Nat), allF l n = true → l.length = n ∧ ∀ j, j < n → l[j]? = some (.bool false)
  | [], 0, _ => ⟨rfl, fun j h => by omega⟩
  | [], n + 1, h => by simp [allF] at h
  | v :: l, n, h => by
    unfold allF at h
    split at h
    · exact absurd ‹v :: l = []› (by simp)
    · rename_i z l' n' h1
      injection h1 with h1 h2
      subst h1 h2
      rw [Bool.and_eq_true] at h
      obtain ⟨h3, h4⟩ := allF_at l n' h.2
      have hz : z = false := by simpa using h.1
      subst hz
      refine ⟨by simp [h3], fun j hj => ?_⟩
      cases j with
      | zero => rfl
      | succ j => simpa using h4 j (by omega)
    · cases h
theorem zeros_best : Try.zeroCells84.size = 8192 ∧ ∀ j, j < 8192 → Try.zeroCells84[j]? = some (.int .i64 0) := by
  have h : allI Try.zeroCells84.toList 8192 = true := by kernel_rfl
  obtain ⟨_, h2⟩ := allI_at _ _ h
  exact ⟨by simp, fun j hj => by simpa using h2 j hj⟩
theorem zeros_some : Try.zeroCells85.size = 1024 ∧ ∀ j, j < 1024 → Try.zeroCells85[j]? = some (.bool false) := by
  have h : allF Try.zeroCells85.toList 1024 = true := by kernel_rfl
  obtain ⟨_, h2⟩ := allF_at _ _ h
  exact ⟨by simp, fun j hj => by simpa using h2 j hj⟩
theorem zeros_row : Try.zeroCells70.size = 1024 ∧ ∀ j, j < 1024 → Try.zeroCells70[j]? = some (.int .i64 0) := by
  have h : allI Try.zeroCells70.toList 1024 = true := by kernel_rfl
  obtain ⟨_, h2⟩ := allI_at _ _ h
  exact ⟨by simp, fun j hj => by simpa using h2 j hj⟩

/-- The two tables hold, at each term, what g says. -/
def Tab (W : World) (B7 B8 : Nat) (g : Nat → Option Fc) : Prop :=
  ∃ cs7 cs8, W.heap[B7]? = some (.cells cs7 84 (0, 0)) ∧ W.heap[B8]? = some (.cells cs8 85 (0, 0)) ∧ cs7.size = 8192 ∧ cs8.size = 1024 ∧
    ∀ j, j < 1024 → ∃ sm f, Bst (g j) sm f ∧ cs8[j]? = some (.bool sm) ∧ ∀ i u, (fEnc f)[i]? = some u → cs7[j * 8 + i]? = some u
namespace Tab
variable {W W' : World} {B7 B8 : Nat} {g g' : Nat → Option Fc}
theorem start (h7 : W.heap[B7]? = some (.cells Try.zeroCells84 84 (0, 0))) (h8 : W.heap[B8]? = some (.cells Try.zeroCells85 85 (0, 0))) : Tab W B7 B8 (fun _ => none) := by
  refine ⟨_, _, h7, h8, zeros_best.1, zeros_some.1, fun j hj => ⟨false, ⟨⟨0, 0, 0⟩, 0, 0, 0, 0, 0⟩, Bst.none _, zeros_some.2 j hj, fun i u hu => ?_⟩⟩
  have hi : i < 8 := (List.getElem?_eq_some_iff.1 hu).1
  rw [zeros_best.2 _ (by omega)]
  match i, hi, hu with
  | 0, _, h => exact h
  | 1, _, h => exact h
  | 2, _, h => exact h
  | 3, _, h => exact h
  | 4, _, h => exact h
  | 5, _, h => exact h
  | 6, _, h => exact h
  | 7, _, h => exact h
theorem keep (h : Tab W B7 B8 g) (h7 : W'.heap[B7]? = W.heap[B7]?) (h8 : W'.heap[B8]? = W.heap[B8]?) : Tab W' B7 B8 g := by
  obtain ⟨cs7, cs8, k7, k8, hr⟩ := h
  exact ⟨cs7, cs8, h7.trans k7, h8.trans k8, hr⟩
theorem congr (h : Tab W B7 B8 g) (hg : ∀ j, j < 1024 → g' j = g j) : Tab W B7 B8 g' := by
  obtain ⟨cs7, cs8, k7, k8, z7, z8, hr⟩ := h
  exact ⟨cs7, cs8, k7, k8, z7, z8, fun j hj => by rw [hg j hj]; exact hr j hj⟩
theorem lt (h : Tab W B7 B8 g) : B7 < W.heap.size ∧ B8 < W.heap.size := by
  obtain ⟨cs7, cs8, k7, k8, hr⟩ := h
  exact ⟨lt_of_heap k7, lt_of_heap k8⟩
theorem frozen (h : Tab W B7 B8 g) : (∀ o, W.frozen? ⟨B7, o, none⟩ = false) ∧ (∀ o, W.frozen? ⟨B8, o, none⟩ = false) := by
  obtain ⟨cs7, cs8, k7, k8, hr⟩ := h
  exact ⟨fun o => frozen_of_heap k7, fun o => frozen_of_heap k8⟩
theorem get (h : Tab W B7 B8 g) {j : Nat} (hj : j < 1024) : ∃ sm f, Bst (g j) sm f ∧ W.cell? ⟨B8, j, none⟩ = some (.bool sm) ∧
    W.cell? ⟨B7, j * 8, none⟩ = some (.int .i64 f.key.kind) ∧ W.cell? ⟨B7, j * 8 + 1, none⟩ = some (.int .i64 f.key.subj) ∧ W.cell? ⟨B7, j * 8 + 2, none⟩ = some (.int .i64 f.key.obj) ∧ W.cell? ⟨B7, j * 8 + 3, none⟩ = some (.int .i64 f.val) ∧
    W.cell? ⟨B7, j * 8 + 4, none⟩ = some (.int .i64 f.fr) ∧ W.cell? ⟨B7, j * 8 + 5, none⟩ = some (.int .i64 f.to) ∧ W.cell? ⟨B7, j * 8 + 6, none⟩ = some (.int .i64 f.known) ∧ W.cell? ⟨B7, j * 8 + 7, none⟩ = some (.int .i64 f.no) := by
  obtain ⟨cs7, cs8, k7, k8, z7, z8, hr⟩ := h
  obtain ⟨sm, f, h1, h2, h3⟩ := hr j hj
  refine ⟨sm, f, h1, (cell_of_heap k8).trans h2, ?_, ?_, ?_, ?_, ?_, ?_, ?_, ?_⟩
  · exact (cell_of_heap k7).trans (h3 0 _ rfl)
  · exact (cell_of_heap k7).trans (h3 1 _ rfl)
  · exact (cell_of_heap k7).trans (h3 2 _ rfl)
  · exact (cell_of_heap k7).trans (h3 3 _ rfl)
  · exact (cell_of_heap k7).trans (h3 4 _ rfl)
  · exact (cell_of_heap k7).trans (h3 5 _ rfl)
  · exact (cell_of_heap k7).trans (h3 6 _ rfl)
  · exact (cell_of_heap k7).trans (h3 7 _ rfl)
/-- A fact is stored at a term. -/
theorem put (h : Tab W B7 B8 g) {j : Nat} (hj : j < 1024) (x : Fc) (hne : B7 ≠ B8) {cs7 : Array Value} (h7 : W.heap[B7]? = some (.cells cs7 84 (0, 0))) : Tab ((W.setRow B7 (putAt cs7 (j * 8) (fEnc x))).setCell ⟨B8, j, none⟩ (.bool true)) B7 B8 (fun i => if i = j then some x else g i) := by
  obtain ⟨cs7', cs8, k7, k8, z7, z8, hr⟩ := h
  rw [h7] at k7
  injection k7 with k7
  injection k7 with k7
  subst k7
  have hl8 : (fEnc x).length = 8 := rfl
  refine ⟨putAt cs7 (j * 8) (fEnc x), cs8.setIfInBounds j (.bool true), ?_, ?_, ?_, by simpa using z8, fun i hi => ?_⟩
  · rw [Below.heap_setCell _ _ _ _ (by exact hne)]
    exact setRow_heap W B7 cs7 _ _ _ h7
  · refine heap_set ?_ _ _
    rw [setRow_other _ _ _ _ (Ne.symm hne)]
    exact k8
  · rw [putAt_size _ _ _ (by rw [hl8]; omega), z7]
  · by_cases hij : i = j
    · subst hij
      refine ⟨true, x, by show Bst (if i = i then some x else g i) true x; rw [if_pos rfl]; exact Bst.some x, by simp [z8, hi], fun q u hu => ?_⟩
      have hq : q < 8 := (List.getElem?_eq_some_iff.1 hu).1
      simp only [putAt, List.getElem?_toArray]
      rw [List.append_assoc, List.getElem?_append_right (by simp; omega)]
      have hmin : min (i * 8) cs7.size = i * 8 := by omega
      simp only [List.length_take, Array.length_toList, hmin, Nat.add_sub_cancel_left]
      rw [List.getElem?_append_left (by rw [hl8]; exact hq)]
      exact hu
    · obtain ⟨sm, f, h1, h2, h3⟩ := hr i hi
      refine ⟨sm, f, by show Bst (if i = j then some x else g i) sm f; rw [if_neg hij]; exact h1, by simp [Ne.symm hij, h2], fun q u hu => ?_⟩
      have hq : q < 8 := (List.getElem?_eq_some_iff.1 hu).1
      rw [← h3 q u hu]
      simp only [putAt, List.getElem?_toArray]
      have hmin : min (j * 8) cs7.size = j * 8 := by omega
      rcases Nat.lt_or_ge i j with hlt | hge
      · rw [List.append_assoc, List.getElem?_append_left (by simp; omega), List.getElem?_take, if_pos (by omega)]
        simp
      · rw [List.getElem?_append_right (by simp; omega)]
        simp only [List.length_append, List.length_take, Array.length_toList, hmin, hl8, List.getElem?_drop]
        rw [show j * 8 + 8 + (i * 8 + q - (j * 8 + 8)) = i * 8 + q by omega]
        simp
end Tab

theorem kept_setRow {M : Nat → Prop} {A B : World} (h : Kept M A B) {g : Nat} (hg : M g) (cs : Array Value) : Kept M A (B.setRow g cs) :=
  h.trans ⟨rfl, rfl, rfl, by simp [World.setRow], fun q _ hM => setRow_other B g q cs (by rintro rfl; exact hM hg)⟩
section
variable {F : Fence} {nF : Nat} {P : Program} {w : World} {g : Nat}
theorem wpListIn_store_at {ops : Array Oper} {rest : List Oper} {o : Oper} {a : Act} {Q : Exit → Act → World → Prop} (ty : TypeId) (x y : Operand) (hw : Region.wanted o (yielded ops a.tmps) = true) (ho : o.op = .store ty x y)
    {off : Nat} {t : TypeId} {cs : Array Value} {vs : List Value} (hx : a.eval x = .pointer (some ⟨g, off, none⟩)) (hy : a.eval y = .agg vs.toArray)
    (hh : w.heap[g]? = some (.cells cs t (0, 0))) (hi : (P.info? ty).map (·.size) = some vs.length) (hl : off + vs.length ≤ cs.size) (h1 : ∀ v ∈ vs, v.oneCell' = true)
    (h : wpListIn F nF P ops Q rest (a.put o.dst undef) (w.setRow g (putAt cs off vs))) : wpListIn F nF P ops Q (o :: rest) a w :=
  BigFrame.wpListIn_want hw fun _ hK => by
    have hab : o.about P w a.eval = none := by unfold Oper.about; simp only [ho]
    refine ⟨(fun f hf => by rw [hab] at hf; cases hf), ?_⟩
    rw [Oper.semAt_eq F.round a.eval o (fun c => by rw [ho]; intro h; cases h)]
    unfold execOp
    simp only [ho, hx, hy, Instr.storeAt, Instr.sureAddr, Sem.run_bind, Sem.run_pure, Result.andThen_ok, run_store_at hh hi hl h1]
    exact hK _ _ h
end
end Go.Proofs.Ytoalmffhiinbbaa
