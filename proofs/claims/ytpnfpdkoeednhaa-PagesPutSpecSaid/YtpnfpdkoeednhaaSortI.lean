/- slices.Sort at integers over a slice's own block. Over any program. -/
import Derived.Test.YtpnfpdkoeednhaaM1
import Derived.Shelf.SortG.Plain
namespace Go.Proofs.Ytpnfpdkoeednhaa
open Go.RowKit Go.Shelf Go.Sort
section
variable {base G cap n : Nat} {e : TypeId} {w : World} {P : Program}
def encI (z : Int) : List Value := [.int .i64 z]
theorem encI_get (l : List Int) (j : Nat) : (l.flatMap encI)[j]? = (l[j]?).map (Value.int .i64) := by
  induction l generalizing j with
  | nil => simp
  | cons x l ih =>
    cases j with
    | zero => simp [encI]
    | succ j => simpa [encI] using ih j
theorem encI_len (l : List Int) : (l.flatMap encI).length = l.length := by
  induction l with
  | nil => rfl
  | cons x l ih => simp [encI] at ih ⊢; exact ih
theorem own_holdsI (l : List Int) (h : w.ownsRow base e 1 (.slice (some ⟨G, 0, none⟩) n cap) n (l.flatMap encI)) : Holds (Value.int .i64) w G 0 l.toArray := by
  intro j hj
  have hj' : j < l.length := by simpa using hj
  have hc := h.cells (g := G) rfl j (.int .i64 l[j]) (by rw [encI_get, List.getElem?_eq_getElem hj']; rfl)
  rw [addr_add, Nat.zero_add] at hc
  rw [Nat.zero_add]
  refine ⟨?_, ?_⟩
  · rw [hc]
    simp [hj']
  · rcases h.2 with ⟨h2, _⟩ | ⟨g', cap', cs, hv, hg, hh, _⟩
    · cases h2
    · injection hv with e1
      injection e1 with e1
      injection e1 with e1
      subst e1
      simp [World.frozen?, hh]
theorem own_sortedI (l : List Int) (h : w.ownsRow base e 1 (.slice (some ⟨G, 0, none⟩) n cap) n (l.flatMap encI)) (d : List Int) (hd : d.length = l.length) (m : Nat) (os : Array Obj) :
    (grow (putRow (Value.int .i64) (Sort.ahead w m) G 0 d.toArray) os).ownsRow base e 1 (.slice (some ⟨G, 0, none⟩) n cap) n (d.flatMap encI) ∧ Kept (fun b => b = G) w (grow (putRow (Value.int .i64) (Sort.ahead w m) G 0 d.toArray) os) := by
  obtain ⟨h1, h2⟩ := h
  rw [encI_len] at h1
  rcases h2 with ⟨h2, _⟩ | ⟨g', cap', cs, hv, hg, hh, hnc, hcm, hsz, ht⟩
  · cases h2
  · injection hv with e1 e2 e3
    injection e1 with e1
    injection e1 with e1
    subst e1 e3
    have hGl := lt_of_heap hh
    have hold : ∀ q, q < w.heap.size → q ≠ G → (grow (putRow (Value.int .i64) (Sort.ahead w m) G 0 d.toArray) os).heap[q]? = w.heap[q]? := fun q hq hne => by
      unfold grow putRow mapBlock Sort.ahead
      simp only []
      rw [Array.getElem?_append_left (by simpa using hq), Array.getElem?_modify, if_neg (Ne.symm hne)]
    have hnew : (grow (putRow (Value.int .i64) (Sort.ahead w m) G 0 d.toArray) os).heap[G]? = some (.cells (putCells (Value.int .i64) 0 d.toArray cs) e (0, 0)) := by
      unfold grow putRow mapBlock Sort.ahead
      simp only []
      rw [Array.getElem?_append_left (by simpa using hGl), Array.getElem?_modify, if_pos rfl, hh]
      rfl
    refine ⟨⟨by rw [encI_len, hd, h1], .inr ⟨G, cap, _, rfl, hg, hnew, hnc, hcm, by simp [putCells, hsz], ?_⟩⟩, ⟨rfl, rfl, rfl, by simp [grow, putRow, mapBlock, Sort.ahead], fun q hq hm => hold q hq hm⟩⟩
    apply List.ext_getElem?
    intro j
    rw [List.getElem?_take]
    by_cases hj : j < n * 1
    · rw [if_pos hj]
      have hjc : j < cs.size := by omega
      have hj2 : j < d.length := by omega
      simp only [putCells, Array.getElem?_toList, Array.getElem?_mapIdx, Array.getElem?_eq_getElem hjc, Option.map_some, List.size_toArray]
      rw [if_pos ⟨Nat.zero_le _, by omega⟩, Nat.sub_zero, encI_get, List.getElem?_eq_getElem hj2]
      simp [hj2]
    · rw [if_neg hj, List.getElem?_eq_none (by rw [encI_len]; omega)]

theorem sortI_kept {ρ : Ren} (L : SlLaysN.n53 P ρ) (l : List Int) (hown : w.ownsRow base e 1 (.slice (some ⟨G, 0, none⟩) n cap) n (l.flatMap encI)) (hn : n < 4611686018427387904) :
    Calls P (ρ.f 53) #[.slice (some ⟨G, 0, none⟩) n cap] w fun e' w' => e' = .returned (.tuple #[]) ∧ w'.ownsRow base e 1 (.slice (some ⟨G, 0, none⟩) n cap) n ((l.mergeSort fun x y => decide (x ≤ y)).flatMap encI) ∧ Kept (fun b => b = G) w w' := by
  have hlen : n = l.length := by have := hown.1; rw [encI_len] at this; omega
  have hG := hown.lt G rfl
  have := AnyG.slices_Sort_int L G 0 cap l w (own_holdsI l hown) hG.2 (by omega)
  rw [← hlen] at this
  refine this.mono fun e' w' ⟨he, m, os, hw⟩ => ⟨he, ?_⟩
  rw [hw]
  exact own_sortedI l hown _ (List.length_mergeSort l) m os
end
end Go.Proofs.Ytpnfpdkoeednhaa

