import Derived.Test.YtbegdcjofnfkiaaGreatDoorQ2
import Derived.Shelf.SlSortCmp.Whole1
namespace Go.Proofs.YtbegdcjofnfkiaaGreatDoor
open Go.RowKit Go.Shelf Go.Sort
section
variable {α : Type} [Inhabited α] {enc : α → Value} {base G cap n : Nat} {e : TypeId} {w : World} {P : Program}
omit [Inhabited α] in
theorem enc1_len (enc : α → Value) (x : α) : ([enc x] : List Value).length = 1 := rfl
omit [Inhabited α] in
theorem flat1_get (l : List α) (j : Nat) : (l.flatMap fun x => [enc x])[j]? = (l[j]?).map enc := by
 rw [show (l.flatMap fun x => [enc x]) = l.map enc by induction l with
  | nil => rfl
  | cons a l ih => simp [ih], List.getElem?_map]
theorem own_holds1 (l : List α) (h : w.ownsRow base e 1 (.slice (some ⟨G, 0, none⟩) n cap) n (l.flatMap fun x => [enc x])) : Holds enc w G 0 l.toArray := by
 intro j hj
 have hj' : j < l.length := by simpa using hj
 have hg : (l.flatMap fun x => [enc x])[j]? = some (enc l[j]) := by rw [flat1_get, List.getElem?_eq_getElem hj']; rfl
 have hc := h.cells (g := G) rfl j _ hg
 rw [addr_add, Nat.zero_add] at hc
 rw [Nat.zero_add]
 refine ⟨?_, ?_⟩
 ·rw [hc]
  simp [hj']
 ·rcases h.2 with ⟨h2, _⟩ | ⟨g', cap', cs, hv, hg, hh, _⟩
  ·cases h2
  ·injection hv with e1
   injection e1 with e1
   injection e1 with e1
   subst e1
   simp [World.frozen?, hh]
theorem sortWorld_other (m : Nat) (d : Array α) (os : Array Obj) (q : Nat) (hq : q < w.heap.size) (hne : q ≠ G) : (sortWorld enc w G 0 m d os).heap[q]? = w.heap[q]? := by
 unfold sortWorld grow putRow mapBlock Sort.ahead
 simp only []
 rw [Array.getElem?_append_left (by simpa using hq), Array.getElem?_modify, if_neg (Ne.symm hne)]
theorem sortWorld_size (m : Nat) (d : Array α) (os : Array Obj) : w.heap.size ≤ (sortWorld enc w G 0 m d os).heap.size := by
 simp [sortWorld, grow, putRow, mapBlock, Sort.ahead]
theorem own_sorted1 (l : List α) (h : w.ownsRow base e 1 (.slice (some ⟨G, 0, none⟩) n cap) n (l.flatMap fun x => [enc x])) (d : List α) (hd : d.length = l.length) (m : Nat) (os : Array Obj) :
  (sortWorld enc w G 0 m d.toArray os).ownsRow base e 1 (.slice (some ⟨G, 0, none⟩) n cap) n (d.flatMap fun x => [enc x]) ∧ Below base w (sortWorld enc w G 0 m d.toArray os) ∧ Kept (fun b => b = G) w (sortWorld enc w G 0 m d.toArray os) := by
 obtain ⟨h1, h2⟩ := h
 rw [flat_len (enc1_len enc)] at h1
 rcases h2 with ⟨h2, _⟩ | ⟨g', cap', cs, hv, hg, hh, hnc, hcm, hsz, ht⟩
 ·cases h2
 ·injection hv with e1 e2 e3
  injection e1 with e1
  injection e1 with e1
  subst e1 e3
  have hGl := lt_of_heap hh
  have hnew : (sortWorld enc w G 0 m d.toArray os).heap[G]? = some (.cells (putCells enc 0 d.toArray cs) e (0, 0)) := by
   unfold sortWorld grow putRow mapBlock Sort.ahead
   simp only []
   rw [Array.getElem?_append_left (by simpa using hGl), Array.getElem?_modify, if_pos rfl, hh]
   rfl
  refine ⟨⟨by rw [flat_len (enc1_len enc), hd, h1], .inr ⟨G, cap, _, rfl, hg, hnew, hnc, hcm, by simp [putCells, hsz], ?_⟩⟩, ⟨rfl, rfl, rfl, sortWorld_size _ _ _, fun q hq => sortWorld_other _ _ _ _ (by omega) (by omega)⟩, ⟨rfl, rfl, rfl, sortWorld_size _ _ _, fun q hq hm => sortWorld_other _ _ _ _ hq hm⟩⟩
  apply List.ext_getElem?
  intro j
  rw [List.getElem?_take, flat1_get]
  by_cases hj : j < n * 1
  ·rw [if_pos hj]
   have hjc : j < cs.size := by omega
   have hj2 : j < d.length := by omega
   simp only [putCells, Array.getElem?_toList, Array.getElem?_mapIdx, Array.getElem?_eq_getElem hjc, Option.map_some, List.size_toArray]
   rw [if_pos ⟨Nat.zero_le _, by omega⟩, Nat.sub_zero, List.getElem?_eq_getElem hj2]
   simp [hj2]
  ·rw [if_neg hj, List.getElem?_eq_none (by omega)]
   rfl
theorem sortFunc_one {ρ : Ren} (L : SlLaysF.n6 P ρ) (h1 : OneCell enc) (cf : α → α → Int) (hO : SWO (ltOf cf)) (g : Nat) (cb : Array Value) (eg : ∀ args w, (callFunc g args).run P w = .ok (.enter g args) w) (l : List α)
  (hown : w.ownsRow base e 1 (.slice (some ⟨G, 0, none⟩) n cap) n (l.flatMap fun x => [enc x]))
  (hcmp : ∀ W, w.heap.size ≤ W.heap.size → (∀ b, b < w.heap.size → b ≠ G → W.heap[b]? = w.heap[b]?) → ∀ x y, Calls P g (#[enc x, enc y] ++ cb) W fun e w' => e = .returned (.int .i64 (cf x y)) ∧ ∃ q os', w' = grow (W.drewN q) os') (hn : n < 4611686018427387904) :
  Calls P (ρ.f 6) #[.slice (some ⟨G, 0, none⟩) n cap, .func (.func g) #[] cb] w fun e' w' => e' = .returned (.tuple #[]) ∧ ∃ d : List α, d.Perm l ∧ d.Pairwise (fun x y => ¬ cf y x < 0) ∧
   w'.ownsRow base e 1 (.slice (some ⟨G, 0, none⟩) n cap) n (d.flatMap fun x => [enc x]) ∧ Below base w w' ∧ Kept (fun b => b = G) w w' := by
 have hlen := own_len (enc1_len enc) (by decide) hown
 have hG := hown.lt G rfl
 have hs : l.toArray.size = n := by simp [hlen]
 have := Any.slices_SortFunc L enc h1 cf hO g cb G 0 cap l.toArray w eg (fun m os dk _ x y => hcmp _ (sortWorld_size _ _ _) (fun b hb hne => sortWorld_other _ _ _ _ hb hne) x y) (own_holds1 l hown) hG.2 (by rw [hs]; exact hn)
 rw [hs] at this
 refine this.mono fun e' w' ⟨he, d', m, os, hp, hsd, hw⟩ => ⟨he, d'.toList, ?_, ?_, ?_⟩
 ·have hp3 := hp.2.2
  have hdn : d'.size = n := by rw [hp.1, hs]
  have e1 : d'.extract 0 n = d' := by rw [← hdn]; simp
  have e2 : l.toArray.extract 0 n = l.toArray := by rw [← hs]; simp
  rw [e1, e2] at hp3
  simpa using hp3
 ·rw [List.pairwise_iff_getElem]
  intro i j hi hj hij
  have hdn : d'.size = n := by rw [hp.1, hs]
  simp at hi hj
  have := hsd i j (Nat.zero_le _) hij (by omega)
  rw [getElem!_pos d' j hj, getElem!_pos d' i hi] at this
  simpa [ltOf] using this
 ·have hdl : d'.toList.length = l.length := by
   have := hp.1
   simp at this ⊢
   exact this
  rw [hw]
  have := own_sorted1 l hown d'.toList hdl m os
  simpa using this
end
end Go.Proofs.YtbegdcjofnfkiaaGreatDoor
