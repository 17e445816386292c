/- slices.SortFunc over a slice's own block, told by lists. Over any program. -/
import Derived.Test.YtbmbpannhncpjaaDoorPut
import Derived.Shelf.SlSortCmp.WholeK
namespace Go.Proofs.YtbmbpannhncpjaaDoor
open Go.RowKit Go.Shelf Go.Sort
section
variable {α : Type} [Inhabited α] {enc : α → List Value} {k base G cap n : Nat} {e : TypeId} {w : World} {P : Program}

theorem flatK_eq (hk : ∀ x, (enc x).length = k) (l : List α) : flatK enc k l.toArray = (l.flatMap enc).toArray := by
  refine ext_get! (by rw [size_flatK]; simp [flat_len hk]) fun t ht => ?_
  rw [size_flatK] at ht
  rw [get_flatK _ _ _ _ ht]
  have hk0 : 0 < k := by
    rcases Nat.eq_zero_or_pos k with h | h
    · subst h; simp at ht
    · exact h
  have hlt : t / k < l.length := Nat.div_lt_of_lt_mul (by rw [Nat.mul_comm]; simpa using ht)
  have hx : l[t / k]? = some l[t / k] := List.getElem?_eq_getElem hlt
  have hm : t % k < (enc l[t / k]).length := by rw [hk]; exact Nat.mod_lt _ hk0
  have hu := flat_get hk l (t / k) _ hx (t % k) _ (List.getElem?_eq_getElem hm)
  rw [Nat.div_add_mod'] at hu
  have e1 : l.toArray[t / k]! = l[t / k] := by simp [hlt]
  rw [e1, getElem!_pos (enc l[t / k]) (t % k) hm, List.getElem!_toArray, List.getElem!_eq_getElem?_getD, hu]
  rfl

theorem own_holdsK (hk : ∀ x, (enc x).length = k) (l : List α) (h : w.ownsRow base e k (.slice (some ⟨G, 0, none⟩) n cap) n (l.flatMap enc)) : HoldsK enc k w G 0 l.toArray := by
  intro j hj
  rw [flatK_eq hk]
  have hj' : j < (l.flatMap enc).length := by simpa [flatK_eq hk] using hj
  have hc := h.cells (g := G) rfl j _ (List.getElem?_eq_getElem hj')
  rw [addr_add, Nat.zero_add] at hc
  rw [Nat.zero_add]
  refine ⟨?_, ?_⟩
  · rw [hc]
    simp [List.getElem?_eq_getElem hj']
  · rcases h.2 with ⟨h2, _⟩ | ⟨g', cap', cs, hv, hg, hh, _⟩
    · cases h2
    · injection hv with e1
      injection e1 with e1
      injection e1 with e1
      subst e1
      simp [World.frozen?, hh]

theorem own_sorted (hk : ∀ x, (enc x).length = k) (l : List α) (h : w.ownsRow base e k (.slice (some ⟨G, 0, none⟩) n cap) n (l.flatMap enc)) (d : List α) (hd : d.length = l.length) (m : Nat) (os : Array Obj) :
    (sortWorldK enc k w G 0 m d.toArray os).ownsRow base e k (.slice (some ⟨G, 0, none⟩) n cap) n (d.flatMap enc) ∧ Below base w (sortWorldK enc k w G 0 m d.toArray os) ∧ Kept (fun b => b = G) w (sortWorldK enc k w G 0 m d.toArray os) := by
  obtain ⟨h1, h2⟩ := h
  rw [flat_len hk] at h1
  rcases h2 with ⟨h2, _⟩ | ⟨g', cap', cs, hv, hg, hh, hnc, hcm, hsz, ht⟩
  · cases h2
  · injection hv with e1 e2 e3
    injection e1 with e1
    injection e1 with e1
    subst e1 e3
    have hGl := lt_of_heap hh
    have hnk : n * k ≤ cap * k := Nat.mul_le_mul_right k hnc
    have hold : ∀ q, q < w.heap.size → q ≠ G → (sortWorldK enc k w G 0 m d.toArray os).heap[q]? = w.heap[q]? := fun q hq hne => by
      unfold sortWorldK grow putRowK putRow mapBlock Sort.ahead
      simp only []
      rw [Array.getElem?_append_left (by simpa using hq), Array.getElem?_modify, if_neg (Ne.symm hne)]
    have hnew : (sortWorldK enc k w G 0 m d.toArray os).heap[G]? = some (.cells (putCells id 0 (d.flatMap enc).toArray cs) e (0, 0)) := by
      unfold sortWorldK grow putRowK putRow mapBlock Sort.ahead
      simp only []
      rw [Array.getElem?_append_left (by simpa using hGl), Array.getElem?_modify, if_pos rfl, hh, flatK_eq hk]
      rfl
    refine ⟨⟨by rw [flat_len hk, hd, h1], .inr ⟨G, cap, _, rfl, hg, hnew, hnc, hcm, by simp [putCells, hsz], ?_⟩⟩, ⟨rfl, rfl, rfl, by simp [sortWorldK, grow, putRowK, putRow, mapBlock, Sort.ahead], fun q hq => hold q (by omega) (by omega)⟩, ⟨rfl, rfl, rfl, by simp [sortWorldK, grow, putRowK, putRow, mapBlock, Sort.ahead], fun q hq hm => hold q hq hm⟩⟩
    have hfl : (d.flatMap enc).length = n * k := by rw [flat_len hk, hd, h1]
    apply List.ext_getElem?
    intro j
    rw [List.getElem?_take]
    by_cases hj : j < n * k
    · rw [if_pos hj]
      have hjc : j < cs.size := by omega
      have hj2 : j < (d.flatMap enc).length := by omega
      simp only [putCells, Array.getElem?_toList, Array.getElem?_mapIdx, Array.getElem?_eq_getElem hjc, Option.map_some, List.size_toArray]
      rw [if_pos ⟨Nat.zero_le _, by omega⟩, Nat.sub_zero, List.getElem?_eq_getElem hj2]
      simp [List.getElem?_eq_getElem hj2]
    · rw [if_neg hj, List.getElem?_eq_none (by omega)]

theorem sortFunc_kept {ρ : Ren} (L : SlLaysF0.n6 P ρ) (aE : ∀ w, (isAgg (ρ.t 24)).run P w = .ok true w) (zE : ∀ w, (Go.sizeOf (ρ.t 24)).run P w = .ok k w) (hk : ∀ x, (enc x).length = k) (h1 : ∀ x, ∀ v ∈ enc x, v.oneCell' = true)
    (cf : α → α → Int) (hO : SWO (ltOf cf)) (g : Nat) (cb : Array Value) (eg : ∀ args w, (callFunc g args).run P w = .ok (.enter g args) w) (l : List α)
    (hown : w.ownsRow base e k (.slice (some ⟨G, 0, none⟩) n cap) n (l.flatMap enc)) (h0 : 0 < k)
    (hcmp : ∀ W x y, Calls P g (#[.agg (enc x).toArray, .agg (enc y).toArray] ++ cb) W fun e w' => e = .returned (.int .i64 (cf x y)) ∧ ∃ q os', w' = grow (W.drewN q) os') (hn : n < 4611686018427387904) :
    Calls P (ρ.f 6) #[.slice (some ⟨G, 0, none⟩) n cap, .func (.func g) #[] cb] w fun e' w' => e' = .returned (.tuple #[]) ∧ ∃ d : List α, d.Perm l ∧ d.Pairwise (fun x y => ¬ cf y x < 0) ∧
      w'.ownsRow base e k (.slice (some ⟨G, 0, none⟩) n cap) n (d.flatMap enc) ∧ Below base w w' ∧ Kept (fun b => b = G) w w' := by
  have hlen := own_len hk h0 hown
  have hG := hown.lt G rfl
  have hs : l.toArray.size = n := by simp [hlen]
  have := AnyQ.slices_SortFunc L k aE zE enc hk h1 cf hO g cb G 0 cap l.toArray w eg (fun m os dk _ x y => hcmp _ x y) (own_holdsK hk l hown) hG.2 (by rw [hs]; exact hn)
  rw [hs] at this
  refine this.mono fun e' w' ⟨he, d', m, os, hp, hsd, hw⟩ => ⟨he, d'.toList, ?_, ?_, ?_⟩
  · have hp3 := hp.2.2
    have hdn : d'.size = n := by rw [hp.1, hs]
    have e1 : d'.extract 0 n = d' := by rw [← hdn]; simp
    have e2 : l.toArray.extract 0 n = l.toArray := by rw [← hs]; simp
    rw [e1, e2] at hp3
    simpa using hp3
  · rw [List.pairwise_iff_getElem]
    intro i j hi hj hij
    have hdn : d'.size = n := by rw [hp.1, hs]
    simp at hi hj
    have := hsd i j (Nat.zero_le _) hij (by omega)
    rw [getElem!_pos d' j hj, getElem!_pos d' i hi] at this
    simpa [ltOf] using this
  · have hdl : d'.toList.length = l.length := by
      have := hp.1
      simp at this ⊢
      exact this
    rw [hw]
    have := own_sorted hk l hown d'.toList hdl m os
    simpa using this
theorem sortFunc_own {ρ : Ren} (L : SlLaysF0.n6 P ρ) (aE : ∀ w, (isAgg (ρ.t 24)).run P w = .ok true w) (zE : ∀ w, (Go.sizeOf (ρ.t 24)).run P w = .ok k w) (hk : ∀ x, (enc x).length = k) (h1 : ∀ x, ∀ v ∈ enc x, v.oneCell' = true)
    (cf : α → α → Int) (hO : SWO (ltOf cf)) (g : Nat) (cb : Array Value) (eg : ∀ args w, (callFunc g args).run P w = .ok (.enter g args) w) (l : List α)
    (hown : w.ownsRow base e k (.slice (some ⟨G, 0, none⟩) n cap) n (l.flatMap enc)) (h0 : 0 < k)
    (hcmp : ∀ W x y, Calls P g (#[.agg (enc x).toArray, .agg (enc y).toArray] ++ cb) W fun e w' => e = .returned (.int .i64 (cf x y)) ∧ ∃ q os', w' = grow (W.drewN q) os') (hn : n < 4611686018427387904) :
    Calls P (ρ.f 6) #[.slice (some ⟨G, 0, none⟩) n cap, .func (.func g) #[] cb] w fun e' w' => e' = .returned (.tuple #[]) ∧ ∃ d : List α, d.Perm l ∧ d.Pairwise (fun x y => ¬ cf y x < 0) ∧
      w'.ownsRow base e k (.slice (some ⟨G, 0, none⟩) n cap) n (d.flatMap enc) ∧ Below base w w' :=
  (sortFunc_kept L aE zE hk h1 cf hO g cb eg l hown h0 hcmp hn).mono fun _ _ ⟨he, d, h1, h2, h3, h4, _⟩ => ⟨he, d, h1, h2, h3, h4⟩
end
end Go.Proofs.YtbmbpannhncpjaaDoor
