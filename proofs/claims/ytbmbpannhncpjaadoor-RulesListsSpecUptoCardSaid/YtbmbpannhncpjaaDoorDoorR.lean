/- Slices whose elements are told by a representation, opened; how long they are. Over any program. -/
import Derived.Test.YtbmbpannhncpjaaDoorDoor
import Derived.SizedLaws
namespace Go.Proofs.YtbmbpannhncpjaaDoor
open Go.RowKit Go.ChangeShapes Go.WideShapes Go.Deep
section
variable {H : Type} {enc : TypeId × Value → H} {P : Program} {w : World} {base : Nat} {spare : Nat → Bool} {held : Bool}
theorem weightsAll_mem {e : TypeId} {m : Nat} : ∀ {l : List (DataW H)} {d : DataW H}, d ∈ l → m ∈ d.weights P e → m ∈ DataW.weightsAll P e l
  | d0 :: l, d, hd, hm => by
    simp only [DataW.weightsAll, List.mem_append]
    rcases List.mem_cons.1 hd with rfl | hd
    · exact .inl hm
    · exact .inr (weightsAll_mem hd hm)
  | [], _, hd, _ => by simp at hd
/-- What a value weighs at most. -/
def Light (P : Program) (t : TypeId) (d : DataW H) : Prop := ∀ m ∈ d.weights P t, m ≤ reachBytes
theorem light_arg {ts : List TypeId} {ds : List (DataW H)} {j : Nat} {t : TypeId} {d : DataW H} (h : (DataW.weightsEach P ts ds).all (· ≤ reachBytes) = true) (ht : ts[j]? = some t) (hd : ds[j]? = some d) : Light P t d := fun m hm => by
  have := List.all_eq_true.1 h _ (DataW.weights_mem_each ht hd m hm)
  simpa using this
theorem light_field {t : TypeId} {fs : Array Field} {xs : List (DataW H × List MemPlace)} (hu : P.underlying t = some (.struct fs)) (h : Light P t (.agg (xs.map (·.1)))) {j : Nat} {f : Field} {x : DataW H × List MemPlace} (hf : fs[j]? = some f) (hx : xs[j]? = some x) : Light P f.type x.1 := fun m hm => by
  refine h m ?_
  simp only [DataW.weights, hu]
  exact DataW.weights_mem_each (j := j) (by simp [hf]) (by simp [hx]) m hm

theorem open_cells {α : Type} {r : Rep α} {k : Nat} {t e : TypeId} {fuel : Nat} {cs : List Value} {x : DataW H × List MemPlace} (ht : P.underlying t = some (.slice e)) (hC : P.cellsOf e = k) (hk0 : 0 < k)
    (hel : ∀ fuel cs x, DataW.trod enc P w base spare held fuel e cs = some x → Light P e x.1 → ∃ a : α, r w w.heap.size a cs)
    (h : DataW.trod enc P w base spare held fuel t cs = some x) (hw : Light P t x.1) : ∃ A n c l, cs = [.slice A n c] ∧ Rows k r w w.heap.size A n c l ∧ n * P.bytesOf e ≤ reachBytes := by
  rcases open_slice ht h with ⟨hcs, _⟩ | ⟨a, len, cap, m, n, D, Pl, hcs, hb, hl, hm, hmm, hx, hi⟩
  · exact ⟨none, 0, 0, [], hcs, Rows.nil (by decide), by simp⟩
  · subst hx
    have hlm : len ≤ m := by rw [hmm]; split <;> omega
    have hwl : len * P.bytesOf e ≤ reachBytes := by
      have := hw ((len + (m - len)) * P.bytesOf e) (by simp [DataW.weights, ht])
      exact Nat.le_trans (Nat.mul_le_mul_right _ (by omega)) this
    have hel' : ∀ i, i < len → ∃ (y : α) (cs' : List Value), r w w.heap.size y cs' ∧ cs'.length = k ∧ ∀ j u, cs'[j]? = some u → w.cell? (a.add (i * k + j)) = some u := by
      intro i hil
      obtain ⟨cs', hc, htr⟩ := hi i (by omega)
      rw [hC] at hc
      obtain ⟨_, hlc, hcell⟩ := World.cells?_some hc
      obtain ⟨y, hy⟩ := hel n cs' _ htr fun q hq => hw q (by
        simp only [DataW.weights, ht]
        refine List.mem_cons_of_mem _ (List.mem_append_left _ (weightsAll_mem (d := D i) (List.mem_map.2 ⟨i, List.mem_range.2 hil, rfl⟩) hq)))
      refine ⟨y, cs', hy, hlc, fun j u hj => ?_⟩
      have hjk : j < k := by rw [← hlc]; exact (List.getElem?_eq_some_iff.1 hj).1
      have := hcell j hjk
      rw [hj] at this
      rw [← Go.Deep.add_add]
      exact this
    rcases Nat.eq_zero_or_pos len with h0 | h0
    · subst h0
      exact ⟨some a, 0, cap, [], hcs, Rows.nil (by unfold maxLen at hm; omega), by simp⟩
    · obtain ⟨y0, cs0, hr0, hl0, hc0⟩ := hel' 0 h0
      have ha : a.spot = none ∧ a.block < w.heap.size := by
        have := hc0 0 _ (List.getElem?_eq_getElem (by omega))
        simp only [Nat.zero_mul, Nat.add_zero] at this
        have ha0 : a.add 0 = a := by simp [Addr.add]
        rw [ha0] at this
        unfold World.cell? at this
        split at this
        · rename_i ho
          split at this
          · cases this
          · rename_i hs
            exact ⟨by simpa using hs, lt_of_heap ho⟩
        · cases this
      obtain ⟨b, off, sp⟩ := a
      obtain ⟨rfl, hlt⟩ := ha
      obtain ⟨f, hf⟩ : ∃ f : Nat → α, ∀ i, i < len → ∃ cs', r w w.heap.size (f i) cs' ∧ cs'.length = k ∧ ∀ j u, cs'[j]? = some u → w.cell? ((⟨b, off, none⟩ : Addr).add (i * k + j)) = some u := by
        refine ⟨fun i => if h : i < len then Classical.choose (hel' i h) else y0, fun i h => ?_⟩
        simp only [dif_pos h]
        exact Classical.choose_spec (hel' i h)
      refine ⟨_, len, cap, (List.range len).map f, hcs, ⟨by simp, hl, by unfold maxLen at hm; omega, fun _ => ⟨b, off, rfl, hlt, fun i x hx => ?_⟩⟩, hwl⟩
      rw [List.getElem?_map] at hx
      have hil : i < len := by
        rcases Nat.lt_or_ge i len with h | h
        · exact h
        · rw [List.getElem?_eq_none (by simpa using h)] at hx
          cases hx
      rw [List.getElem?_range hil] at hx
      simp at hx
      subst hx
      obtain ⟨cs', h1, _, h3⟩ := hf i hil
      refine ⟨cs', h1, fun j u hj => ?_⟩
      have := h3 j u hj
      rw [addr_add, ← Nat.add_assoc] at this
      exact this
/-- An element of integers. -/
theorem flat_el {α : Type} {en : α → List Value} {k d : Nat} {e : TypeId} (dec : List Int → α) (hfl : flatInt P d e = true) (hC : P.cellsOf e = k) (hdec : ∀ z : List Int, z.length = k → en (dec z) = z.map (.int .i64)) {fuel : Nat} {cs : List Value} {x : DataW H × List MemPlace}
    (h : DataW.trod enc P w base spare held fuel e cs = some x) : ∃ a : α, Rep.flat en w w.heap.size a cs := by
  obtain ⟨hl, hints⟩ := flat_cells d e fuel cs x hfl h
  obtain ⟨zs, rfl, _⟩ := ints_of cs hints
  refine ⟨dec zs, ?_⟩
  show _ = _
  rw [hdec zs (by simpa [hC] using hl)]
theorem open_arg {α : Type} {r : Rep α} {k : Nat} {t e : TypeId} {b0 : Nat} {rr : Reach} {v : Value} {dt : DataW H} {pl : List MemPlace} (ht : P.underlying t = some (.slice e)) (hC : P.cellsOf e = k) (hk0 : 0 < k)
    (hel : ∀ fuel cs x, DataW.trod enc P w base spare held fuel e cs = some x → Light P e x.1 → ∃ a : α, r w w.heap.size a cs)
    (hv : Value.okWide P w rr b0 t v) (h : DataW.Trod enc P w base spare held t v dt pl) (hw : Light P t dt) : ∃ A n c l, v = .slice A n c ∧ Rows k r w w.heap.size A n c l ∧ n * P.bytesOf e ≤ reachBytes := by
  obtain ⟨a0, len, cap, rfl⟩ := okWide_slice ht hv
  obtain ⟨fuel, hf⟩ := h
  obtain ⟨A, n, c, l, hcs, h1, h2⟩ := open_cells ht hC hk0 hel hf hw
  simp [Value.cells] at hcs
  obtain ⟨rfl, rfl, rfl⟩ := hcs
  exact ⟨_, _, _, l, rfl, h1, h2⟩
end
end Go.Proofs.YtbmbpannhncpjaaDoor
