/- A rule as an argument, opened: its parts are at most its bulk. -/
import Derived.Test.YtbmbpannhncpjaaDoorU22
import Derived.Test.YtbmbpannhncpjaaDoorRows
namespace Go.Proofs.YtbmbpannhncpjaaDoor
open Go.RowKit Go.ChangeShapes Go.WideShapes Go.Deep

theorem bulk_one {H : Type} (d : DataW H) : 1 ≤ Rows.uptoBulk d := by
  cases d with
  | lit l => cases l <;> simp [Rows.uptoBulk]
  | _ => simp [Rows.uptoBulk]
theorem parts_bulk {H : Type} (dep : Int) (f : Nat → Ru) (D : Nat → DataW H) : ∀ js : List Nat, (∀ i ∈ js, ∀ dep, (partsD dep (f i)).length ≤ Rows.uptoBulk (D i)) → (partsL dep (js.map f)).length ≤ Rows.uptoBulkAll (js.map D)
  | [], _ => by simp [partsL]
  | j :: js, h => by
    have h1 := parts_bulk dep f D js fun i hi => h i (by simp [hi])
    have h2 := h j (by simp) dep
    simp only [List.map_cons, partsL, List.length_append, Rows.uptoBulkAll]
    omega
section
variable {H : Type} {enc : TypeId × Value → H} {P : Program} {w : World} {base : Nat} {spare : Nat → Bool} {held : Bool}
/-- As open_cellsS, each element told beside what it reads as. -/
theorem open_cellsQ {α : Type} {r : Rep α} {Q : α → DataW H → Prop} {k : Nat} {t e : TypeId} {fuel : Nat} {cs : List Value} {x : DataW H × List MemPlace} (ht : P.underlying t = some (.slice e)) (hC : P.cellsOf e = k) (hk0 : 0 < k)
    (hel : ∀ fuel cs (y : DataW H × List MemPlace), DataW.trod enc P w base spare held fuel e cs = some y → SizeOf.sizeOf y.1 < SizeOf.sizeOf x.1 → Light P e y.1 → ∃ a : α, r w w.heap.size a cs ∧ Q a y.1)
    (h : DataW.trod enc P w base spare held fuel t cs = some x) (hw : Light P t x.1) : ∃ A n c l, cs = [.slice A n c] ∧ Rows k r w w.heap.size A n c l ∧ n * P.bytesOf e ≤ reachBytes ∧ (l = [] ∨ ∃ (f : Nat → α) (D : Nat → DataW H) (spare' : List (DataW H)), l = (List.range n).map f ∧ x.1 = .slice ((List.range n).map D) spare' ∧ ∀ i, i < n → Q (f i) (D i)) := by
  rcases open_slice ht h with ⟨hcs, _⟩ | ⟨a, len, cap, m, n, D, Pl, hcs, hb, hl, hm, hmm, hx, hi⟩
  · exact ⟨none, 0, 0, [], hcs, Rows.nil (by decide), by simp, .inl rfl⟩
  · subst hx
    have hlm : len ≤ m := by rw [hmm]; split <;> omega
    have hwl : len * P.bytesOf e ≤ reachBytes := by
      have := hw ((len + (m - len)) * P.bytesOf e) (by simp [DataW.weights, ht])
      exact Nat.le_trans (Nat.mul_le_mul_right _ (by omega)) this
    have hel' : ∀ i, i < len → ∃ (y : α) (cs' : List Value), r w w.heap.size y cs' ∧ cs'.length = k ∧ (∀ j u, cs'[j]? = some u → w.cell? (a.add (i * k + j)) = some u) ∧ Q y (D i) := by
      intro i hil
      obtain ⟨cs', hc, htr⟩ := hi i (by omega)
      rw [hC] at hc
      obtain ⟨_, hlc, hcell⟩ := World.cells?_some hc
      have hmem : D i ∈ (List.range len).map D := List.mem_map.2 ⟨i, List.mem_range.2 hil, rfl⟩
      have hsz := List.sizeOf_lt_of_mem hmem
      obtain ⟨y, hy, hQ⟩ := hel n cs' _ htr (by simp only [DataW.slice.sizeOf_spec]; omega) fun q hq => hw q (by
        simp only [DataW.weights, ht]
        exact List.mem_cons_of_mem _ (List.mem_append_left _ (weightsAll_mem (d := D i) hmem hq)))
      refine ⟨y, cs', hy, hlc, fun j u hj => ?_, hQ⟩
      have hjk : j < k := by rw [← hlc]; exact (List.getElem?_eq_some_iff.1 hj).1
      have := hcell j hjk
      rw [hj] at this
      rw [← Go.Deep.add_add]
      exact this
    rcases Nat.eq_zero_or_pos len with h0 | h0
    · subst h0
      exact ⟨some a, 0, cap, [], hcs, Rows.nil (by unfold maxLen at hm; omega), by simp, .inl rfl⟩
    · obtain ⟨y0, cs0, hr0, hl0, hc0, hq0⟩ := hel' 0 h0
      have ha : a.spot = none ∧ a.block < w.heap.size := by
        have := hc0 0 _ (List.getElem?_eq_getElem (by omega))
        simp only [Nat.zero_mul, Nat.add_zero] at this
        have ha0 : a.add 0 = a := by simp [Addr.add]
        rw [ha0] at this
        unfold World.cell? at this
        split at this
        · rename_i ho
          split at this
          · cases this
          · rename_i hs
            exact ⟨by simpa using hs, lt_of_heap ho⟩
        · cases this
      obtain ⟨b, off, sp⟩ := a
      obtain ⟨rfl, hlt⟩ := ha
      obtain ⟨f, hf⟩ : ∃ f : Nat → α, ∀ i, i < len → ∃ cs', r w w.heap.size (f i) cs' ∧ cs'.length = k ∧ (∀ j u, cs'[j]? = some u → w.cell? ((⟨b, off, none⟩ : Addr).add (i * k + j)) = some u) ∧ Q (f i) (D i) := by
        refine ⟨fun i => if h : i < len then Classical.choose (hel' i h) else y0, fun i h => ?_⟩
        simp only [dif_pos h]
        exact Classical.choose_spec (hel' i h)
      refine ⟨_, len, cap, (List.range len).map f, hcs, ⟨by simp, hl, by unfold maxLen at hm; omega, fun _ => ⟨b, off, rfl, hlt, fun i x hx => ?_⟩⟩, hwl, .inr ⟨f, D, _, rfl, rfl, fun i hi => (hf i hi).elim fun _ h => h.2.2.2⟩⟩
      rw [List.getElem?_map] at hx
      have hil : i < len := by
        rcases Nat.lt_or_ge i len with h | h
        · exact h
        · rw [List.getElem?_eq_none (by simpa using h)] at hx
          cases hx
      rw [List.getElem?_range hil] at hx
      simp at hx
      subst hx
      obtain ⟨cs', h1, _, h3, _⟩ := hf i hil
      refine ⟨cs', h1, fun j u hj => ?_⟩
      have := h3 j u hj
      rw [addr_add, ← Nat.add_assoc] at this
      exact this
end
section
variable {H : Type} {enc : TypeId × Value → H} {w : World} {base : Nat} {spare : Nat → Bool} {held : Bool}
set_option maxRecDepth 100000 in
set_option maxHeartbeats 1000000 in
theorem ru_elQ : ∀ (s : Nat) (fuel : Nat) (cs : List Value) (x : DataW H × List MemPlace), SizeOf.sizeOf x.1 ≤ s → DataW.trod enc Tryd.prog w base spare held fuel 24 cs = some x → Light Tryd.prog 24 x.1 → ∃ a : Ru, ruEx w w.heap.size a cs ∧ ∀ dep, (partsD dep a).length ≤ Rows.uptoBulk x.1 := by
  intro s
  induction s with
  | zero =>
    intro fuel cs x hs
    have : 0 < SizeOf.sizeOf x.1 := by cases x.1 <;> simp <;> omega
    omega
  | succ s ih =>
    intro fuel cs x hs h hw
    obtain ⟨xs, n, rfl, hx, hlen, hxl, hf⟩ := DataW.trod_struct Tryd.underlying24 h
    have hl6 : cs.length = 6 := hlen.trans (by kernel_rfl)
    have hx6 : xs.length = 6 := hxl.trans (by kernel_rfl)
    obtain ⟨c0, c1, c2, c3, c4, c5, rfl⟩ := six hl6
    obtain ⟨x0, x1, x2, x3, x4, x5, rfl⟩ := six hx6
    have zi : Tryd.prog.cellsOf 3 = 1 := by kernel_rfl
    have zs : Tryd.prog.cellsOf 9 = 1 := by kernel_rfl
    have zl : Tryd.prog.cellsOf 22 = 1 := by kernel_rfl
    have h0 : DataW.trod enc Tryd.prog w base spare held n 3 (List.take (Tryd.prog.cellsOf 3) [c0, c1, c2, c3, c4, c5]) = some x0 := hf 0 _ rfl
    have h1 : DataW.trod enc Tryd.prog w base spare held n 3 (List.take (Tryd.prog.cellsOf 3) [c1, c2, c3, c4, c5]) = some x1 := hf 1 _ rfl
    have h2 : DataW.trod enc Tryd.prog w base spare held n 9 (List.take (Tryd.prog.cellsOf 9) [c2, c3, c4, c5]) = some x2 := hf 2 _ rfl
    have h3 : DataW.trod enc Tryd.prog w base spare held n 3 (List.take (Tryd.prog.cellsOf 3) [c3, c4, c5]) = some x3 := hf 3 _ rfl
    have h4 : DataW.trod enc Tryd.prog w base spare held n 3 (List.take (Tryd.prog.cellsOf 3) [c4, c5]) = some x4 := hf 4 _ rfl
    have h5 : DataW.trod enc Tryd.prog w base spare held n 22 (List.take (Tryd.prog.cellsOf 22) [c5]) = some x5 := hf 5 _ rfl
    rw [zi] at h0 h1 h3 h4
    rw [zs] at h2
    rw [zl] at h5
    simp only [List.take_succ_cons, List.take_zero] at h0 h1 h2 h3 h4 h5
    have l5 : Light Tryd.prog 22 x5.1 := light_field (xs := [x0, x1, x2, x3, x4, x5]) (j := 5) Tryd.underlying24 (by rw [hx] at hw; exact hw) rfl rfl
    obtain ⟨z0, e0⟩ := int_elU h0
    obtain ⟨z1, e1⟩ := int_elU h1
    obtain ⟨s2, e2, _, _⟩ := DataW.trod_string Tryd.underlying9 h2
    obtain ⟨z3, e3⟩ := int_elU h3
    obtain ⟨z4, e4⟩ := int_elU h4
    have hs5 : SizeOf.sizeOf x5.1 < SizeOf.sizeOf x.1 := by rw [hx]; simp only [List.map_cons, List.map_nil, DataW.agg.sizeOf_spec, List.cons.sizeOf_spec]; omega
    obtain ⟨A, n', c', l, e5, hrow, _, hq⟩ := open_cellsQ (r := ruEx) (Q := fun a d => ∀ dep, (partsD dep a).length ≤ Rows.uptoBulk d) (k := 6) Tryd.underlying22 (by kernel_rfl) (by decide) (fun fuel' cs' y hy hsz hly => ih fuel' cs' y (by omega) hy hly) h5 l5
    obtain ⟨hh, hrow'⟩ := rows_ex hrow
    simp only [List.cons.injEq, and_true] at e0 e1 e2 e3 e4 e5
    subst e0 e1 e2 e3 e4 e5
    refine ⟨.mk z0 z1 s2 z3 z4 A n' c' l, ⟨hh + 1, rfl, hrow'⟩, fun dep => ?_⟩
    have h5 : (partsL (wrap64 (dep + 1)) l).length + 1 ≤ Rows.uptoBulk x5.1 := by
      rcases hq with rfl | ⟨f, D, sp', rfl, hx5, hQ⟩
      · simpa [partsL] using bulk_one x5.1
      · rw [hx5]
        have := parts_bulk (wrap64 (dep + 1)) f D (List.range n') fun i hi => hQ i (List.mem_range.1 hi)
        simp only [Rows.uptoBulk]
        omega
    rw [partsD_eq, hx]
    simp only [List.length_cons, List.map_cons, List.map_nil, Rows.uptoBulk, Rows.uptoBulkAll]
    show (partsL (wrap64 (dep + 1)) l).length + 1 ≤ _
    omega
set_option maxRecDepth 100000 in
theorem open_ruleQ {b0 : Nat} {rr : Reach} {v : Value} {dt : DataW H} {pl : List MemPlace} (hv : Value.okWide Tryd.prog w rr b0 24 v) (h : DataW.Trod enc Tryd.prog w base spare held 24 v dt pl) (hw : Light Tryd.prog 24 dt) :
    ∃ (hh : Nat) (x : Ru), v = .agg #[.int .i64 x.op, .int .i64 x.course, .string x.name, .int .i64 x.n, .int .i64 x.d, .slice x.kA x.kn x.kc] ∧ RuIn hh w w.heap.size x ∧ ∀ dep, (partsD dep x).length ≤ Rows.uptoBulk dt := by
  obtain ⟨cs, rfl, hs⟩ := okWide_struct Tryd.underlying24 hv
  obtain ⟨fuel, hf⟩ := h
  obtain ⟨x, ⟨hh, hr⟩, hq⟩ := ru_elQ _ _ _ _ (Nat.le_refl _) hf hw
  cases hh with
  | zero => exact hr.elim
  | succ hh =>
    obtain ⟨h1, h2⟩ := hr
    simp only [Value.cells] at h1
    exact ⟨hh, x, by rw [show cs = x.enc.toArray by rw [← h1]]; rfl, h2, hq⟩
end
end Go.Proofs.YtbmbpannhncpjaaDoor
