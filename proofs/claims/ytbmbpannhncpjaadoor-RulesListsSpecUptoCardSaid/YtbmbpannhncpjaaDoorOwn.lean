/- Slices that the call itself has made, over any program: what they hold as a list; append. -/
import Derived.Test.YtbmbpannhncpjaaDoorCore
import Derived.Maps.AppendAt
import Derived.OwnWalk
namespace Go.Proofs.YtbmbpannhncpjaaDoor
open Go.RowKit

section
variable {α : Type} {enc : α → List Value} {k : Nat}
theorem flat_len (hk : ∀ x, (enc x).length = k) (l : List α) : (l.flatMap enc).length = l.length * k := by
  induction l with
  | nil => simp
  | cons x l ih => simp [ih, hk, Nat.add_mul, Nat.add_comm]
theorem flat_get (hk : ∀ x, (enc x).length = k) : ∀ (l : List α) (i : Nat) (x : α), l[i]? = some x → ∀ (j : Nat) (u : Value), (enc x)[j]? = some u → (l.flatMap enc)[i * k + j]? = some u
  | [], i, x, h => by simp at h
  | y :: l, 0, x, h => by
    intro j u hj
    simp at h
    subst h
    have : j < (enc y).length := (List.getElem?_eq_some_iff.1 hj).1
    simp [List.flatMap_cons, List.getElem?_append_left this, hj]
  | y :: l, i + 1, x, h => by
    intro j u hj
    have := flat_get hk l i x (by simpa using h) j u hj
    rw [List.flatMap_cons, List.getElem?_append_right (by rw [hk, Nat.add_mul]; omega), hk]
    have e : (i + 1) * k + j - k = i * k + j := by rw [Nat.add_mul]; omega
    rw [e, this]
theorem flat_at (hk : ∀ x, (enc x).length = k) (h0 : 0 < k) (l : List α) (q : Nat) (u : Value) (h : (l.flatMap enc)[q]? = some u) : ∃ x, l[q / k]? = some x ∧ (enc x)[q % k]? = some u := by
  have hq : q < l.length * k := by rw [← flat_len hk]; exact (List.getElem?_eq_some_iff.1 h).1
  have hi : q / k < l.length := Nat.div_lt_of_lt_mul (by rw [Nat.mul_comm]; exact hq)
  have hx : l[q / k]? = some l[q / k] := List.getElem?_eq_getElem hi
  have hm : q % k < (enc l[q / k]).length := by rw [hk]; exact Nat.mod_lt _ h0
  have hu := flat_get hk l (q / k) _ hx (q % k) _ (List.getElem?_eq_getElem hm)
  have e : q / k * k + q % k = q := Nat.div_add_mod' q k
  rw [e, h] at hu
  injection hu with hu
  exact ⟨_, hx, by rw [hu, List.getElem?_eq_getElem hm]⟩

variable {w w' : World} {base : Nat} {e : TypeId} {v : Value} {n : Nat} {l : List α}
/-- What a slice of the call's own holds, as a list. -/
theorem own_rows (hk : ∀ x, (enc x).length = k) (h0 : 0 < k) (h : w.ownsRow base e k v n (l.flatMap enc)) : ∃ A c, v = .slice A n c ∧ Rows k (Rep.flat enc) w w.heap.size A n c l := by
  obtain ⟨hl, hv⟩ := h
  rw [flat_len hk] at hl
  have hn : n = l.length := (Nat.eq_of_mul_eq_mul_right h0 hl).symm
  rcases hv with ⟨rfl, rfl⟩ | ⟨g, cap, cur, rfl, hg, hh, hnc, hcm, hsz, htake⟩
  · exact ⟨none, 0, rfl, hn, Nat.le_refl _, by omega, fun h => by omega⟩
  · have hgl := lt_of_heap hh
    refine ⟨some ⟨g, 0, none⟩, cap, rfl, hn, hnc, by unfold maxLen at hcm; omega, fun _ => ⟨g, 0, rfl, hgl, fun i x hi => ⟨enc x, rfl, fun j u hj => ?_⟩⟩⟩
    have := flat_get hk l i x hi j u hj
    rw [← htake, List.getElem?_take] at this
    split at this
    · rw [cell_of_heap hh]
      simpa using this
    · cases this

theorem rows_of_heap {g : Nat} {cs : Array Value} {t : TypeId} {fr : Nat × Nat} (hk : ∀ x, (enc x).length = k) (hh : w.heap[g]? = some (.cells cs t fr)) {c : Nat} (hc : l.length ≤ c) (hc' : c ≤ 9223372036854775807) (ht : cs.toList.take (l.length * k) = l.flatMap enc) :
    Rows k (Rep.flat enc) w w.heap.size (some ⟨g, 0, none⟩) l.length c l := by
  have hgl := lt_of_heap hh
  refine ⟨rfl, hc, hc', fun _ => ⟨g, 0, rfl, hgl, fun i x hi => ⟨enc x, rfl, fun j u hj => ?_⟩⟩⟩
  have := flat_get hk l i x hi j u hj
  rw [← ht, List.getElem?_take] at this
  split at this
  · rw [cell_of_heap hh]
    simpa using this
  · cases this
theorem own_len (hk : ∀ x, (enc x).length = k) (h0 : 0 < k) (h : w.ownsRow base e k v n (l.flatMap enc)) : n = l.length := by
  have hl := h.1
  rw [flat_len hk] at hl
  exact (Nat.eq_of_mul_eq_mul_right h0 hl).symm

/-- 'append(v, x)': x lies alone in a new block. -/
theorem run_append_one {P : Program} {t ty : TypeId} {i : TypeInfo} {z : Value} {bytes : Nat} (ht : P.underlying t = some (.slice e)) (hi : P.info? e = some i) (hz : i.zero = some z) (hsize : i.size = k) (hby : i.bytes = bytes) (hzs : z.cells.size = k)
    (hk : ∀ x, (enc x).length = k) (h0 : 0 < k) (h1 : ∀ x, ∀ u ∈ enc x, u.oneCell' = true) (hown : w.ownsRow base e k v n (l.flatMap enc)) (x : α) (hn : (n + 1) * bytes ≤ 140737488355328) (hnm : n + 1 ≤ 9223372036854775807) (hb : base ≤ w.heap.size) :
    ∃ v' w', (Builtin.append_ #[t, t] ty #[v, .slice (some ⟨w.heap.size, 0, none⟩) 1 1]).run P (w.alloc (.cells (enc x).toArray e)) = .ok v' w' ∧ w'.ownsRow base e k v' (n + 1) ((l ++ [x]).flatMap enc) ∧
      (w.alloc (.cells (enc x).toArray e)).grownBy w' v.ownBlock ∧ (v'.ownBlock = v.ownBlock ∨ v'.ownBlock = some (w.heap.size + 1)) := by
  have hnew := World.alloc_heap_new w (.cells (enc x).toArray e)
  obtain ⟨v', w', hrun, h2, h3, _, h5⟩ := run_append_own_at (P := P) (w.alloc (.cells (enc x).toArray e)) base t ty e i z k bytes ht hi hz hsize hby hzs h0 v n (l.flatMap enc) (hown.alloc _) ⟨w.heap.size, 0, none⟩ 1 1 (enc x)
    (by rw [hk]; omega) (fun j u hj => by rw [addr_add, Nat.zero_add, cell_of_heap hnew]; simpa using hj) (h1 x) (by unfold maxLen; omega) hn (by simp; omega)
  exact ⟨v', w', hrun, by rw [List.flatMap_append]; simpa using h2, h3, by simpa using h5⟩

/-- 'append(v, s...)', s read as a list. -/
theorem run_append_rows {P : Program} {t ty : TypeId} {i : TypeInfo} {z : Value} {bytes n₀ m c : Nat} {A : Option Addr} {s : List α} (ht : P.underlying t = some (.slice e)) (hi : P.info? e = some i) (hz : i.zero = some z) (hsize : i.size = k) (hby : i.bytes = bytes) (hzs : z.cells.size = k)
    (hk : ∀ x, (enc x).length = k) (h0 : 0 < k) (h1 : ∀ x, ∀ u ∈ enc x, u.oneCell' = true) (hown : w.ownsRow base e k v n (l.flatMap enc)) (hs : Rows k (Rep.flat enc) w n₀ A m c s)
    (hn : (n + m) * bytes ≤ 140737488355328) (hnm : n + m ≤ 9223372036854775807) (hb : base ≤ w.heap.size) :
    ∃ v' w', (Builtin.append_ #[t, t] ty #[v, .slice A m c]).run P w = .ok v' w' ∧ w'.ownsRow base e k v' (n + m) ((l ++ s).flatMap enc) ∧ w.grownBy w' v.ownBlock ∧ (v'.ownBlock = v.ownBlock ∨ v'.ownBlock = some w.heap.size) := by
  rcases A with _ | ad
  · have hm0 : m = 0 := by
      rcases Nat.eq_zero_or_pos m with h | h
      · exact h
      · obtain ⟨_, _, he, _⟩ := hs.2.2.2 h
        cases he
    subst hm0
    have hs0 : s = [] := List.eq_nil_of_length_eq_zero hs.1.symm
    subst hs0
    refine ⟨v, w, ?_, by simpa using hown, World.grownBy.refl w _, .inl rfl⟩
    rcases hown.2 with ⟨rfl, rfl⟩ | ⟨g, cap, cur, rfl, _, _, hnc, _⟩
    · simp [Builtin.append_, run_underlying ht, sizeOf, typeInfo, hi, Builtin.lenOf, Builtin.firstCells]
    · simp [Builtin.append_, run_underlying ht, sizeOf, typeInfo, hi, Builtin.lenOf, Builtin.firstCells, hnc, storeCells]
  · have hcells : ∀ j u, (s.flatMap enc)[j]? = some u → w.cell? (ad.add j) = some u := by
      intro j u hj
      obtain ⟨x, hx, hu⟩ := flat_at hk h0 s j u hj
      have hm : 0 < m := by
        rw [hs.1]
        exact Nat.lt_of_le_of_lt (Nat.zero_le _) (List.getElem?_eq_some_iff.1 hx).1
      obtain ⟨b, off, he, _, hx'⟩ := hs.2.2.2 hm
      obtain ⟨cs, rfl, hc⟩ := hx' _ _ hx
      injection he with he
      subst he
      rw [addr_add]
      have := hc _ _ hu
      rwa [Nat.add_assoc, Nat.div_add_mod'] at this
    obtain ⟨v', w', hrun, h2, h3, _, h5⟩ := run_append_own_at (P := P) w base t ty e i z k bytes ht hi hz hsize hby hzs h0 v n (l.flatMap enc) hown ad m c (s.flatMap enc)
      (by rw [flat_len hk, hs.1]) hcells (fun u hu => by obtain ⟨x, _, hx⟩ := List.mem_flatMap.1 hu; exact h1 x u hx) (by unfold maxLen; omega) hn hb
    exact ⟨v', w', hrun, by rw [List.flatMap_append]; exact h2, h3, h5⟩
end
section
variable {P : Program} {w w' : World}
/-- An append whose run is known, at its operation. -/
theorem wp_append_known {o : Oper} {a : Act} {K : Act → World → Prop} {Q : Exit → Act → World → Prop} (s x : Operand) (t : TypeId)
    (ho : o.op = .call { callee := .builtin .append, args := #[s, x], argTypes := #[t, t] }) {v u v' : Value} (hs : a.eval s = v) (hx : a.eval x = u) (hrun : (Builtin.append_ #[t, t] o.type #[v, u]).run P w = .ok v' w')
    (h : K (a.put o.dst v') w') : o.wp P a w K Q := by
  unfold Oper.wp execOp
  simp only [ho, resolve, invoke, builtin, Sem.run_bind, Sem.run_pure, Result.andThen_ok, List.map_toArray, List.map_cons, List.map_nil, hs, hx, hrun]
  exact h
theorem wpList_append_known {ops : Array Oper} {rest : List Oper} {o : Oper} {a : Act} {Q : Exit → Act → World → Prop} (hw : Region.wanted o (yielded ops a.tmps) = true) (s x : Operand) (t : TypeId)
    (ho : o.op = .call { callee := .builtin .append, args := #[s, x], argTypes := #[t, t] }) {v u v' : Value} (hs : a.eval s = v) (hx : a.eval x = u) (hrun : (Builtin.append_ #[t, t] o.type #[v, u]).run P w = .ok v' w')
    (h : wpList P ops Q rest (a.put o.dst v') w') : wpList P ops Q (o :: rest) a w :=
  BigFrame.wpList_want hw fun _ hK => wp_append_known s x t ho hs hx hrun (hK _ _ h)
end
end Go.Proofs.YtbmbpannhncpjaaDoor
