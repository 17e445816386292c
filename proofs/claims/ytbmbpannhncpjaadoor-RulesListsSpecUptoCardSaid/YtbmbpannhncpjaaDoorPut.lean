/- Stores of whole elements into a slice's own block; clearing its end. Over any program. -/
import Derived.Test.YtbmbpannhncpjaaDoorOwn
import Derived.Laws.CopyRow
namespace Go.Proofs.YtbmbpannhncpjaaDoor
open Go.RowKit
section
variable {α : Type} {enc : α → List Value} {k base g cap n : Nat} {e : TypeId} {w : World} {P : Program}

/-- Element i of a row of cells turned. -/
def putAt (cs : Array Value) (o : Nat) (vs : List Value) : Array Value := (cs.toList.take o ++ vs ++ cs.toList.drop (o + vs.length)).toArray
theorem putAt_size (cs : Array Value) (o : Nat) (vs : List Value) (h : o + vs.length ≤ cs.size) : (putAt cs o vs).size = cs.size := by
  simp [putAt]; omega
theorem flat_set (hk : ∀ x, (enc x).length = k) (x : α) : ∀ (M : List α) (i : Nat), i < M.length → (M.set i x).flatMap enc = (M.flatMap enc).take (i * k) ++ enc x ++ (M.flatMap enc).drop (i * k + k)
  | [], i, h => by simp at h
  | y :: M, 0, _ => by
    simp only [List.set_cons_zero, List.flatMap_cons, Nat.zero_mul, List.take_zero, List.nil_append, Nat.zero_add]
    rw [List.drop_append_of_le_length (by rw [hk]; exact Nat.le_refl _), List.drop_of_length_le (by rw [hk]; exact Nat.le_refl _)]
    rfl
  | y :: M, i + 1, h => by
    simp only [List.set_cons_succ, List.flatMap_cons]
    rw [flat_set hk x M i (by simpa using h), Nat.add_mul, Nat.one_mul]
    have hy := hk y
    have e1 : (enc y ++ M.flatMap enc).take (i * k + k) = enc y ++ (M.flatMap enc).take (i * k) := by
      rw [List.take_append, List.take_of_length_le (by omega), hy, Nat.add_sub_cancel]
    have e2 : (enc y ++ M.flatMap enc).drop (i * k + k + k) = (M.flatMap enc).drop (i * k + k) := by
      rw [List.drop_append, List.drop_of_length_le (by omega), hy, Nat.add_sub_cancel, List.nil_append]
    rw [e1, e2]
    simp
theorem take_putAt (cs : Array Value) (o m : Nat) (vs : List Value) (h : o + vs.length ≤ m) (hm : m ≤ cs.size) : (putAt cs o vs).toList.take m = (cs.toList.take m).take o ++ vs ++ (cs.toList.take m).drop (o + vs.length) := by
  have hl : cs.toList.length = cs.size := Array.length_toList
  simp only [putAt]
  rw [List.append_assoc, List.append_assoc, List.take_append, List.take_of_length_le (by simp; omega), List.take_append, List.take_of_length_le (l := vs) (by simp; omega), List.take_take, Nat.min_eq_left (by omega), List.drop_take]
  congr 3
  simp
  omega

/-- Element i of an own row turned: the row again. -/
theorem own_put (hk : ∀ x, (enc x).length = k) {M : List α} (h : w.ownsRow base e k (.slice (some ⟨g, 0, none⟩) n cap) n (M.flatMap enc)) (h0 : 0 < k) {i : Nat} (hi : i < n) (x : α) :
    ∃ cs, w.heap[g]? = some (.cells cs e (0, 0)) ∧ i * k + (enc x).length ≤ cs.size ∧ base ≤ g ∧ (w.setRow g (putAt cs (i * k) (enc x))).ownsRow base e k (.slice (some ⟨g, 0, none⟩) n cap) n ((M.set i x).flatMap enc) := by
  have hlen := own_len hk h0 h
  obtain ⟨h1, h2⟩ := h
  rcases h2 with ⟨h2, _⟩ | ⟨g', cap', cs, hv, hg, hh, hnc, hcm, hsz, ht⟩
  · cases h2
  · injection hv with e1 e2 e3
    injection e1 with e1
    injection e1 with e1
    subst e1 e3
    have hik : i * k + k ≤ n * k := by
      have := Nat.mul_le_mul_right k (show i + 1 ≤ n by omega)
      rwa [Nat.add_mul, Nat.one_mul] at this
    have hnk : n * k ≤ cap * k := Nat.mul_le_mul_right k hnc
    refine ⟨cs, hh, by rw [hk]; omega, hg, by rw [flat_len hk, List.length_set, ← hlen], .inr ⟨g, cap, _, rfl, hg, setRow_heap w g cs _ e _ hh, hnc, hcm, by rw [putAt_size _ _ _ (by rw [hk]; omega), hsz], ?_⟩⟩
    rw [take_putAt _ _ _ _ (by rw [hk]; omega) (by omega), ht, flat_set hk x M i (by omega), hk]

theorem run_store_at {t ty : TypeId} {cs : Array Value} {vs : List Value} {o : Nat} (hh : w.heap[g]? = some (.cells cs t (0, 0))) (hi : (P.info? ty).map (·.size) = some vs.length) (hl : o + vs.length ≤ cs.size) (h1 : ∀ v ∈ vs, v.oneCell' = true) :
    (storeVar ty ⟨g, o, none⟩ (.agg vs.toArray)).run P w = .ok () (w.setRow g (putAt cs o vs)) := by
  have hr := run_storeCells_at (P := P) g o t vs 0 cs w hh (by simpa using hl) h1
  cases hq : P.info? ty with
  | none => simp [hq] at hi
  | some i =>
    have hs : i.size = vs.length := by simpa [hq] using hi
    simp only [Nat.add_zero] at hr
    simp [storeVar, sizeOf, typeInfo, hq, Value.cells, hs, hr, putAt]
theorem wpList_store_at {ops : Array Oper} {rest : List Oper} {o : Oper} {a : Act} {Q : Exit → Act → World → Prop} (ty : TypeId) (x y : Operand) (hw : Region.wanted o (yielded ops a.tmps) = true) (ho : o.op = .store ty x y)
    {off : Nat} {t : TypeId} {cs : Array Value} {vs : List Value} (hx : a.eval x = .pointer (some ⟨g, off, none⟩)) (hy : a.eval y = .agg vs.toArray)
    (hh : w.heap[g]? = some (.cells cs t (0, 0))) (hi : (P.info? ty).map (·.size) = some vs.length) (hl : off + vs.length ≤ cs.size) (h1 : ∀ v ∈ vs, v.oneCell' = true)
    (h : wpList P ops Q rest (a.put o.dst undef) (w.setRow g (putAt cs off vs))) : wpList P ops Q (o :: rest) a w :=
  BigFrame.wpList_want hw fun _ hK => by
    unfold Oper.wp execOp
    simp only [ho, hx, hy, Instr.storeAt, Instr.sureAddr, Sem.run_bind, Sem.run_pure, Result.andThen_ok, run_store_at hh hi hl h1]
    exact hK _ _ h
theorem below_setRow {m : Nat} {w0 : World} (hb : Below m w0 w) (hg : m ≤ g) (cs : Array Value) : Below m w0 (w.setRow g cs) :=
  hb.trans ⟨rfl, rfl, rfl, by simp [World.setRow], fun q hq => setRow_other w g q cs (by omega)⟩
/-- The end of an own row cleared: what is ahead of it stays. -/
theorem own_clear (hk : ∀ x, (enc x).length = k) {M : List α} (h : w.ownsRow base e k (.slice (some ⟨g, 0, none⟩) n cap) n (M.flatMap enc)) (h0 : 0 < k) {i : Nat} (hi : i ≤ n) (vs : List Value) (hvs : vs.length = (n - i) * k) :
    ∃ cs, w.heap[g]? = some (.cells cs e (0, 0)) ∧ i * k + vs.length ≤ cs.size ∧ base ≤ g ∧ (w.setRow g (putAt cs (i * k) vs)).ownsRow base e k (.slice (some ⟨g, 0, none⟩) i cap) i ((M.take i).flatMap enc) := by
  have hlen := own_len hk h0 h
  obtain ⟨h1, h2⟩ := h
  rcases h2 with ⟨h2, _⟩ | ⟨g', cap', cs, hv, hg, hh, hnc, hcm, hsz, ht⟩
  · cases h2
  · injection hv with e1 e2 e3
    injection e1 with e1
    injection e1 with e1
    subst e1 e3
    have hik : i * k + (n - i) * k = n * k := by rw [← Nat.add_mul]; congr 1; omega
    have hnk : n * k ≤ cap * k := Nat.mul_le_mul_right k hnc
    refine ⟨cs, hh, by omega, hg, by rw [flat_len hk, List.length_take, ← hlen, Nat.min_eq_left hi], .inr ⟨g, cap, _, rfl, hg, setRow_heap w g cs _ e _ hh, by omega, hcm, by rw [putAt_size _ _ _ (by omega), hsz], ?_⟩⟩
    have ht2 : cs.toList.take (i * k) = (M.flatMap enc).take (i * k) := by rw [← ht, List.take_take, Nat.min_eq_left (by omega)]
    have hl : cs.toList.length = cs.size := Array.length_toList
    rw [putAt, List.append_assoc, List.take_append_of_le_length (by simp; omega), List.take_take, Nat.min_self, ht2]
    have hsplit : M.flatMap enc = (M.take i).flatMap enc ++ (M.drop i).flatMap enc := by rw [← List.flatMap_append, List.take_append_drop]
    rw [hsplit, List.take_append_of_le_length (by rw [flat_len hk, List.length_take, ← hlen, Nat.min_eq_left hi]; exact Nat.le_refl _), List.take_of_length_le (by rw [flat_len hk, List.length_take, ← hlen, Nat.min_eq_left hi]; exact Nat.le_refl _)]
theorem zeroCells_one {z : Array Value} (h : ∀ v ∈ z, v.oneCell' = true) (m : Nat) : ∀ v ∈ (Builtin.zeroCells z m).toList, v.oneCell' = true := by
  intro v hv
  simp only [Builtin.zeroCells, Array.toList_map, List.mem_map] at hv
  obtain ⟨i, hi, rfl⟩ := hv
  have hi' : i < m * z.size := by simpa using hi
  have hz : 0 < z.size := by
    rcases Nat.eq_zero_or_pos z.size with h0 | h0
    · rw [h0] at hi'; simp at hi'
    · exact h0
  have hm : i % z.size < z.size := Nat.mod_lt _ hz
  rw [getElem!_pos z (i % z.size) hm]
  exact h _ (Array.getElem_mem hm)
theorem run_clear_at {t ty e' : TypeId} {z : Value} {cs : Array Value} {m c off : Nat} (ht : P.underlying t = some (.slice e')) (hz : ∀ w, (zeroValue e').run P w = .ok z w) (h1 : ∀ v ∈ z.cells, v.oneCell' = true) (hm : 0 < m)
    (hh : w.heap[g]? = some (.cells cs e (0, 0))) (hl : off + m * z.cells.size ≤ cs.size) :
    (Builtin.clear_ #[t] ty #[.slice (some ⟨g, off, none⟩) m c]).run P w = .ok (.tuple #[]) (w.setRow g (putAt cs off (Builtin.zeroCells z.cells m).toList)) := by
  have hr := run_storeCells_at (P := P) g off e (Builtin.zeroCells z.cells m).toList 0 cs w hh (by simpa [size_zeroCells] using hl) (zeroCells_one h1 m)
  simp only [Nat.add_zero] at hr
  obtain ⟨m', rfl⟩ : ∃ m', m = m' + 1 := ⟨m - 1, by omega⟩
  simp [Builtin.clear_, run_underlying ht, hz, hr, putAt]
theorem wpList_clear_known {ops : Array Oper} {rest : List Oper} {o : Oper} {a : Act} {Q : Exit → Act → World → Prop} {w' : World} (hw : Region.wanted o (yielded ops a.tmps) = true) (x : Operand) (t : TypeId)
    (ho : o.op = .call { callee := .builtin .clear, args := #[x], argTypes := #[t] }) {u : Value} (hx : a.eval x = u) (hrun : (Builtin.clear_ #[t] o.type #[u]).run P w = .ok (.tuple #[]) w')
    (h : wpList P ops Q rest (a.put o.dst (.tuple #[])) w') : wpList P ops Q (o :: rest) a w :=
  BigFrame.wpList_want hw fun _ hK => by
    unfold Oper.wp execOp
    simp only [ho, resolve, invoke, builtin, Sem.run_bind, Sem.run_pure, Result.andThen_ok, List.map_toArray, List.map_cons, List.map_nil, hx, hrun]
    exact hK _ _ h
end
end Go.Proofs.YtbmbpannhncpjaaDoor
namespace Go.Proofs.YtbmbpannhncpjaaDoor
open Go.RowKit
section
variable {α : Type} {enc : α → List Value} {k : Nat}
theorem flat_set_cell (hk : ∀ x, (enc x).length = k) {x x' : α} {j : Nat} {u : Value} (hj : j < k) (he : enc x' = (enc x).set j u) : ∀ (M : List α) (i : Nat), M[i]? = some x → (M.set i x').flatMap enc = (M.flatMap enc).set (i * k + j) u
  | [], i, h => by simp at h
  | y :: M, 0, h => by
    simp at h
    subst h
    simp only [List.set_cons_zero, List.flatMap_cons, Nat.zero_mul, Nat.zero_add]
    rw [List.set_append_left _ _ (by rw [hk]; exact hj), he]
  | y :: M, i + 1, h => by
    have ih := flat_set_cell hk hj he M i (by simpa using h)
    simp only [List.set_cons_succ, List.flatMap_cons]
    rw [ih, List.set_append_right _ _ (by rw [hk, Nat.add_mul]; omega), hk]
    congr 2
    rw [Nat.add_mul]; omega
theorem own_set {w : World} {base n cap g i j : Nat} {e : TypeId} {M : List α} {x x' : α} {u : Value} (hk : ∀ x, (enc x).length = k) (h : w.ownsRow base e k (.slice (some ⟨g, 0, none⟩) n cap) n (M.flatMap enc)) (h0 : 0 < k) (hx : M[i]? = some x) (hj : j < k) (he : enc x' = (enc x).set j u) :
    (w.setCell ⟨g, i * k + j, none⟩ u).ownsRow base e k (.slice (some ⟨g, 0, none⟩) n cap) n ((M.set i x').flatMap enc) := by
  have hlen := own_len hk h0 h
  have hi : i < M.length := (List.getElem?_eq_some_iff.1 hx).1
  obtain ⟨h1, h2⟩ := h
  rcases h2 with ⟨h2, _⟩ | ⟨g', cap', cs, hv, hg, hh, hnc, hcm, hsz, ht⟩
  · cases h2
  · injection hv with e1 e2 e3
    injection e1 with e1
    injection e1 with e1
    subst e1 e3
    refine ⟨by rw [flat_len hk, List.length_set, ← hlen], .inr ⟨g, cap, cs.setIfInBounds (i * k + j) u, rfl, hg, ?_, hnc, hcm, by simpa using hsz, ?_⟩⟩
    · simp [World.setCell, Array.getElem?_modify, hh]
    · have hik : i * k + k ≤ n * k := by
        have := Nat.mul_le_mul_right k (show i + 1 ≤ n by omega)
        rwa [Nat.add_mul, Nat.one_mul] at this
      rw [flat_set_cell hk hj he M i hx, ← ht, Array.toList_setIfInBounds, List.take_set]
end
end Go.Proofs.YtbmbpannhncpjaaDoor
namespace Go.Proofs.YtbmbpannhncpjaaDoor
open Go.RowKit

theorem info_size {P : Program} {t : TypeId} {k : Nat} (h : (P.info? t).map (fun i => i.size) = some k) : ∃ i, P.info? t = some i ∧ i.size = k := by
  cases hi : P.info? t with
  | none => simp [hi] at h
  | some i => exact ⟨i, rfl, by simpa [hi] using h⟩
section
variable {α : Type}
def firstM (p : α → Bool) (l : List α) : Int := match l.findIdx? p with | some i => i | none => -1
theorem firstM_ge (p : α → Bool) (l : List α) : decide (0 ≤ firstM p l) = l.any p := by
  unfold firstM
  cases h : l.findIdx? p with
  | none =>
    rw [List.findIdx?_eq_none_iff] at h
    have : l.any p = false := by rw [List.any_eq_false]; intro x hx; simpa using h x hx
    simp [this]
  | some i =>
    obtain ⟨hi, hp, _⟩ := List.findIdx?_eq_some_iff_getElem.1 h
    have : l.any p = true := by rw [List.any_eq_true]; exact ⟨l[i], List.getElem_mem hi, hp⟩
    simp [this]
theorem firstM_at {p : α → Bool} {l : List α} {k : Nat} {x : α} (hk : l[k]? = some x) (hx : p x = true) (h : (l.take k).all (fun m => !p m) = true) : firstM p l = k := by
  have : l.findIdx? p = some k := by
    obtain ⟨hk', hx'⟩ := List.getElem?_eq_some_iff.1 hk
    rw [List.findIdx?_eq_some_iff_getElem]
    refine ⟨hk', by rw [hx']; exact hx, fun j hj => ?_⟩
    have := List.all_eq_true.1 h l[j] (List.mem_take_iff_getElem.2 ⟨j, by omega, rfl⟩)
    simpa using this
  rw [firstM, this]
theorem firstM_no {p : α → Bool} {l : List α} (h : l.all (fun m => !p m) = true) : firstM p l = -1 := by
  have : l.findIdx? p = none := by
    rw [List.findIdx?_eq_none_iff]
    intro x hx
    simpa using List.all_eq_true.1 h x hx
  rw [firstM, this]
theorem firstM_none {p : α → Bool} {l : List α} (h : firstM p l < 0) : firstM p l = -1 ∧ l.filter (fun m => !p m) = l := by
  unfold firstM at *
  cases hf : l.findIdx? p with
  | none =>
    refine ⟨rfl, ?_⟩
    rw [List.findIdx?_eq_none_iff] at hf
    exact List.filter_eq_self.2 fun m hm => by simp [hf m hm]
  | some i => rw [hf] at h; simp at h; omega
theorem firstM_some {p : α → Bool} {l : List α} (h : 0 ≤ firstM p l) : ∃ i : Nat, firstM p l = i ∧ i < l.length ∧ (l.take (i + 1)).filter (fun m => !p m) = l.take i := by
  unfold firstM at *
  cases hf : l.findIdx? p with
  | none => rw [hf] at h; simp at h
  | some i =>
    rw [List.findIdx?_eq_some_iff_getElem] at hf
    obtain ⟨hi, hp, hno⟩ := hf
    refine ⟨i, rfl, hi, ?_⟩
    rw [take_snoc (List.getElem?_eq_getElem hi), List.filter_append]
    have h1 : (l.take i).filter (fun m => !p m) = l.take i := List.filter_eq_self.2 fun m hm => by
      obtain ⟨j, hj, rfl⟩ := List.mem_take_iff_getElem.1 hm
      have := hno j (by omega)
      simpa using this
    rw [h1]
    simp [hp]
theorem take_eq_step {a b : List α} {k : Nat} {x y : α} (h : a.take k = b.take k) (hx : a[k]? = some x) (hy : b[k]? = some y) (he : x = y) : a.take (k + 1) = b.take (k + 1) := by
  rw [take_snoc hx, take_snoc hy, h, he]
end
theorem heap_set_ne {w : World} {b b' : Nat} {ob : Option Obj} (h : w.heap[b]? = ob) (hne : b ≠ b') (o : Nat) (u : Value) : (w.setCell ⟨b', o, none⟩ u).heap[b]? = ob := (Below.heap_setCell w ⟨b', o, none⟩ u b hne).trans h
end Go.Proofs.YtbmbpannhncpjaaDoor
