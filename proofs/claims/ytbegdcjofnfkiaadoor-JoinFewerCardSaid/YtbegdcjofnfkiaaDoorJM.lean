/- Lists of the laws' own: append onto an empty list; a query whose conditions lie in a box of its own. -/
import Derived.Test.YtbegdcjofnfkiaaDoorJ24A
import Derived.Test.YtbegdcjofnfkiaaDoorRelQS
import Derived.Test.YtbegdcjofnfkiaaDoorJ29
import Derived.Test.YtbegdcjofnfkiaaDoorM7
namespace Go.Proofs.YtbegdcjofnfkiaaDoor
open Go.RowKit Go.Shelf Go.Sort

theorem own_lower {w : World} {b b' k n : Nat} {e : TypeId} {v : Value} {xs : List Value} (h : w.ownsRow b e k v n xs) (hb : b' ≤ b) : w.ownsRow b' e k v n xs := by
  obtain ⟨h1, h2⟩ := h
  refine ⟨h1, ?_⟩
  rcases h2 with h2 | ⟨g, cap, cur, h3, h4, h5⟩
  · exact .inl h2
  · exact .inr ⟨g, cap, cur, h3, Nat.le_trans hb h4, h5⟩
theorem run_append_empty {α : Type} {k : Nat} {e : TypeId} {enc : α → List Value} {w : World} {P : Program} {t ty : TypeId} {i : TypeInfo} {z : Value} {bytes base n₁ m c' g : Nat} {A' : Option Addr} {s : List α} (ht : P.underlying t = some (.slice e)) (hi : P.info? e = some i) (hz : i.zero = some z) (hsize : i.size = k) (hby : i.bytes = bytes) (hzs : z.cells.size = k)
    (hk : ∀ x, (enc x).length = k) (h0 : 0 < k) (h1 : ∀ x, ∀ u ∈ enc x, u.oneCell' = true) (hg : w.heap[g]? = some (.cells #[] e (0, 0))) (hbase : base ≤ g) (hs : Rows k (Rep.flat enc) w n₁ A' m c' s) (hn : m * bytes ≤ 140737488355328) (hnm : m ≤ 9223372036854775807) :
    ∃ v' w', (Builtin.append_ #[t, t] ty #[.slice (some ⟨g, 0, none⟩) 0 0, .slice A' m c']).run P w = .ok v' w' ∧ w'.ownsRow base e k v' m (s.flatMap enc) ∧ Below w.heap.size w w' := by
  have hgl := lt_of_heap hg
  rcases Nat.eq_zero_or_pos m with hm | hm
  · subst hm
    have hs0 : s = [] := List.eq_nil_of_length_eq_zero hs.1.symm
    subst hs0
    exact ⟨_, w, run_append_none ht hi (fun h => by cases h) (Nat.le_refl _), ⟨by simp, .inr ⟨g, 0, #[], rfl, hbase, hg, Nat.le_refl _, by unfold maxLen; omega, by simp, by simp⟩⟩, Below.refl _ _⟩
  · obtain ⟨v', w', hrun, hown, hb⟩ := run_append_clip (P := P) (ty := ty) (n := 0) (c := 0) (l := ([] : List α)) (A := some ⟨g, 0, none⟩) (n₀ := w.heap.size) ht hi hz hsize hby hzs hk h0 h1 (Rows.nil (by omega)) hs hm (by rw [Nat.zero_add]; exact hn) (by omega)
    rw [Nat.zero_add, List.nil_append] at hown
    exact ⟨v', w', hrun, own_lower hown (by omega), hb⟩

/-- A list as it came, or one of the call's own. -/
def InM {α : Type} (e : TypeId) (k : Nat) (enc : α → List Value) (w : World) (b : Nat) (u : Value) (n : Nat) (l : List α) (W : World) : Prop := (∃ A c, u = .slice A n c ∧ Rows k (Rep.flat enc) w b A n c l) ∨ W.ownsRow (b + 1) e k u n (l.flatMap enc)
theorem InM.keep {α : Type} {e : TypeId} {k b n : Nat} {enc : α → List Value} {w W W' : World} {u : Value} {l : List α} (h : InM e k enc w b u n l W) (hb : Below W.heap.size W W') : InM e k enc w b u n l W' := by
  rcases h with h | h
  · exact .inl h
  · exact .inr (own_keepB h fun g hg => hb.block g (h.lt g hg).2)
theorem InM.keepN {α : Type} {e : TypeId} {k b n : Nat} {enc : α → List Value} {w W W' : World} {u : Value} {l : List α} (h : InM e k enc w b u n l W) (hb : ∀ x, x < W.heap.size → W'.heap[x]? = W.heap[x]?) : InM e k enc w b u n l W' := by
  rcases h with h | h
  · exact .inl h
  · exact .inr (own_keepB h fun g hg => hb g (h.lt g hg).2)
theorem own_set_box {w : World} {base k n X j : Nat} {e e' : TypeId} {fr : Nat × Nat} {cs : Array Value} {v z : Value} {xs : List Value} (h : w.ownsRow base e k v n xs) (hX : w.heap[X]? = some (.cells cs e' fr)) (hne : e ≠ e') : (w.setCell ⟨X, j, none⟩ z).ownsRow base e k v n xs :=
  own_keepB h fun g hg => heap_set_ne rfl (fun he => by
    obtain ⟨cs', hcs⟩ := own_kind h hg
    rw [he, hX] at hcs
    simp only [Option.some.injEq, Obj.cells.injEq] at hcs
    exact hne hcs.2.1.symm) _ _
theorem InM.set {α : Type} {e e' : TypeId} {k b n X j : Nat} {enc : α → List Value} {w W : World} {u z : Value} {l : List α} {cs : Array Value} {fr : Nat × Nat} (h : InM e k enc w b u n l W) (hX : W.heap[X]? = some (.cells cs e' fr)) (hne : e ≠ e') : InM e k enc w b u n l (W.setCell ⟨X, j, none⟩ z) := by
  rcases h with h | h
  · exact .inl h
  · exact .inr (own_set_box h hX hne)
theorem InM.rows {α : Type} {e : TypeId} {k n : Nat} {enc : α → List Value} {w W : World} {u : Value} {l : List α} (h : InM e k enc w w.heap.size u n l W) (hk : ∀ x, (enc x).length = k) (h0 : 0 < k) (hb : Below w.heap.size w W) : ∃ A c, u = .slice A n c ∧ Rows k (Rep.flat enc) W W.heap.size A n c l := by
  rcases h with ⟨A, c, rfl, h⟩ | h
  · exact ⟨A, c, rfl, h.keep (Rep.flat_stable _) hb.size hb.block⟩
  · obtain ⟨A, c, rfl, h2⟩ := own_rows hk h0 h
    exact ⟨A, c, rfl, h2⟩
/-- Two boxes: the query as it came, and one whose conditions are its own. -/
structure TuB (q : Qu) (b X : Nat) (u v : Value) (w W : World) : Prop where
  qb : QBox q b W
  xb : W.heap[X]? = some (.cells #[.slice q.nA q.nn q.nc, .slice q.sA q.sn q.sc, u, v] 27 (0, 0))
  bel : Below b w W
  lt : b < X
theorem TuB.keep {q : Qu} {b X : Nat} {u v : Value} {w W W' : World} (h : TuB q b X u v w W) (hb : Below W.heap.size W W') : TuB q b X u v w W' :=
  ⟨h.qb.later hb, (hb.block _ (lt_of_heap h.xb)).trans h.xb, h.bel.trans (hb.mono (by have := lt_of_heap h.xb; have := h.lt; omega)), h.lt⟩
theorem TuB.keepN {q : Qu} {b X N : Nat} {u v : Value} {w W W' : World} (h : TuB q b X u v w W) (hN : X < N) (hk : ∀ x, x < N → W'.heap[x]? = W.heap[x]?) (hb : Below b W W') : TuB q b X u v w W' :=
  ⟨⟨(hk _ (by have := h.lt; omega)).trans h.qb.box⟩, (hk _ hN).trans h.xb, h.bel.trans hb, h.lt⟩
theorem TuB.setU {q : Qu} {b X : Nat} {u v : Value} {w W : World} (h : TuB q b X u v w W) (z : Value) : TuB q b X z v w (W.setCell ⟨X, 2, none⟩ z) :=
  ⟨⟨heap_set_ne h.qb.box (by have := h.lt; omega) _ _⟩, heap_setO h.xb 2 _, h.bel.setCell (p := ⟨X, 2, none⟩) (by have := h.lt; show _ ≤ X; omega) _, h.lt⟩
theorem TuB.setV {q : Qu} {b X : Nat} {u v : Value} {w W : World} (h : TuB q b X u v w W) (z : Value) : TuB q b X u z w (W.setCell ⟨X, 3, none⟩ z) :=
  ⟨⟨heap_set_ne h.qb.box (by have := h.lt; omega) _ _⟩, heap_setO h.xb 3 _, h.bel.setCell (p := ⟨X, 3, none⟩) (by have := h.lt; show _ ≤ X; omega) _, h.lt⟩
theorem TuB.cells {q : Qu} {b X : Nat} {u v : Value} {w W : World} (h : TuB q b X u v w W) : W.cell? ⟨X, 0, none⟩ = some (.slice q.nA q.nn q.nc) ∧ W.cell? ⟨X, 1, none⟩ = some (.slice q.sA q.sn q.sc) ∧ W.cell? ⟨X, 2, none⟩ = some u ∧ W.cell? ⟨X, 3, none⟩ = some v ∧ X < W.heap.size :=
  ⟨cell_of_heap (o := 0) h.xb, cell_of_heap (o := 1) h.xb, cell_of_heap (o := 2) h.xb, cell_of_heap (o := 3) h.xb, lt_of_heap h.xb⟩
theorem drop_take_perm {α : Type} (l : List α) (k : Nat) : (l.drop k ++ l.take k).Perm l := by
  have h := List.perm_append_comm (l₁ := l.drop k) (l₂ := l.take k)
  rwa [List.take_append_drop] at h
/-- A number modulo a length. -/
theorem rem_nat {z : Int} {n : Nat} (h0 : 0 ≤ z) (hn : 0 < n) : ∃ k : Nat, k < n ∧ z.tmod n = k := by
  refine ⟨z.toNat % n, Nat.mod_lt _ hn, ?_⟩
  obtain ⟨m, rfl⟩ : ∃ m : Nat, z = m := ⟨z.toNat, by omega⟩
  rw [Int.toNat_natCast]
  rfl
end Go.Proofs.YtbegdcjofnfkiaaDoor
