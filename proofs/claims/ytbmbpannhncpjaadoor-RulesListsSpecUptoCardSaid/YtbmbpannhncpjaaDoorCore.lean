/- Words for what lies in memory, over any program: a slice that reads as a list; what a cut of it is. -/
import Derived.Test.YtbmbpannhncpjaaDoorIter
import Derived.Deep.Quiet
import Derived.Deep.QuietTactic
namespace Go.Proofs.YtbmbpannhncpjaaDoor
open Go.RowKit

theorem ret_bool {a b : Bool} (h : a = b) : Ending.returned (.bool a) = .returned (.bool b) := by rw [h]
theorem ret_int {k : IntKind} {a b : Int} (h : a = b) : Ending.returned (.int k a) = .returned (.int k b) := by rw [h]
theorem ret_val {a b : Value} (h : a = b) : Ending.returned a = .returned b := by rw [h]
theorem take_snoc {α : Type} {l : List α} {j : Nat} {x : α} (h : l[j]? = some x) : l.take (j + 1) = l.take j ++ [x] := by
  rw [List.take_add_one, h]; rfl
theorem drop_cons {α : Type} {l : List α} {j : Nat} {x : α} (h : l[j]? = some x) : l.drop j = x :: l.drop (j + 1) := by
  obtain ⟨hlt, he⟩ := List.getElem?_eq_some_iff.1 h
  rw [List.drop_eq_getElem_cons hlt, he]
theorem split_at {α : Type} {l : List α} {j : Nat} {x : α} (h : l[j]? = some x) : l = l.take j ++ x :: l.drop (j + 1) := by
  rw [← drop_cons h, List.take_append_drop]
theorem addr_add (b off : Nat) (i : Nat) : (⟨b, off, none⟩ : Addr).add i = ⟨b, off + i, none⟩ := by
  unfold Addr.add; split
  · rename_i h; subst h; rfl
  · rfl

/-- One operation of a region that draws its order, in whatever world of the class. -/
theorem q_step {P : Program} {ops : Array Oper} {C : World → Prop} {Q : Act → Prop} {a : Act} {o : Oper} {rest : List Oper} (hw : Region.wanted o (yielded ops a.tmps) = true)
    (h : ∃ v, (∀ w, C w → o.quietAt P a C w v) ∧ wpQuiet P ops C Q rest (a.put o.dst v)) : wpQuiet P ops C Q (o :: rest) a := by
  unfold wpQuiet
  rw [if_pos hw]
  exact h
theorem q_skip {P : Program} {ops : Array Oper} {C : World → Prop} {Q : Act → Prop} {a : Act} {o : Oper} {rest : List Oper} (hw : Region.wanted o (yielded ops a.tmps) = false)
    (hr : wpQuiet P ops C Q rest (a.put o.dst undef)) : wpQuiet P ops C Q (o :: rest) a := by
  unfold wpQuiet
  rw [hw]
  exact hr
theorem wp_region_below {P : Program} {id : Nat} {Q : Exit → Act → World → Prop} {a : Act} {w : World} {l : List Oper} (n : Nat) (hm : P.follows .mixedOrders = true) (hB : Region.lexB .any l.toArray = true)
    (h : wpQuiet P l.toArray (Below n w) (fun a' => ∀ w', Below n w w' → Q .normal a' w') l a) : (Code.region id l.toArray true).wp P Q a w :=
  wp_region_quiet (C := Below n w) hm hB ⟨rfl, rfl, rfl, Nat.le_refl _, fun _ _ => rfl⟩ (by simpa using h)
theorem calls_below {P : Program} {f : FuncId} {args : Array Value} {n : Nat} {w0 w : World} {v : Value} (hb : Below n w0 w) (hn : n ≤ w0.heap.size) (h : Calls P f args w fun e w' => e = .returned v ∧ Below w.heap.size w w') :
    Calls P f args w fun e w' => e = .returned v ∧ Below n w0 w' := h.mono fun _ _ ⟨he, hb'⟩ => ⟨he, hb.trans (hb'.mono (Nat.le_trans hn hb.size))⟩

/-- How an element lies in cells: in a world, below a block number. -/
abbrev Rep (α : Type) := World → Nat → α → List Value → Prop
def Rep.flat {α : Type} (enc : α → List Value) : Rep α := fun _ _ x cs => cs = enc x
/-- A representation that does not mind what lies at or above the block number. -/
def Rep.Stable {α : Type} (r : Rep α) : Prop := ∀ W W' n n' x cs, r W n x cs → n ≤ n' → (∀ b, b < n → W'.heap[b]? = W.heap[b]?) → r W' n' x cs
theorem Rep.flat_stable {α : Type} (enc : α → List Value) : (Rep.flat enc).Stable := fun _ _ _ _ _ _ h _ _ => h

/-- The elements of l lie, k cells each, from A on, below block n₀. -/
def Rows {α : Type} (k : Nat) (r : Rep α) (W : World) (n₀ : Nat) (A : Option Addr) (n c : Nat) (l : List α) : Prop :=
  n = l.length ∧ n ≤ c ∧ c ≤ 9223372036854775807 ∧ (0 < n → ∃ b off, A = some ⟨b, off, none⟩ ∧ b < n₀ ∧ ∀ i x, l[i]? = some x → ∃ cs, r W n₀ x cs ∧ ∀ j u, cs[j]? = some u → W.cell? ⟨b, off + i * k + j, none⟩ = some u)

namespace Rows
variable {α : Type} {k : Nat} {r : Rep α} {W W' : World} {n₀ n₁ : Nat} {A : Option Addr} {n c : Nat} {l : List α}
theorem len (h : Rows k r W n₀ A n c l) : n = l.length := h.1
theorem keep (hr : r.Stable) (h : Rows k r W n₀ A n c l) (hn : n₀ ≤ n₁) (hb : ∀ b, b < n₀ → W'.heap[b]? = W.heap[b]?) : Rows k r W' n₁ A n c l := by
  refine ⟨h.1, h.2.1, h.2.2.1, fun hn' => ?_⟩
  obtain ⟨b, off, e, hlt, hx⟩ := h.2.2.2 hn'
  refine ⟨b, off, e, by omega, fun i x hi => ?_⟩
  obtain ⟨cs, h1, h2⟩ := hx i x hi
  exact ⟨cs, hr _ _ _ _ _ _ h1 hn hb, fun j u hj => (World.cell?_of_block (w := W) (w' := W') (a := ⟨b, _, none⟩) (hb b hlt)).trans (h2 j u hj)⟩
theorem below (hr : r.Stable) (h : Rows k r W n₀ A n c l) (hb : Below n₀ W W') : Rows k r W' n₀ A n c l := h.keep hr (Nat.le_refl _) hb.block
theorem nil (hc : c ≤ 9223372036854775807) : Rows k r W n₀ A 0 c ([] : List α) := ⟨rfl, by omega, hc, fun h => by omega⟩
theorem get (h : Rows k r W n₀ A n c l) {i : Nat} (hi : i < n) : ∃ b off x cs, A = some ⟨b, off, none⟩ ∧ b < n₀ ∧ l[i]? = some x ∧ r W n₀ x cs ∧ ∀ j u, cs[j]? = some u → W.cell? ⟨b, off + i * k + j, none⟩ = some u := by
  obtain ⟨b, off, e, hlt, hx⟩ := h.2.2.2 (by omega)
  have hi' : i < l.length := by rw [← h.1]; exact hi
  obtain ⟨cs, h1, h2⟩ := hx i _ (List.getElem?_eq_getElem hi')
  exact ⟨b, off, _, cs, e, hlt, List.getElem?_eq_getElem hi', h1, h2⟩
end Rows

/-- Where a cut 's[k:]' begins. -/
def cutA (A : Option Addr) (cap k s : Nat) : Option Addr := if cap = k then A else A.map (·.add (k * s))
section
variable {P : Program} {t e : TypeId} {i : TypeInfo} (w : World)
theorem run_cut_low (ht : P.underlying t = some (.slice e)) (hi : P.info? e = some i) (A : Option Addr) (len cap k : Nat) (kd : IntKind) (lo : Int) (hlo : lo = (k : Int)) (hk : k ≤ len) :
    (Instr.slice t (.slice A len cap) (some (.int kd lo)) none none).run P w = .ok (.slice (cutA A cap k i.size) (len - k) (cap - k)) w := by
  subst hlo
  have h1 : (k : Int) ≤ (len : Int) := by omega
  simp [Instr.slice, run_underlying ht, Instr.sliceBounds, run_sliceBound, h1, sizeOf, typeInfo, hi, cutA]
theorem run_cut_high (ht : P.underlying t = some (.slice e)) (hi : P.info? e = some i) (A : Option Addr) (len cap k : Nat) (kd : IntKind) (hi' : Int) (hlo : hi' = (k : Int)) (hk : k ≤ cap) :
    (Instr.slice t (.slice A len cap) none (some (.int kd hi')) none).run P w = .ok (.slice A k cap) w := by
  subst hlo
  have h1 : (k : Int) ≤ (cap : Int) := by omega
  have hA : A.map (·.add 0) = A := by cases A <;> simp [Addr.add]
  simp [Instr.slice, run_underlying ht, Instr.sliceBounds, run_sliceBound, h1, sizeOf, typeInfo, hi, hA]
end
theorem Rows.cut {α : Type} {k : Nat} {r : Rep α} {W : World} {n₀ : Nat} {A : Option Addr} {n c m : Nat} {l : List α} (h : Rows k r W n₀ A n c l) (hm : m ≤ n) : Rows k r W n₀ (cutA A c m k) (n - m) (c - m) (l.drop m) := by
  refine ⟨by simp [h.1], by have := h.2.1; omega, by have := h.2.2.1; omega, fun hn => ?_⟩
  obtain ⟨b, off, e, hlt, hx⟩ := h.2.2.2 (by omega)
  have := h.2.1
  refine ⟨b, off + m * k, by rw [cutA, if_neg (by omega), e, Option.map_some, addr_add], hlt, fun i x hi => ?_⟩
  obtain ⟨cs, h1, h2⟩ := hx (m + i) x (by simpa [List.getElem?_drop] using hi)
  refine ⟨cs, h1, fun j u hj => ?_⟩
  have := h2 j u hj
  have e1 : off + (m + i) * k + j = off + m * k + i * k + j := by rw [Nat.add_mul]; omega
  rw [e1] at this
  exact this
theorem Rows.take {α : Type} {k : Nat} {r : Rep α} {W : World} {n₀ : Nat} {A : Option Addr} {n c m : Nat} {l : List α} (h : Rows k r W n₀ A n c l) (hm : m ≤ n) : Rows k r W n₀ A m c (l.take m) := by
  refine ⟨by rw [List.length_take, ← h.1]; omega, by have := h.2.1; omega, h.2.2.1, fun hn => ?_⟩
  obtain ⟨b, off, e, hlt, hx⟩ := h.2.2.2 (by omega)
  refine ⟨b, off, e, hlt, fun i x hi => hx i x ?_⟩
  rw [List.getElem?_take] at hi
  split at hi
  · exact hi
  · cases hi
end Go.Proofs.YtbmbpannhncpjaaDoor
