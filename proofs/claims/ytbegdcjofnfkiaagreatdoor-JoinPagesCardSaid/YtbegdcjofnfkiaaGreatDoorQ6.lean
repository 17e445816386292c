/- Several texts in one: InApp SortI. -/
import Derived.Test.YtbegdcjofnfkiaaGreatDoorQ1
import Derived.OwnWalkIn
import Derived.Test.YtbegdcjofnfkiaaGreatDoorQ2
import Derived.Shelf.SortG.Plain
namespace Go.Proofs.YtbegdcjofnfkiaaGreatDoor
section
open Go.RowKit
theorem own_keepB {w w' : World} {base k : Nat} {e : TypeId} {v : Value} {n : Nat} {xs : List Value} (h : w.ownsRow base e k v n xs) (hb : ∀ g, v.ownBlock = some g → w'.heap[g]? = w.heap[g]?) : w'.ownsRow base e k v n xs :=
 ⟨h.1, h.2.imp id fun ⟨g, cap, cur, hv, hg, hh, h3⟩ => ⟨g, cap, cur, hv, hg, (hb g (by rw [hv]; rfl)).trans hh, h3⟩⟩
theorem own_monoB {w : World} {b b' k : Nat} {e : TypeId} {v : Value} {n : Nat} {xs : List Value} (h : w.ownsRow b e k v n xs) (hb : b' ≤ b) : w.ownsRow b' e k v n xs :=
 ⟨h.1, h.2.imp id fun ⟨g, cap, cur, hv, hg, h3⟩ => ⟨g, cap, cur, hv, Nat.le_trans hb hg, h3⟩⟩
theorem own_base {w : World} {b b' k : Nat} {e : TypeId} {v : Value} {n : Nat} {xs : List Value} (h : w.ownsRow b e k v n xs) (hb : ∀ g, v.ownBlock = some g → b' ≤ g) : w.ownsRow b' e k v n xs :=
 ⟨h.1, h.2.imp id fun ⟨g, cap, cur, hv, hg, h3⟩ => ⟨g, cap, cur, hv, hb g (by rw [hv]; rfl), h3⟩⟩
section
variable {F : Fence} {nF : Nat} {P : Program} {w w' : World}
theorem wpListIn_append_known {ops : Array Oper} {rest : List Oper} {o : Oper} {a : Act} {Q : Exit → Act → World → Prop} (hw : Region.wanted o (yielded ops a.tmps) = true) (s x : Operand) (t : TypeId)
  (ho : o.op = .call { callee := .builtin .append, args := #[s, x], argTypes := #[t, t] }) {v u v' : Value} (hs : a.eval s = v) (hx : a.eval x = u) (hrun : (Builtin.append_ #[t, t] o.type #[v, u]).run P w = .ok v' w')
  (h : wpListIn F nF P ops Q rest (a.put o.dst v') w') : wpListIn F nF P ops Q (o :: rest) a w :=
 BigFrame.wpListIn_want hw fun _ hK => by
  have hab : o.about P w a.eval = none := by unfold Oper.about; simp only [ho, resolve, Sem.run_pure]; rfl
  refine ⟨(fun f hf => by rw [hab] at hf; cases hf), ?_⟩
  rw [Oper.semAt_eq F.round a.eval o (fun c => by rw [ho]; intro h; cases h)]
  unfold execOp
  simp only [ho, resolve, invoke, builtin, Sem.run_bind, Sem.run_pure, Result.andThen_ok, List.map_toArray, List.map_cons, List.map_nil, hs, hx, hrun]
  exact hK _ _ h
end
end
section
open Go.RowKit Go.Shelf Go.Sort
section
variable {base G cap n : Nat} {e : TypeId} {w : World} {P : Program}
def encI (z : Int) : List Value := [.int .i64 z]
theorem encI_get (l : List Int) (j : Nat) : (l.flatMap encI)[j]? = (l[j]?).map (Value.int .i64) := by
  induction l generalizing j with
  | nil => simp
  | cons x l ih =>
    cases j with
    | zero => simp [encI]
    | succ j => simpa [encI] using ih j
theorem encI_len (l : List Int) : (l.flatMap encI).length = l.length := by
 induction l with
 | nil => rfl
 | cons x l ih => simp [encI] at ih ⊢; exact ih
theorem own_holdsI (l : List Int) (h : w.ownsRow base e 1 (.slice (some ⟨G, 0, none⟩) n cap) n (l.flatMap encI)) : Holds (Value.int .i64) w G 0 l.toArray := by
 intro j hj
 have hj' : j < l.length := by simpa using hj
 have hc := h.cells (g := G) rfl j (.int .i64 l[j]) (by rw [encI_get, List.getElem?_eq_getElem hj']; rfl)
 rw [addr_add, Nat.zero_add] at hc
 rw [Nat.zero_add]
 refine ⟨?_, ?_⟩
 ·rw [hc]
  simp [hj']
 ·rcases h.2 with ⟨h2, _⟩ | ⟨g', cap', cs, hv, hg, hh, _⟩
  ·cases h2
  ·injection hv with e1
   injection e1 with e1
   injection e1 with e1
   subst e1
   simp [World.frozen?, hh]
theorem own_sortedI (l : List Int) (h : w.ownsRow base e 1 (.slice (some ⟨G, 0, none⟩) n cap) n (l.flatMap encI)) (d : List Int) (hd : d.length = l.length) (m : Nat) (os : Array Obj) :
  (grow (putRow (Value.int .i64) (Sort.ahead w m) G 0 d.toArray) os).ownsRow base e 1 (.slice (some ⟨G, 0, none⟩) n cap) n (d.flatMap encI) ∧ Kept (fun b => b = G) w (grow (putRow (Value.int .i64) (Sort.ahead w m) G 0 d.toArray) os) := by
 obtain ⟨h1, h2⟩ := h
 rw [encI_len] at h1
 rcases h2 with ⟨h2, _⟩ | ⟨g', cap', cs, hv, hg, hh, hnc, hcm, hsz, ht⟩
 ·cases h2
 ·injection hv with e1 e2 e3
  injection e1 with e1
  injection e1 with e1
  subst e1 e3
  have hGl := lt_of_heap hh
  have hold : ∀ q, q < w.heap.size → q ≠ G → (grow (putRow (Value.int .i64) (Sort.ahead w m) G 0 d.toArray) os).heap[q]? = w.heap[q]? := fun q hq hne => by
   unfold grow putRow mapBlock Sort.ahead
   simp only []
   rw [Array.getElem?_append_left (by simpa using hq), Array.getElem?_modify, if_neg (Ne.symm hne)]
  have hnew : (grow (putRow (Value.int .i64) (Sort.ahead w m) G 0 d.toArray) os).heap[G]? = some (.cells (putCells (Value.int .i64) 0 d.toArray cs) e (0, 0)) := by
   unfold grow putRow mapBlock Sort.ahead
   simp only []
   rw [Array.getElem?_append_left (by simpa using hGl), Array.getElem?_modify, if_pos rfl, hh]
   rfl
  refine ⟨⟨by rw [encI_len, hd, h1], .inr ⟨G, cap, _, rfl, hg, hnew, hnc, hcm, by simp [putCells, hsz], ?_⟩⟩, ⟨rfl, rfl, rfl, by simp [grow, putRow, mapBlock, Sort.ahead], fun q hq hm => hold q hq hm⟩⟩
  apply List.ext_getElem?
  intro j
  rw [List.getElem?_take]
  by_cases hj : j < n * 1
  ·rw [if_pos hj]
   have hjc : j < cs.size := by omega
   have hj2 : j < d.length := by omega
   simp only [putCells, Array.getElem?_toList, Array.getElem?_mapIdx, Array.getElem?_eq_getElem hjc, Option.map_some, List.size_toArray]
   rw [if_pos ⟨Nat.zero_le _, by omega⟩, Nat.sub_zero, encI_get, List.getElem?_eq_getElem hj2]
   simp [hj2]
  ·rw [if_neg hj, List.getElem?_eq_none (by rw [encI_len]; omega)]
theorem sortI_kept {ρ : Ren} (L : SlLaysN.n53 P ρ) (l : List Int) (hown : w.ownsRow base e 1 (.slice (some ⟨G, 0, none⟩) n cap) n (l.flatMap encI)) (hn : n < 4611686018427387904) :
  Calls P (ρ.f 53) #[.slice (some ⟨G, 0, none⟩) n cap] w fun e' w' => e' = .returned (.tuple #[]) ∧ w'.ownsRow base e 1 (.slice (some ⟨G, 0, none⟩) n cap) n ((l.mergeSort fun x y => decide (x ≤ y)).flatMap encI) ∧ Kept (fun b => b = G) w w' := by
 have hlen : n = l.length := by have := hown.1; rw [encI_len] at this; omega
 have hG := hown.lt G rfl
 have := AnyG.slices_Sort_int L G 0 cap l w (own_holdsI l hown) hG.2 (by omega)
 rw [← hlen] at this
 refine this.mono fun e' w' ⟨he, m, os, hw⟩ => ⟨he, ?_⟩
 rw [hw]
 exact own_sortedI l hown _ (List.length_mergeSort l) m os
end
end
end Go.Proofs.YtbegdcjofnfkiaaGreatDoor
