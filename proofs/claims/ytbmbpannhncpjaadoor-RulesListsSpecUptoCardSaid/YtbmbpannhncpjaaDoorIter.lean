/- A range over a function: one contract for an iterator value, one law for the loop, over any program. -/
import Derived.RangeFuncNested
import Derived.RangeFuncLeaves
import Derived.RangeFuncCalls
import Derived.RangeFuncBound
import Derived.Deep.Draws
import Derived.WalkKit
namespace Go.Proofs.YtbmbpannhncpjaaDoor
open Go.RowKit

theorem hidp {p : Prop} (h : p) : Hid p := h
theorem lt_of_cell {w : World} {b o : Nat} {v : Value} (h : w.cell? ⟨b, o, none⟩ = some v) : b < w.heap.size := by
  rcases Nat.lt_or_ge b w.heap.size with h1 | h1
  · exact h1
  · simp [World.cell?, Array.getElem?_eq_none h1] at h
theorem cell_of_heap {w : World} {b o : Nat} {cs : Array Value} {t : TypeId} {fr : Nat × Nat} (h : w.heap[b]? = some (.cells cs t fr)) : w.cell? ⟨b, o, none⟩ = cs[o]? := by simp [World.cell?, h]
theorem frozen_of_heap {w : World} {b o : Nat} {cs : Array Value} {t : TypeId} (h : w.heap[b]? = some (.cells cs t (0, 0))) : w.frozen? ⟨b, o, none⟩ = false := by simp [World.frozen?, h]
theorem heap_set1 {w : World} {b : Nat} {v : Value} {t : TypeId} {fr : Nat × Nat} (h : w.heap[b]? = some (.cells #[v] t fr)) (u : Value) : (w.setCell ⟨b, 0, none⟩ u).heap[b]? = some (.cells #[u] t fr) := by
  simp [World.setCell, Array.getElem?_modify, h]
theorem lt_of_heap {w : World} {b : Nat} {o : Obj} (h : w.heap[b]? = some o) : b < w.heap.size := (Array.getElem?_eq_some_iff.1 h).1
/-- What lay below a block number reads as it did. -/
theorem bcell {n : Nat} {W w1 : World} (hb : Below n W w1) : (∀ b o, b < n → w1.cell? ⟨b, o, none⟩ = W.cell? ⟨b, o, none⟩) ∧ (∀ b o, b < n → w1.frozen? ⟨b, o, none⟩ = W.frozen? ⟨b, o, none⟩) :=
  ⟨fun b o h => hb.cell (p := ⟨b, o, none⟩) h, fun b o h => hb.frozen (p := ⟨b, o, none⟩) h⟩

/-- A function's contract from its body, where the body holds a range over a function. -/
theorem calls_of_wp_marks {P : Program} {f : FuncId} {fn : Func} {c : Code} {args : Array Value} {w : World} {R : Ending → World → Prop} (hf : P.funcs[f]? = some fn) (hb : fn.body = some c)
    (h : c.wp P (bodyPostM Fence.wide 0 P fn R) { tmps := args ++ Array.replicate (fn.ntmps - args.size) undef, defers := [] } w) : Calls P f args w R :=
  (callsIn_wide (n := 0)).1 (callsIn_of_wp_marks hf hb trivial ((wpIn_wide (n := 0)).2 h))
/-- It leaves ahead of every such loop. -/
theorem leave_plain {P : Program} {fn : Func} {R : Ending → World → Prop} {a : Act} {w : World} {v : Value} {e : Exit} (he : e = .ret ∨ e = .normal) (hr : (results fn a.tmps).run P w = .ok v w) (hd : a.defers = []) (hR : R (.returned v) w) :
    bodyPostM Fence.wide 0 P fn R e a w := by
  rcases he with rfl | rfl
  · show LeavesInM Fence.wide 0 P fn a.tmps R a.defers .returning w
    rw [hd]
    exact ⟨v, hr, hR⟩
  · show LeavesInM Fence.wide 0 P fn a.tmps R a.defers .returning w
    rw [hd]
    exact ⟨v, hr, hR⟩
/-- It leaves behind one such loop: its mark D is taken. -/
theorem leave_mark {P : Program} {fn : Func} {R : Ending → World → Prop} {a : Act} {w : World} {v : Value} {D : Nat} {args : Array Value} {e : Exit} (he : e = .ret ∨ e = .normal) (hD : w.heap[D]? = some (.deferred (some []))) (hd : a.defers = [{ target := .collected D, args := args }])
    (hr : (results fn a.tmps).run P (w.putObj D (.deferred none)) = .ok v (w.putObj D (.deferred none))) (hR : R (.returned v) (w.putObj D (.deferred none))) :
    bodyPostM Fence.wide 0 P fn R e a w := by
  rcases he with rfl | rfl
  · show LeavesInM Fence.wide 0 P fn a.tmps R a.defers .returning w
    rw [hd]
    exact ⟨by simp, .inl ⟨_, _, rfl, run_takeDeferred hD, ⟨v, hr, hR⟩⟩⟩
  · show LeavesInM Fence.wide 0 P fn a.tmps R a.defers .returning w
    rw [hd]
    exact ⟨by simp, .inl ⟨_, _, rfl, run_takeDeferred hD, ⟨v, hr, hR⟩⟩⟩
theorem cell_putObj {w : World} {D b o : Nat} (h : b ≠ D) (ob : Obj) : (w.putObj D ob).cell? ⟨b, o, none⟩ = w.cell? ⟨b, o, none⟩ := World.cell?_of_block (w := w) (World.putObj_heap_other h)

/-- Every block of W outside M lies in W' as it lay. -/
structure Kept (M : Nat → Prop) (W W' : World) : Prop where
  os : W'.os = W.os
  tape : W'.tape = W.tape
  output : W'.output = W.output
  size : W.heap.size ≤ W'.heap.size
  block : ∀ b, b < W.heap.size → ¬ M b → W'.heap[b]? = W.heap[b]?

namespace Kept
variable {M M' : Nat → Prop} {A B C : World}
theorem refl (M : Nat → Prop) (W : World) : Kept M W W := ⟨rfl, rfl, rfl, Nat.le_refl _, fun _ _ _ => rfl⟩
theorem trans (h : Kept M A B) (k : Kept M B C) : Kept M A C :=
  ⟨k.os.trans h.os, k.tape.trans h.tape, k.output.trans h.output, Nat.le_trans h.size k.size, fun b hb hm => (k.block b (Nat.lt_of_lt_of_le hb h.size) hm).trans (h.block b hb hm)⟩
theorem mono (h : Kept M A B) (hm : ∀ b, b < A.heap.size → M b → M' b) : Kept M' A B := ⟨h.os, h.tape, h.output, h.size, fun b hb hn => h.block b hb (fun hb' => hn (hm b hb hb'))⟩
theorem alloc (h : Kept M A B) (o : Obj) : Kept M A (B.alloc o) :=
  ⟨h.os, h.tape, h.output, Nat.le_trans h.size (by simp), fun b hb hm => (Below.heap_alloc B o b (Nat.lt_of_lt_of_le hb h.size)).trans (h.block b hb hm)⟩
theorem setCell (h : Kept M A B) {p : Addr} (hp : M p.block ∨ A.heap.size ≤ p.block) (u : Value) : Kept M A (B.setCell p u) :=
  ⟨h.os, h.tape, h.output, by simpa [World.setCell] using h.size, fun b hb hm => (Below.heap_setCell B p u b (by
    rintro rfl
    rcases hp with hp | hp
    · exact hm hp
    · omega)).trans (h.block b hb hm)⟩
theorem putObj (h : Kept M A B) {r : Nat} (hp : M r ∨ A.heap.size ≤ r) (o : Obj) : Kept M A (B.putObj r o) :=
  ⟨h.os, h.tape, h.output, by simpa using h.size, fun b hb hm => (World.putObj_heap_other (by
    rintro rfl
    rcases hp with hp | hp
    · exact hm hp
    · omega)).trans (h.block b hb hm)⟩
theorem drew (h : Kept M A B) : Kept M A B.drew := ⟨h.os, h.tape, h.output, h.size, h.block⟩
theorem drewN (h : Kept M A B) (n : Nat) : Kept M A (B.drewN n) := ⟨h.os, h.tape, h.output, h.size, h.block⟩
theorem below (h : Kept M A B) {n : Nat} (k : Below n B C) (hn : ∀ b, n ≤ b → b < A.heap.size → M b) : Kept M A C :=
  ⟨k.os.trans h.os, k.tape.trans h.tape, k.output.trans h.output, Nat.le_trans h.size k.size, fun b hb hm => (k.block b (by
    rcases Nat.lt_or_ge b n with h1 | h1
    · exact h1
    · exact absurd (hn b h1 hb) hm)).trans (h.block b hb hm)⟩
theorem grown (h : Kept M A B) {row : Option Nat} (k : B.grownBy C row) (hr : ∀ r, row = some r → M r ∨ A.heap.size ≤ r) : Kept M A C :=
  ⟨k.os.trans h.os, k.tape.trans h.tape, k.output.trans h.output, Nat.le_trans h.size k.size, fun b hb hm => (k.block b (Nat.lt_of_lt_of_le hb h.size) (by
    intro e
    rcases hr b e.symm with h1 | h1
    · exact hm h1
    · omega)).trans (h.block b hb hm)⟩
theorem cell (h : Kept M A B) {p : Addr} (hp : p.block < A.heap.size) (hm : ¬ M p.block) : B.cell? p = A.cell? p := World.cell?_of_block (w := A) (h.block p.block hp hm)
theorem frozen (h : Kept M A B) {p : Addr} (hp : p.block < A.heap.size) (hm : ¬ M p.block) : B.frozen? p = A.frozen? p := World.frozen?_of_block (w := A) (h.block p.block hp hm)
theorem toBelow (h : Kept M A B) {n : Nat} (hn : n ≤ A.heap.size) (hm : ∀ b, b < n → ¬ M b) : Below n A B := ⟨h.os, h.tape, h.output, h.size, fun k hk => h.block k (by omega) (hm k hk)⟩
end Kept
theorem kept_of_below {M : Nat → Prop} {n : Nat} {A B : World} (k : Below n A B) (hn : ∀ b, n ≤ b → b < A.heap.size → M b) : Kept M A B := (Kept.refl M A).below k hn

/-- What the iterator g, having captured lb, promises: called with a yield, it hands it the elements of xs in their order, till a round says 'no more'. C: the blocks that the loop's rounds write (a round may write these, and what it makes itself). S: the blocks that the iterator reads; it writes nothing but blocks that it has made itself. -/
def SeqC {α : Type} (P : Program) (g : Nat) (lb : Array Value) (encs : α → Array Value) (xs : List α) (S : Nat → Prop) (w : World) : Prop :=
  ∀ (l : Nat) (J : List α → (Nat → Prop) → World → Prop) (Jx : (Nat → Prop) → World → Prop) (C : Nat → Prop) (W : World),
    (∀ b, S b → b < W.heap.size ∧ W.heap[b]? = w.heap[b]? ∧ ¬ C b) → (∀ b, C b → b < W.heap.size) →
    (∀ pre C1 W1 W2, J pre C1 W1 → Kept (fun b => W.heap.size ≤ b ∧ ¬ C1 b) W1 W2 → J pre C1 W2) →
    (∀ C1 W1 W2, Jx C1 W1 → Kept (fun b => W.heap.size ≤ b ∧ ¬ C1 b) W1 W2 → Jx C1 W2) →
    (∀ m pre x suf C1 W1, xs = pre ++ x :: suf → J pre C1 W1 → YieldAt Fence.wide m P l (encs x) W1 fun e W2 =>
      ∃ C2, Kept C1 W1 W2 ∧ (∀ b, C2 b → b < W2.heap.size ∧ (C1 b ∨ W1.heap.size ≤ b)) ∧
        ((e = .returned (.bool true) ∧ J (pre ++ [x]) C2 W2) ∨ (e = .returned (.bool false) ∧ Jx C2 W2))) →
    J [] C W →
    Calls P g (#[.func (.yield l) #[] #[]] ++ lb) W fun e W' => (∃ v, e = .returned v) ∧ ∃ C', J xs C' W' ∨ Jx C' W'

theorem SeqC.later {α : Type} {P : Program} {g : Nat} {lb : Array Value} {encs : α → Array Value} {xs : List α} {S : Nat → Prop} {w w' : World}
    (h : SeqC P g lb encs xs S w) (hS : ∀ b, S b → w'.heap[b]? = w.heap[b]?) : SeqC P g lb encs xs S w' :=
  fun l J Jx C W h1 => h l J Jx C W (fun b hb => ⟨(h1 b hb).1, (h1 b hb).2.1.trans (hS b hb), (h1 b hb).2.2⟩)

/-- What an iterator that walks knows of the world between two rounds. -/
structure SeqSt (S : Nat → Prop) (w W : World) (C1 : Nat → Prop) (wr : World) : Prop where
  reads : ∀ b, S b → b < W.heap.size ∧ wr.heap[b]? = w.heap[b]? ∧ ¬ C1 b
  lt : ∀ b, C1 b → b < wr.heap.size
  size : W.heap.size ≤ wr.heap.size
namespace SeqSt
variable {S C1 C2 : Nat → Prop} {w W wr w2 : World}
theorem start (h : ∀ b, S b → b < W.heap.size ∧ W.heap[b]? = w.heap[b]? ∧ ¬ C1 b) (h' : ∀ b, C1 b → b < W.heap.size) : SeqSt S w W C1 W := ⟨h, h', Nat.le_refl _⟩
theorem alloc (h : SeqSt S w W C1 wr) (o : Obj) : SeqSt S w W C1 (wr.alloc o) :=
  ⟨fun b hb => ⟨(h.reads b hb).1, (Below.heap_alloc wr o b (Nat.lt_of_lt_of_le (h.reads b hb).1 h.size)).trans (h.reads b hb).2.1, (h.reads b hb).2.2⟩, fun b hb => Nat.lt_of_lt_of_le (h.lt b hb) (by simp), Nat.le_trans h.size (by simp)⟩
theorem own (h : SeqSt S w W C1 wr) {M : Nat → Prop} (hk : Kept M wr w2) (hM : ∀ b, M b → W.heap.size ≤ b) : SeqSt S w W C1 w2 :=
  ⟨fun b hb => ⟨(h.reads b hb).1, (hk.block b (Nat.lt_of_lt_of_le (h.reads b hb).1 h.size) (fun e => by have := hM b e; have := (h.reads b hb).1; omega)).trans (h.reads b hb).2.1, (h.reads b hb).2.2⟩, fun b hb => Nat.lt_of_lt_of_le (h.lt b hb) hk.size, Nat.le_trans h.size hk.size⟩
theorem round (h : SeqSt S w W C1 wr) (hk : Kept C1 wr w2) (hC : ∀ b, C2 b → b < w2.heap.size ∧ (C1 b ∨ wr.heap.size ≤ b)) : SeqSt S w W C2 w2 :=
  ⟨fun b hb => ⟨(h.reads b hb).1, (hk.block b (Nat.lt_of_lt_of_le (h.reads b hb).1 h.size) (h.reads b hb).2.2).trans (h.reads b hb).2.1, fun e => by
    rcases (hC b e).2 with h1 | h1
    · exact (h.reads b hb).2.2 h1
    · have := (h.reads b hb).1; have := h.size; omega⟩, fun b hb => (hC b hb).1, Nat.le_trans h.size hk.size⟩
theorem cell (h : SeqSt S w W C1 wr) {b o : Nat} (hb : S b) : wr.cell? ⟨b, o, none⟩ = w.cell? ⟨b, o, none⟩ := World.cell?_of_block (w := w) (h.reads b hb).2.1
/-- A block of the iterator's own, not the caller's, over a round. -/
theorem mine {g : Nat} {o : Obj} (hk : Kept C1 wr w2) (hC : ∀ b, C2 b → b < w2.heap.size ∧ (C1 b ∨ wr.heap.size ≤ b)) (hg : wr.heap[g]? = some o) (hn : ¬ C1 g) : w2.heap[g]? = some o ∧ ¬ C2 g := by
  have hlt := (Array.getElem?_eq_some_iff.1 hg).1
  refine ⟨(hk.block g hlt hn).trans hg, fun e => ?_⟩
  rcases (hC g e).2 with h1 | h1
  · exact hn h1
  · omega
end SeqSt

/-- How a round's body may be left. -/
def roundC {α : Type} (I : List α → (Nat → Prop) → World → Prop) (Ix : Code → (Nat → Prop) → World → Prop) (pre : List α) (C : Nat → Prop) (W : World) : Exit → Act → World → Prop
  | .normal, _, W' => ∃ C', Kept C W W' ∧ (∀ b, C' b → b < W'.heap.size ∧ (C b ∨ W.heap.size ≤ b)) ∧ I pre C' W'
  | .ret, _, W' => ∃ C', Kept C W W' ∧ (∀ b, C' b → b < W'.heap.size ∧ (C b ∨ W.heap.size ≤ b)) ∧ Ix .ret C' W'
  | .exit id, _, W' => ∃ C', Kept C W W' ∧ (∀ b, C' b → b < W'.heap.size ∧ (C b ∨ W.heap.size ≤ b)) ∧ Ix (.exit id) C' W'
  | .goto t, _, W' => ∃ C', Kept C W W' ∧ (∀ b, C' b → b < W'.heap.size ∧ (C b ∨ W.heap.size ≤ b)) ∧ Ix (.goto t) C' W'
  | _, _, _ => False

section law
variable {P : Program} {α : Type}

/-- The round of a loop whose record lies at l, its block for deferred calls at D. -/
theorem round_yield {fn : FuncId} {ps : Array Tmp} {assign body : Code} {a : Act} {n₀ l : Nat} {rec : LoopState → Option Code → Loop}
    (hrec : ∀ st pe, rec st pe = { state := st, pending := pe, fn, tmps := a.tmps, params := ps, assign, body, defers := (rec .ready none).defers })
    {encs : α → Array Value} (hps : ∀ x, (encs x).size = ps.size)
    (I : List α → (Nat → Prop) → World → Prop) (Ix : Code → (Nat → Prop) → World → Prop)
    (hI : ∀ pre C1 W1 W2, I pre C1 W1 → Kept (fun b => n₀ ≤ b ∧ ¬ C1 b) W1 W2 → I pre C1 W2)
    (hIx : ∀ c C1 W1 W2, Ix c C1 W1 → Kept (fun b => n₀ ≤ b ∧ ¬ C1 b) W1 W2 → Ix c C1 W2)
    (hl : n₀ ≤ l) (m : Nat) (pre : List α) (x : α) (C1 : Nat → Prop) (W1 : World) (hlC : ¬ C1 l) (hL : W1.heap[l]? = some (.loop (rec .ready none)))
    (Ax : Act → World → Prop) (hAx : ∀ a' W2 W3, Ax a' W2 → W2.heap[l]? = some (.loop (rec .ready none)) → Kept (fun b => b = l) W2 W3 → Ax a' W3)
    (hassign : ∀ (K : Act → World → Prop), (∀ a' W2, Kept C1 W1 W2 → Ax a' W2 → K a' W2) →
      assign.wpIn (Fence.wide.inRound l) m P (Exit.then K (fun _ _ _ => False)) { tmps := (ps.zip (encs x)).foldl (fun t (p, v) => t.setIfInBounds p v) a.tmps, defers := [] } W1)
    (hbody : ∀ a' W2, Ax a' W2 → (∃ r, W2.heap[l]? = some (.loop r)) → (∃ Wy, Kept C1 W1 Wy ∧ Kept (fun b => b = l) Wy W2) → body.wpIn (Fence.wide.inRound l) m P (roundC I Ix (pre ++ [x]) C1 W2) a' W2) :
    YieldAt Fence.wide m P l (encs x) W1 fun e W2 =>
      ∃ C2 st pe, Kept (fun b => C1 b ∨ b = l) W1 W2 ∧ (∀ b, C2 b → b < W2.heap.size ∧ (C1 b ∨ W1.heap.size ≤ b)) ∧ W2.heap[l]? = some (.loop (rec st pe)) ∧
        ((e = .returned (.bool true) ∧ st = .ready ∧ pe = none ∧ I (pre ++ [x]) C2 W2) ∨ (e = .returned (.bool false) ∧ st = .done ∧ ∃ c, pe = some c ∧ Ix c C2 W2)) := by
  have hlt : l < W1.heap.size := (Array.getElem?_eq_some_iff.1 hL).1
  have hy := run_yield (P := P) (args := encs x) hL (by rw [hrec]; exact hps x)
  rw [hrec] at hy
  refine ⟨fn, _, assign, body, hy, roundIn_of_wpIn trivial (hassign _ ?_)⟩
  intro a' Wa hka hax
  have hLa : Wa.heap[l]? = some (.loop (rec .ready none)) := (hka.block l hlt hlC).trans hL
  have hlta : l < Wa.heap.size := (Array.getElem?_eq_some_iff.1 hLa).1
  refine ⟨_, run_beginRound hLa (by rw [hrec]), ?_⟩
  obtain ⟨Wb, hWb⟩ : ∃ Wb, Wa.putObj l (.loop { rec .ready none with state := .busy }) = Wb := ⟨_, rfl⟩
  rw [hWb]
  have hLb : Wb.heap[l]? = some (.loop { rec .ready none with state := .busy }) := by rw [← hWb]; exact World.putObj_heap_same hlta
  have hab : Kept (fun b => b = l) Wa Wb := by rw [← hWb]; exact (Kept.refl (fun b => b = l) _).putObj (r := l) (.inl rfl) _
  have hltb : l < Wb.heap.size := (Array.getElem?_eq_some_iff.1 hLb).1
  refine wpIn_mono (hbody a' Wb (hAx _ _ _ hax hLa hab) ⟨_, hLb⟩ ⟨Wa, hka, hab⟩) ?_
  have hall : ∀ (jump : Option Code) (W3 : World) (C' : Nat → Prop), Kept C1 Wb W3 → (∀ b, C' b → b < W3.heap.size ∧ (C1 b ∨ Wb.heap.size ≤ b)) →
      (Instr.endRound l jump).run P W3 = .ok (.bool jump.isNone) (W3.putObj l (.loop (rec (if jump.isNone then .ready else .done) jump))) ∧
      (W3.putObj l (.loop (rec (if jump.isNone then .ready else .done) jump))).heap[l]? = some (.loop (rec (if jump.isNone then .ready else .done) jump)) ∧
      Kept (fun b => C1 b ∨ b = l) W1 (W3.putObj l (.loop (rec (if jump.isNone then .ready else .done) jump))) ∧
      (∀ b, C' b → b < (W3.putObj l (.loop (rec (if jump.isNone then .ready else .done) jump))).heap.size ∧ (C1 b ∨ W1.heap.size ≤ b)) ∧
      Kept (fun b => n₀ ≤ b ∧ ¬ C' b) W3 (W3.putObj l (.loop (rec (if jump.isNone then .ready else .done) jump))) := by
    intro jump W3 C' hk hC'
    have hL3 := (hk.block l hltb hlC).trans hLb
    have hr := run_endRound (P := P) jump hL3
    have hr' : (Instr.endRound l jump).run P W3 = .ok (.bool jump.isNone) (W3.putObj l (.loop (rec (if jump.isNone then .ready else .done) jump))) := by
      rw [hr, hrec (if jump.isNone then LoopState.ready else LoopState.done) jump, hrec .ready none]
    refine ⟨hr', World.putObj_heap_same (Array.getElem?_eq_some_iff.1 hL3).1, ?_, ?_, (Kept.refl _ _).putObj (.inl ⟨hl, fun h => ?_⟩) _⟩
    · exact (((hka.mono (fun _ _ h => .inl h)).trans (hab.mono (fun _ _ h => .inr h))).trans (hk.mono (fun _ _ h => .inl h))).trans ((Kept.refl _ _).putObj (.inl (.inr rfl)) _)
    · intro b hb
      refine ⟨by simpa using (hC' b hb).1, ?_⟩
      rcases (hC' b hb).2 with h | h
      · exact .inl h
      · exact .inr (Nat.le_trans (Nat.le_trans hka.size hab.size) h)
    · rcases (hC' l h).2 with h | h
      · exact hlC h
      · omega
  rintro e a3 W3 hp
  cases e with
  | normal =>
    obtain ⟨C', hk, hC', hi3⟩ := hp
    obtain ⟨hr, h1, h2, h3, h4⟩ := hall none W3 C' hk hC'
    exact ⟨_, _, hr, C', .ready, none, h2, h3, h1, .inl ⟨rfl, rfl, rfl, hI _ _ _ _ hi3 h4⟩⟩
  | ret =>
    obtain ⟨C', hk, hC', hi3⟩ := hp
    obtain ⟨hr, h1, h2, h3, h4⟩ := hall (some .ret) W3 C' hk hC'
    exact ⟨_, _, hr, C', .done, some .ret, h2, h3, h1, .inr ⟨rfl, rfl, _, rfl, hIx _ _ _ _ hi3 h4⟩⟩
  | exit id =>
    obtain ⟨C', hk, hC', hi3⟩ := hp
    obtain ⟨hr, h1, h2, h3, h4⟩ := hall (some (.exit id)) W3 C' hk hC'
    exact ⟨_, _, hr, C', .done, some (.exit id), h2, h3, h1, .inr ⟨rfl, rfl, _, rfl, hIx _ _ _ _ hi3 h4⟩⟩
  | goto t =>
    obtain ⟨C', hk, hC', hi3⟩ := hp
    obtain ⟨hr, h1, h2, h3, h4⟩ := hall (some (.goto t)) W3 C' hk hC'
    exact ⟨_, _, hr, C', .done, some (.goto t), h2, h3, h1, .inr ⟨rfl, rfl, _, rfl, hIx _ _ _ _ hi3 h4⟩⟩
  | panic ch => exact hp.elim
  | outgrown => exact hp.elim

/-- The caller's premises on one round, for the law of a loop. -/
def RoundsC (P : Program) (n₀ : Nat) (a : Act) (ps : Array Tmp) (assign body : Code) (encs : α → Array Value) (xs : List α) (I : List α → (Nat → Prop) → World → Prop) (Ix : Code → (Nat → Prop) → World → Prop)
    (Ax : Nat → List α → α → (Nat → Prop) → Act → World → Prop) : Prop :=
  (∀ l pre x C1 a' W2 W3, n₀ ≤ l → ¬ C1 l → Ax l pre x C1 a' W2 → (∃ r, W2.heap[l]? = some (.loop r)) → Kept (fun b => b = l) W2 W3 → Ax l pre x C1 a' W3) ∧
  (∀ l m pre x suf C1 W1 (K : Act → World → Prop), n₀ ≤ l → l < W1.heap.size → ¬ C1 l → xs = pre ++ x :: suf → I pre C1 W1 → (∀ b, C1 b → b < W1.heap.size) → (∀ a' W2, Kept C1 W1 W2 → Ax l pre x C1 a' W2 → K a' W2) →
      assign.wpIn (Fence.wide.inRound l) m P (Exit.then K (fun _ _ _ => False)) { tmps := (ps.zip (encs x)).foldl (fun t (p, v) => t.setIfInBounds p v) a.tmps, defers := [] } W1) ∧
  (∀ l m pre x suf C1 a' W2, n₀ ≤ l → ¬ C1 l → xs = pre ++ x :: suf → Ax l pre x C1 a' W2 → (∃ r, W2.heap[l]? = some (.loop r)) → (∀ b, C1 b → b < W2.heap.size) → body.wpIn (Fence.wide.inRound l) m P (roundC I Ix (pre ++ [x]) C1 W2) a' W2)

/-- **The law of an outermost loop.** -/
theorem wp_rangeC {g : Operand} {ps : Array Tmp} {assign body : Code} {Q : Exit → Act → World → Prop} {a : Act} {w : World} {gf : Nat} {lb : Array Value}
    (hg : a.eval g = .func (.func gf) #[] lb) (eg : ∀ args w, (callFunc gf args).run P w = .ok (.enter gf args) w)
    {encs : α → Array Value} {xs : List α} {S : Nat → Prop} {w0 : World} (hseq : SeqC P gf lb encs xs S w0) (C : Nat → Prop)
    (hS : ∀ b, S b → b < w.heap.size ∧ w.heap[b]? = w0.heap[b]? ∧ ¬ C b) (hps : ∀ x, (encs x).size = ps.size) (hC : ∀ b, C b → b < w.heap.size)
    (I : List α → (Nat → Prop) → World → Prop) (Ix : Code → (Nat → Prop) → World → Prop)
    (hI : ∀ pre C1 W1 W2, I pre C1 W1 → Kept (fun b => w.heap.size ≤ b ∧ ¬ C1 b) W1 W2 → I pre C1 W2)
    (hIx : ∀ c C1 W1 W2, Ix c C1 W1 → Kept (fun b => w.heap.size ≤ b ∧ ¬ C1 b) W1 W2 → Ix c C1 W2)
    (h0 : I [] C w) (Ax : Nat → List α → α → (Nat → Prop) → Act → World → Prop)
    (hround : RoundsC P w.heap.size a ps assign body encs xs I Ix Ax)
    (hdone : ∀ D C' W, w.heap.size ≤ D → D < W.heap.size → ¬ C' D → I xs C' W → W.heap[D]? = some (.deferred (some [])) → Q .normal { a with defers := { target := .collected D, args := #[] } :: a.defers } W)
    (hstop : ∀ D c C' W, w.heap.size ≤ D → D < W.heap.size → ¬ C' D → Ix c C' W → W.heap[D]? = some (.deferred (some [])) → c.wp P Q { a with defers := { target := .collected D, args := #[] } :: a.defers } W) :
    (Code.rangeFunc g ps assign body).wp P Q a w := by
  refine (wpIn_wide (n := 0)).1 (wpIn_rangeFunc ?_)
  intro fn hfn
  obtain ⟨rec, hrec⟩ : ∃ rec : LoopState → Option Code → Loop, rec = fun st pe => { state := st, pending := pe, fn, tmps := a.tmps, params := ps, assign, body, defers := w.heap.size } := ⟨_, rfl⟩
  have hrec' : ∀ st pe, rec st pe = { state := st, pending := pe, fn, tmps := a.tmps, params := ps, assign, body, defers := (rec .ready none).defers } := by rw [hrec]; exact fun _ _ => rfl
  obtain ⟨W1, hW1⟩ : ∃ W1, (w.alloc (.deferred (some []))).alloc (.loop (rec .ready none)) = W1 := ⟨_, rfl⟩
  have hL1 : W1.heap[w.heap.size + 1]? = some (.loop (rec .ready none)) := by
    rw [← hW1]; have := World.alloc_heap_new (w.alloc (.deferred (some []))) (.loop (rec .ready none)); rwa [World.size_alloc] at this
  have hK1 : W1.heap[w.heap.size]? = some (.deferred (some [])) := by
    rw [← hW1]; exact (Below.heap_alloc _ _ _ (by simp)).trans (World.alloc_heap_new w _)
  have hz1 : W1.heap.size = w.heap.size + 2 := by rw [← hW1]; simp
  have hk1 : ∀ M, Kept M w W1 := fun M => by rw [← hW1]; exact ((Kept.refl _ _).alloc _).alloc _
  refine ⟨w.heap.size + 1, [{ target := .collected w.heap.size, args := #[] }], W1, { target := .fn (.func gf) lb, args := #[.func (.yield (w.heap.size + 1)) #[] #[]] }, W1, gf,
    #[.func (.yield (w.heap.size + 1)) #[] #[]] ++ lb, W1, ?_, ?_, fun _ _ => trivial, ?_, fun h => by simp [Fence.wide] at h, ?_⟩
  · rw [← hW1, hrec]; exact run_enterLoop_outer _ _ _ _ _
  · simp only [resolve, hg]
    simp [go_sem]
  · simp [invoke, go_sem, eg]
  · refine callsIn_wide.2 ((hseq (w.heap.size + 1)
      (fun pre C1 W => ∃ Cu, C1 = (fun b => Cu b ∨ b = w.heap.size ∨ b = w.heap.size + 1) ∧ ¬ Cu w.heap.size ∧ ¬ Cu (w.heap.size + 1) ∧ (∀ b, Cu b → b < W.heap.size) ∧ w.heap.size + 1 < W.heap.size ∧
        I pre Cu W ∧ W.heap[w.heap.size + 1]? = some (.loop (rec .ready none)) ∧ W.heap[w.heap.size]? = some (.deferred (some [])))
      (fun C1 W => ∃ Cu c, C1 = (fun b => Cu b ∨ b = w.heap.size ∨ b = w.heap.size + 1) ∧ ¬ Cu w.heap.size ∧ ¬ Cu (w.heap.size + 1) ∧ w.heap.size + 1 < W.heap.size ∧
        Ix c Cu W ∧ W.heap[w.heap.size + 1]? = some (.loop (rec .done (some c))) ∧ W.heap[w.heap.size]? = some (.deferred (some [])))
      (fun b => C b ∨ b = w.heap.size ∨ b = w.heap.size + 1) W1 ?_ ?_ ?_ ?_ ?_ ?_).mono ?_)
    · intro b hb
      obtain ⟨h1, h2, h3⟩ := hS b hb
      refine ⟨by omega, ((hk1 (fun _ => False)).block b h1 (fun h => h)).trans h2, fun h => ?_⟩
      rcases h with h | h | h
      · exact h3 h
      · omega
      · omega
    · intro b hb
      rcases hb with h | h | h
      · have := hC b h; omega
      · omega
      · omega
    · rintro pre C1 Wa Wb ⟨Cu, rfl, h1, h2, h3, h4, h5, h6, h7⟩ hk
      have hk' : Kept (fun b => w.heap.size ≤ b ∧ ¬ Cu b) Wa Wb := hk.mono fun b _ hb => ⟨by omega, fun h => hb.2 (.inl h)⟩
      refine ⟨Cu, rfl, h1, h2, fun b hb => Nat.lt_of_lt_of_le (h3 b hb) hk.size, Nat.lt_of_lt_of_le h4 hk.size, hI _ _ _ _ h5 hk', (hk.block _ h4 ?_).trans h6, (hk.block _ (by omega) ?_).trans h7⟩
      · intro h; exact h.2 (.inr (.inr rfl))
      · intro h; exact h.2 (.inr (.inl rfl))
    · rintro C1 Wa Wb ⟨Cu, c, rfl, h1, h2, h4, h5, h6, h7⟩ hk
      have hk' : Kept (fun b => w.heap.size ≤ b ∧ ¬ Cu b) Wa Wb := hk.mono fun b _ hb => ⟨by omega, fun h => hb.2 (.inl h)⟩
      refine ⟨Cu, c, rfl, h1, h2, Nat.lt_of_lt_of_le h4 hk.size, hIx _ _ _ _ h5 hk', (hk.block _ h4 ?_).trans h6, (hk.block _ (by omega) ?_).trans h7⟩
      · intro h; exact h.2 (.inr (.inr rfl))
      · intro h; exact h.2 (.inr (.inl rfl))
    · rintro m pre x suf C1 Wa hxs ⟨Cu, rfl, h1, h2, h3, h4, h5, h6, h7⟩
      obtain ⟨r1, r2, r3⟩ := hround
      refine (round_yield hrec' hps I Ix hI hIx (by omega) m pre x Cu Wa h2 h6 (Ax (w.heap.size + 1) pre x Cu)
        (fun a' W2 W3 hx hl hk => r1 _ _ _ _ _ _ _ (by omega) h2 hx ⟨_, hl⟩ hk)
        (fun K hK => r2 _ m pre x suf Cu Wa K (by omega) h4 h2 hxs h5 h3 hK)
        (fun a' W2 hx hr hy => r3 _ m pre x suf Cu a' W2 (by omega) h2 hxs hx hr (fun b hb => by
          obtain ⟨Wy, k1, k2⟩ := hy
          exact Nat.lt_of_lt_of_le (h3 b hb) (Nat.le_trans k1.size k2.size)))).mono ?_
      rintro e W2 ⟨C2, st, pe, hk, hC2, hl, hcase⟩
      have hD : W2.heap[w.heap.size]? = some (.deferred (some [])) := (hk.block _ (by omega) (fun h => by
        rcases h with h | h
        · exact h1 h
        · omega)).trans h7
      have n1 : ¬ C2 w.heap.size := fun h => by
        rcases (hC2 _ h).2 with h | h
        · exact h1 h
        · omega
      have n2 : ¬ C2 (w.heap.size + 1) := fun h => by
        rcases (hC2 _ h).2 with h | h
        · exact h2 h
        · omega
      refine ⟨fun b => C2 b ∨ b = w.heap.size ∨ b = w.heap.size + 1, hk.mono (fun b _ h => by
        rcases h with h | h
        · exact .inl h
        · exact .inr (.inr h)), fun b hb => ?_, ?_⟩
      · rcases hb with h | h | h
        · refine ⟨(hC2 b h).1, ?_⟩
          rcases (hC2 b h).2 with h | h
          · exact .inl (.inl h)
          · exact .inr h
        · exact ⟨by have := hk.size; omega, .inl (.inr (.inl h))⟩
        · exact ⟨by have := hk.size; omega, .inl (.inr (.inr h))⟩
      · rcases hcase with ⟨rfl, rfl, rfl, hi⟩ | ⟨rfl, rfl, c, rfl, hi⟩
        · exact .inl ⟨rfl, C2, rfl, n1, n2, fun b hb => (hC2 b hb).1, by have := hk.size; omega, hi, hl, hD⟩
        · exact .inr ⟨rfl, C2, c, rfl, n1, n2, by have := hk.size; omega, hi, hl, hD⟩
    · refine ⟨C, rfl, fun h => ?_, fun h => ?_, fun b hb => by have := hC b hb; omega, by omega, hI _ _ _ _ h0 (hk1 _), hL1, hK1⟩
      · have := hC _ h; omega
      · have := hC _ h; omega
    · rintro e W2 ⟨⟨v, rfl⟩, C', (⟨Cu, rfl, h1, h2, h3, h4, h5, h6, h7⟩ | ⟨Cu, c, rfl, h1, h2, h4, h5, h6, h7⟩)⟩
      · have hk : Kept (fun b => w.heap.size ≤ b ∧ ¬ Cu b) W2 (W2.putObj (w.heap.size + 1) (.loop { rec .ready none with state := .exhausted })) := (Kept.refl _ _).putObj (.inl ⟨by omega, h2⟩) _
        exact ⟨none, _, by have := run_endLoop (P := P) h6 (by rw [hrec]; simp); rw [hrec] at this ⊢; exact this, hdone _ Cu _ (Nat.le_refl _) (by simp; omega) h1 (hI _ _ _ _ h5 hk) ((World.putObj_heap_other (by omega)).trans h7)⟩
      · have hk : Kept (fun b => w.heap.size ≤ b ∧ ¬ Cu b) W2 (W2.putObj (w.heap.size + 1) (.loop { rec .done (some c) with state := .exhausted })) := (Kept.refl _ _).putObj (.inl ⟨by omega, h2⟩) _
        exact ⟨some c, _, by have := run_endLoop (P := P) h6 (by rw [hrec]; simp); rw [hrec] at this ⊢; exact this, wpIn_wide.2 (hstop _ c Cu _ (Nat.le_refl _) (by simp; omega) h1 (hIx _ _ _ _ h5 hk) ((World.putObj_heap_other (by omega)).trans h7))⟩

/-- How a round's body may be left, where the rounds write blocks of one set M alone, that lay ahead of the loop. -/
def roundM {α : Type} (M : Nat → Prop) (I : List α → World → Prop) (Ix : Code → World → Prop) (pre : List α) (W : World) : Exit → Act → World → Prop
  | .normal, _, W' => Kept M W W' ∧ I pre W'
  | .ret, _, W' => Kept M W W' ∧ Ix .ret W'
  | .exit id, _, W' => Kept M W W' ∧ Ix (.exit id) W'
  | .goto t, _, W' => Kept M W W' ∧ Ix (.goto t) W'
  | _, _, _ => False

/-- **The law of an outermost loop whose rounds write, of what lay ahead of it, blocks of M alone.** -/
theorem wp_rangeM {g : Operand} {ps : Array Tmp} {assign body : Code} {Q : Exit → Act → World → Prop} {a : Act} {w : World} {gf : Nat} {lb : Array Value}
    (hg : a.eval g = .func (.func gf) #[] lb) (eg : ∀ args w, (callFunc gf args).run P w = .ok (.enter gf args) w)
    {encs : α → Array Value} {xs : List α} {S : Nat → Prop} {w0 : World} (hseq : SeqC P gf lb encs xs S w0) (M : Nat → Prop)
    (hS : ∀ b, S b → b < w.heap.size ∧ w.heap[b]? = w0.heap[b]? ∧ ¬ M b) (hps : ∀ x, (encs x).size = ps.size) (hM : ∀ b, M b → b < w.heap.size)
    (I : List α → World → Prop) (Ix : Code → World → Prop)
    (hI : ∀ pre W1 W2, I pre W1 → Kept (fun b => w.heap.size ≤ b) W1 W2 → I pre W2)
    (hIx : ∀ c W1 W2, Ix c W1 → Kept (fun b => w.heap.size ≤ b) W1 W2 → Ix c W2)
    (h0 : I [] w) (Ax : Nat → List α → α → Act → World → Prop)
    (hAx : ∀ l pre x a' W2 W3, w.heap.size ≤ l → Ax l pre x a' W2 → (∃ r, W2.heap[l]? = some (.loop r)) → Kept (fun b => b = l) W2 W3 → Ax l pre x a' W3)
    (hassign : ∀ l m pre x suf W1 (K : Act → World → Prop), w.heap.size ≤ l → l < W1.heap.size → xs = pre ++ x :: suf → I pre W1 → (∀ a' W2, Kept M W1 W2 → Ax l pre x a' W2 → K a' W2) →
      assign.wpIn (Fence.wide.inRound l) m P (Exit.then K (fun _ _ _ => False)) { tmps := (ps.zip (encs x)).foldl (fun t (p, v) => t.setIfInBounds p v) a.tmps, defers := [] } W1)
    (hbody : ∀ l m pre x suf a' W2, w.heap.size ≤ l → xs = pre ++ x :: suf → Ax l pre x a' W2 → (∃ r, W2.heap[l]? = some (.loop r)) → body.wpIn (Fence.wide.inRound l) m P (roundM M I Ix (pre ++ [x]) W2) a' W2)
    (hdone : ∀ D W, w.heap.size ≤ D → D < W.heap.size → I xs W → W.heap[D]? = some (.deferred (some [])) → Q .normal { a with defers := { target := .collected D, args := #[] } :: a.defers } W)
    (hstop : ∀ D c W, w.heap.size ≤ D → D < W.heap.size → Ix c W → W.heap[D]? = some (.deferred (some [])) → c.wp P Q { a with defers := { target := .collected D, args := #[] } :: a.defers } W) :
    (Code.rangeFunc g ps assign body).wp P Q a w := by
  have hKM : ∀ {W1 W2 : World}, Kept (fun b => w.heap.size ≤ b ∧ ¬ M b) W1 W2 → Kept (fun b => w.heap.size ≤ b) W1 W2 := fun h => h.mono fun _ _ hb => hb.1
  refine wp_rangeC hg eg hseq M hS hps hM (fun pre C W => C = M ∧ I pre W) (fun c C W => C = M ∧ Ix c W) ?_ ?_ ⟨rfl, h0⟩ (fun l pre x C a' W => C = M ∧ Ax l pre x a' W) ⟨?_, ?_, ?_⟩ ?_ ?_
  · rintro pre C1 W1 W2 ⟨rfl, hi⟩ hk; exact ⟨rfl, hI _ _ _ hi (hKM hk)⟩
  · rintro c C1 W1 W2 ⟨rfl, hi⟩ hk; exact ⟨rfl, hIx _ _ _ hi (hKM hk)⟩
  · rintro l pre x C1 a' W2 W3 hl _ ⟨rfl, hx⟩ hr hk; exact ⟨rfl, hAx _ _ _ _ _ _ hl hx hr hk⟩
  · rintro l m pre x suf C1 W1 K hl hlt _ hxs ⟨rfl, hi⟩ _ hK
    exact hassign l m pre x suf W1 K hl hlt hxs hi fun a' W2 hk hx => hK a' W2 hk ⟨rfl, hx⟩
  · rintro l m pre x suf C1 a' W2 hl _ hxs ⟨rfl, hx⟩ hr hC
    refine wpIn_mono (hbody l m pre x suf a' W2 hl hxs hx hr) ?_
    rintro e a3 W3 hp
    cases e with
    | normal => exact ⟨C1, hp.1, fun b hb => ⟨Nat.lt_of_lt_of_le (hC b hb) hp.1.size, .inl hb⟩, rfl, hp.2⟩
    | ret => exact ⟨C1, hp.1, fun b hb => ⟨Nat.lt_of_lt_of_le (hC b hb) hp.1.size, .inl hb⟩, rfl, hp.2⟩
    | exit id => exact ⟨C1, hp.1, fun b hb => ⟨Nat.lt_of_lt_of_le (hC b hb) hp.1.size, .inl hb⟩, rfl, hp.2⟩
    | goto t => exact ⟨C1, hp.1, fun b hb => ⟨Nat.lt_of_lt_of_le (hC b hb) hp.1.size, .inl hb⟩, rfl, hp.2⟩
    | panic ch => exact hp.elim
    | outgrown => exact hp.elim
  · rintro D C' W hD hlt _ ⟨_, hi⟩ hk; exact hdone D W hD hlt hi hk
  · rintro D c C' W hD hlt _ ⟨_, hi⟩ hk; exact hstop D c W hD hlt hi hk

end law
end Go.Proofs.YtbmbpannhncpjaaDoor
