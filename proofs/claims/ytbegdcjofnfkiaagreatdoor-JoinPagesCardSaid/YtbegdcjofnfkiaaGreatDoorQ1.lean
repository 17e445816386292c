/- Several texts in one: Iter Core F0 Ord Own. -/
import Derived.RangeFuncNested
import Derived.RangeFuncLeaves
import Derived.RangeFuncCalls
import Derived.RangeFuncBound
import Derived.Deep.Draws
import Derived.WalkKit
import Derived.Deep.Quiet
import Derived.Deep.QuietTactic
import Derived.Maps.AppendAt
import Derived.OwnWalk
namespace Go.Proofs.YtbegdcjofnfkiaaGreatDoor
section
open Go.RowKit
theorem naL.{u} {α : Type u} (l : List α) : [] ++ l = l := rfl
theorem caL.{u} {α : Type u} (a : α) (l m : List α) : (a :: l) ++ m = a :: (l ++ m) := rfl
theorem hidp {p : Prop} (h : p) : Hid p := h
theorem lt_of_cell {w : World} {b o : Nat} {v : Value} (h : w.cell? ⟨b, o, none⟩ = some v) : b < w.heap.size := by
 rcases Nat.lt_or_ge b w.heap.size with h1 | h1
 ·exact h1
 ·simp [World.cell?, Array.getElem?_eq_none h1] at h
theorem cell_of_heap {w : World} {b o : Nat} {cs : Array Value} {t : TypeId} {fr : Nat × Nat} (h : w.heap[b]? = some (.cells cs t fr)) : w.cell? ⟨b, o, none⟩ = cs[o]? := by simp [World.cell?, h]
theorem frozen_of_heap {w : World} {b o : Nat} {cs : Array Value} {t : TypeId} (h : w.heap[b]? = some (.cells cs t (0, 0))) : w.frozen? ⟨b, o, none⟩ = false := by simp [World.frozen?, h]
theorem heap_set1 {w : World} {b : Nat} {v : Value} {t : TypeId} {fr : Nat × Nat} (h : w.heap[b]? = some (.cells #[v] t fr)) (u : Value) : (w.setCell ⟨b, 0, none⟩ u).heap[b]? = some (.cells #[u] t fr) := by
 simp [World.setCell, Array.getElem?_modify, h]
theorem lt_of_heap {w : World} {b : Nat} {o : Obj} (h : w.heap[b]? = some o) : b < w.heap.size := (Array.getElem?_eq_some_iff.1 h).1
theorem bcell {n : Nat} {W w1 : World} (hb : Below n W w1) : (∀ b o, b < n → w1.cell? ⟨b, o, none⟩ = W.cell? ⟨b, o, none⟩) ∧ (∀ b o, b < n → w1.frozen? ⟨b, o, none⟩ = W.frozen? ⟨b, o, none⟩) :=
 ⟨fun b o h => hb.cell (p := ⟨b, o, none⟩) h, fun b o h => hb.frozen (p := ⟨b, o, none⟩) h⟩
theorem calls_of_wp_marks {P : Program} {f : FuncId} {fn : Func} {c : Code} {args : Array Value} {w : World} {R : Ending → World → Prop} (hf : P.funcs[f]? = some fn) (hb : fn.body = some c)
  (h : c.wp P (bodyPostM Fence.wide 0 P fn R) { tmps := args ++ Array.replicate (fn.ntmps - args.size) undef, defers := [] } w) : Calls P f args w R :=
 (callsIn_wide (n := 0)).1 (callsIn_of_wp_marks hf hb trivial ((wpIn_wide (n := 0)).2 h))
theorem leave_mark {P : Program} {fn : Func} {R : Ending → World → Prop} {a : Act} {w : World} {v : Value} {D : Nat} {args : Array Value} {e : Exit} (he : e = .ret ∨ e = .normal) (hD : w.heap[D]? = some (.deferred (some []))) (hd : a.defers = [{ target := .collected D, args := args }])
  (hr : (results fn a.tmps).run P (w.putObj D (.deferred none)) = .ok v (w.putObj D (.deferred none))) (hR : R (.returned v) (w.putObj D (.deferred none))) :
  bodyPostM Fence.wide 0 P fn R e a w := by
 rcases he with rfl | rfl
 ·show LeavesInM Fence.wide 0 P fn a.tmps R a.defers .returning w
  rw [hd]
  exact ⟨by simp, .inl ⟨_, _, rfl, run_takeDeferred hD, ⟨v, hr, hR⟩⟩⟩
 ·show LeavesInM Fence.wide 0 P fn a.tmps R a.defers .returning w
  rw [hd]
  exact ⟨by simp, .inl ⟨_, _, rfl, run_takeDeferred hD, ⟨v, hr, hR⟩⟩⟩
structure Kept (M : Nat → Prop) (W W' : World) : Prop where
 os : W'.os = W.os
 tape : W'.tape = W.tape
 output : W'.output = W.output
 size : W.heap.size ≤ W'.heap.size
 block : ∀ b, b < W.heap.size → ¬ M b → W'.heap[b]? = W.heap[b]?
namespace Kept
variable {M M' : Nat → Prop} {A B C : World}
theorem refl (M : Nat → Prop) (W : World) : Kept M W W := ⟨rfl, rfl, rfl, Nat.le_refl _, fun _ _ _ => rfl⟩
theorem trans (h : Kept M A B) (k : Kept M B C) : Kept M A C :=
 ⟨k.os.trans h.os, k.tape.trans h.tape, k.output.trans h.output, Nat.le_trans h.size k.size, fun b hb hm => (k.block b (Nat.lt_of_lt_of_le hb h.size) hm).trans (h.block b hb hm)⟩
theorem mono (h : Kept M A B) (hm : ∀ b, b < A.heap.size → M b → M' b) : Kept M' A B := ⟨h.os, h.tape, h.output, h.size, fun b hb hn => h.block b hb (fun hb' => hn (hm b hb hb'))⟩
theorem alloc (h : Kept M A B) (o : Obj) : Kept M A (B.alloc o) :=
 ⟨h.os, h.tape, h.output, Nat.le_trans h.size (by simp), fun b hb hm => (Below.heap_alloc B o b (Nat.lt_of_lt_of_le hb h.size)).trans (h.block b hb hm)⟩
theorem setCell (h : Kept M A B) {p : Addr} (hp : M p.block ∨ A.heap.size ≤ p.block) (u : Value) : Kept M A (B.setCell p u) :=
 ⟨h.os, h.tape, h.output, by simpa [World.setCell] using h.size, fun b hb hm => (Below.heap_setCell B p u b (by
  rintro rfl
  rcases hp with hp | hp
  ·exact hm hp
  ·omega)).trans (h.block b hb hm)⟩
theorem putObj (h : Kept M A B) {r : Nat} (hp : M r ∨ A.heap.size ≤ r) (o : Obj) : Kept M A (B.putObj r o) :=
 ⟨h.os, h.tape, h.output, by simpa using h.size, fun b hb hm => (World.putObj_heap_other (by
  rintro rfl
  rcases hp with hp | hp
  ·exact hm hp
  ·omega)).trans (h.block b hb hm)⟩
theorem drew (h : Kept M A B) : Kept M A B.drew := ⟨h.os, h.tape, h.output, h.size, h.block⟩
theorem below (h : Kept M A B) {n : Nat} (k : Below n B C) (hn : ∀ b, n ≤ b → b < A.heap.size → M b) : Kept M A C :=
 ⟨k.os.trans h.os, k.tape.trans h.tape, k.output.trans h.output, Nat.le_trans h.size k.size, fun b hb hm => (k.block b (by
  rcases Nat.lt_or_ge b n with h1 | h1
  ·exact h1
  ·exact absurd (hn b h1 hb) hm)).trans (h.block b hb hm)⟩
theorem grown (h : Kept M A B) {row : Option Nat} (k : B.grownBy C row) (hr : ∀ r, row = some r → M r ∨ A.heap.size ≤ r) : Kept M A C :=
 ⟨k.os.trans h.os, k.tape.trans h.tape, k.output.trans h.output, Nat.le_trans h.size k.size, fun b hb hm => (k.block b (Nat.lt_of_lt_of_le hb h.size) (by
  intro e
  rcases hr b e.symm with h1 | h1
  ·exact hm h1
  ·omega)).trans (h.block b hb hm)⟩
theorem toBelow (h : Kept M A B) {n : Nat} (hn : n ≤ A.heap.size) (hm : ∀ b, b < n → ¬ M b) : Below n A B := ⟨h.os, h.tape, h.output, h.size, fun k hk => h.block k (by omega) (hm k hk)⟩
end Kept
theorem kept_of_below {M : Nat → Prop} {n : Nat} {A B : World} (k : Below n A B) (hn : ∀ b, n ≤ b → b < A.heap.size → M b) : Kept M A B := (Kept.refl M A).below k hn
def SeqC {α : Type} (P : Program) (g : Nat) (lb : Array Value) (encs : α → Array Value) (xs : List α) (S : Nat → Prop) (w : World) : Prop :=
 ∀ (l : Nat) (J : List α → (Nat → Prop) → World → Prop) (Jx : (Nat → Prop) → World → Prop) (C : Nat → Prop) (W : World),
  (∀ b, S b → b < W.heap.size ∧ W.heap[b]? = w.heap[b]? ∧ ¬ C b) → (∀ b, C b → b < W.heap.size) →
  (∀ pre C1 W1 W2, J pre C1 W1 → Kept (fun b => W.heap.size ≤ b ∧ ¬ C1 b) W1 W2 → J pre C1 W2) →
  (∀ C1 W1 W2, Jx C1 W1 → Kept (fun b => W.heap.size ≤ b ∧ ¬ C1 b) W1 W2 → Jx C1 W2) →
  (∀ m pre x suf C1 W1, xs = pre ++ x :: suf → J pre C1 W1 → YieldAt Fence.wide m P l (encs x) W1 fun e W2 =>
   ∃ C2, Kept C1 W1 W2 ∧ (∀ b, C2 b → b < W2.heap.size ∧ (C1 b ∨ W1.heap.size ≤ b)) ∧
    ((e = .returned (.bool true) ∧ J (pre ++ [x]) C2 W2) ∨ (e = .returned (.bool false) ∧ Jx C2 W2))) →
  J [] C W →
  Calls P g (#[.func (.yield l) #[] #[]] ++ lb) W fun e W' => (∃ v, e = .returned v) ∧ ∃ C', J xs C' W' ∨ Jx C' W'
structure SeqSt (S : Nat → Prop) (w W : World) (C1 : Nat → Prop) (wr : World) : Prop where
 reads : ∀ b, S b → b < W.heap.size ∧ wr.heap[b]? = w.heap[b]? ∧ ¬ C1 b
 lt : ∀ b, C1 b → b < wr.heap.size
 size : W.heap.size ≤ wr.heap.size
namespace SeqSt
variable {S C1 C2 : Nat → Prop} {w W wr w2 : World}
theorem start (h : ∀ b, S b → b < W.heap.size ∧ W.heap[b]? = w.heap[b]? ∧ ¬ C1 b) (h' : ∀ b, C1 b → b < W.heap.size) : SeqSt S w W C1 W := ⟨h, h', Nat.le_refl _⟩
theorem alloc (h : SeqSt S w W C1 wr) (o : Obj) : SeqSt S w W C1 (wr.alloc o) :=
 ⟨fun b hb => ⟨(h.reads b hb).1, (Below.heap_alloc wr o b (Nat.lt_of_lt_of_le (h.reads b hb).1 h.size)).trans (h.reads b hb).2.1, (h.reads b hb).2.2⟩, fun b hb => Nat.lt_of_lt_of_le (h.lt b hb) (by simp), Nat.le_trans h.size (by simp)⟩
theorem own (h : SeqSt S w W C1 wr) {M : Nat → Prop} (hk : Kept M wr w2) (hM : ∀ b, M b → W.heap.size ≤ b) : SeqSt S w W C1 w2 :=
 ⟨fun b hb => ⟨(h.reads b hb).1, (hk.block b (Nat.lt_of_lt_of_le (h.reads b hb).1 h.size) (fun e => by have := hM b e; have := (h.reads b hb).1; omega)).trans (h.reads b hb).2.1, (h.reads b hb).2.2⟩, fun b hb => Nat.lt_of_lt_of_le (h.lt b hb) hk.size, Nat.le_trans h.size hk.size⟩
theorem round (h : SeqSt S w W C1 wr) (hk : Kept C1 wr w2) (hC : ∀ b, C2 b → b < w2.heap.size ∧ (C1 b ∨ wr.heap.size ≤ b)) : SeqSt S w W C2 w2 :=
 ⟨fun b hb => ⟨(h.reads b hb).1, (hk.block b (Nat.lt_of_lt_of_le (h.reads b hb).1 h.size) (h.reads b hb).2.2).trans (h.reads b hb).2.1, fun e => by
  rcases (hC b e).2 with h1 | h1
  ·exact (h.reads b hb).2.2 h1
  ·have := (h.reads b hb).1; have := h.size; omega⟩, fun b hb => (hC b hb).1, Nat.le_trans h.size hk.size⟩
theorem cell (h : SeqSt S w W C1 wr) {b o : Nat} (hb : S b) : wr.cell? ⟨b, o, none⟩ = w.cell? ⟨b, o, none⟩ := World.cell?_of_block (w := w) (h.reads b hb).2.1
end SeqSt
def roundC {α : Type} (I : List α → (Nat → Prop) → World → Prop) (Ix : Code → (Nat → Prop) → World → Prop) (pre : List α) (C : Nat → Prop) (W : World) : Exit → Act → World → Prop
 | .normal, _, W' => ∃ C', Kept C W W' ∧ (∀ b, C' b → b < W'.heap.size ∧ (C b ∨ W.heap.size ≤ b)) ∧ I pre C' W'
 | .ret, _, W' => ∃ C', Kept C W W' ∧ (∀ b, C' b → b < W'.heap.size ∧ (C b ∨ W.heap.size ≤ b)) ∧ Ix .ret C' W'
 | .exit id, _, W' => ∃ C', Kept C W W' ∧ (∀ b, C' b → b < W'.heap.size ∧ (C b ∨ W.heap.size ≤ b)) ∧ Ix (.exit id) C' W'
 | .goto t, _, W' => ∃ C', Kept C W W' ∧ (∀ b, C' b → b < W'.heap.size ∧ (C b ∨ W.heap.size ≤ b)) ∧ Ix (.goto t) C' W'
 | _, _, _ => False
section law
variable {P : Program} {α : Type}
theorem round_yield {fn : FuncId} {ps : Array Tmp} {assign body : Code} {a : Act} {n₀ l : Nat} {rec : LoopState → Option Code → Loop}
    (hrec : ∀ st pe, rec st pe = { state := st, pending := pe, fn, tmps := a.tmps, params := ps, assign, body, defers := (rec .ready none).defers })
    {encs : α → Array Value} (hps : ∀ x, (encs x).size = ps.size)
    (I : List α → (Nat → Prop) → World → Prop) (Ix : Code → (Nat → Prop) → World → Prop)
    (hI : ∀ pre C1 W1 W2, I pre C1 W1 → Kept (fun b => n₀ ≤ b ∧ ¬ C1 b) W1 W2 → I pre C1 W2)
    (hIx : ∀ c C1 W1 W2, Ix c C1 W1 → Kept (fun b => n₀ ≤ b ∧ ¬ C1 b) W1 W2 → Ix c C1 W2)
    (hl : n₀ ≤ l) (m : Nat) (pre : List α) (x : α) (C1 : Nat → Prop) (W1 : World) (hlC : ¬ C1 l) (hL : W1.heap[l]? = some (.loop (rec .ready none)))
    (Ax : Act → World → Prop) (hAx : ∀ a' W2 W3, Ax a' W2 → W2.heap[l]? = some (.loop (rec .ready none)) → Kept (fun b => b = l) W2 W3 → Ax a' W3)
    (hassign : ∀ (K : Act → World → Prop), (∀ a' W2, Kept C1 W1 W2 → Ax a' W2 → K a' W2) →
      assign.wpIn (Fence.wide.inRound l) m P (Exit.then K (fun _ _ _ => False)) { tmps := (ps.zip (encs x)).foldl (fun t (p, v) => t.setIfInBounds p v) a.tmps, defers := [] } W1)
    (hbody : ∀ a' W2, Ax a' W2 → (∃ r, W2.heap[l]? = some (.loop r)) → (∃ Wy, Kept C1 W1 Wy ∧ Kept (fun b => b = l) Wy W2) → body.wpIn (Fence.wide.inRound l) m P (roundC I Ix (pre ++ [x]) C1 W2) a' W2) :
    YieldAt Fence.wide m P l (encs x) W1 fun e W2 =>
      ∃ C2 st pe, Kept (fun b => C1 b ∨ b = l) W1 W2 ∧ (∀ b, C2 b → b < W2.heap.size ∧ (C1 b ∨ W1.heap.size ≤ b)) ∧ W2.heap[l]? = some (.loop (rec st pe)) ∧
        ((e = .returned (.bool true) ∧ st = .ready ∧ pe = none ∧ I (pre ++ [x]) C2 W2) ∨ (e = .returned (.bool false) ∧ st = .done ∧ ∃ c, pe = some c ∧ Ix c C2 W2)) := by
  have hlt : l < W1.heap.size := (Array.getElem?_eq_some_iff.1 hL).1
  have hy := run_yield (P := P) (args := encs x) hL (by rw [hrec]; exact hps x)
  rw [hrec] at hy
  refine ⟨fn, _, assign, body, hy, roundIn_of_wpIn trivial (hassign _ ?_)⟩
  intro a' Wa hka hax
  have hLa : Wa.heap[l]? = some (.loop (rec .ready none)) := (hka.block l hlt hlC).trans hL
  have hlta : l < Wa.heap.size := (Array.getElem?_eq_some_iff.1 hLa).1
  refine ⟨_, run_beginRound hLa (by rw [hrec]), ?_⟩
  obtain ⟨Wb, hWb⟩ : ∃ Wb, Wa.putObj l (.loop { rec .ready none with state := .busy }) = Wb := ⟨_, rfl⟩
  rw [hWb]
  have hLb : Wb.heap[l]? = some (.loop { rec .ready none with state := .busy }) := by rw [← hWb]; exact World.putObj_heap_same hlta
  have hab : Kept (fun b => b = l) Wa Wb := by rw [← hWb]; exact (Kept.refl (fun b => b = l) _).putObj (r := l) (.inl rfl) _
  have hltb : l < Wb.heap.size := (Array.getElem?_eq_some_iff.1 hLb).1
  refine wpIn_mono (hbody a' Wb (hAx _ _ _ hax hLa hab) ⟨_, hLb⟩ ⟨Wa, hka, hab⟩) ?_
  have hall : ∀ (jump : Option Code) (W3 : World) (C' : Nat → Prop), Kept C1 Wb W3 → (∀ b, C' b → b < W3.heap.size ∧ (C1 b ∨ Wb.heap.size ≤ b)) →
      (Instr.endRound l jump).run P W3 = .ok (.bool jump.isNone) (W3.putObj l (.loop (rec (if jump.isNone then .ready else .done) jump))) ∧
      (W3.putObj l (.loop (rec (if jump.isNone then .ready else .done) jump))).heap[l]? = some (.loop (rec (if jump.isNone then .ready else .done) jump)) ∧
      Kept (fun b => C1 b ∨ b = l) W1 (W3.putObj l (.loop (rec (if jump.isNone then .ready else .done) jump))) ∧
      (∀ b, C' b → b < (W3.putObj l (.loop (rec (if jump.isNone then .ready else .done) jump))).heap.size ∧ (C1 b ∨ W1.heap.size ≤ b)) ∧
      Kept (fun b => n₀ ≤ b ∧ ¬ C' b) W3 (W3.putObj l (.loop (rec (if jump.isNone then .ready else .done) jump))) := by
    intro jump W3 C' hk hC'
    have hL3 := (hk.block l hltb hlC).trans hLb
    have hr := run_endRound (P := P) jump hL3
    have hr' : (Instr.endRound l jump).run P W3 = .ok (.bool jump.isNone) (W3.putObj l (.loop (rec (if jump.isNone then .ready else .done) jump))) := by
      rw [hr, hrec (if jump.isNone then LoopState.ready else LoopState.done) jump, hrec .ready none]
    refine ⟨hr', World.putObj_heap_same (Array.getElem?_eq_some_iff.1 hL3).1, ?_, ?_, (Kept.refl _ _).putObj (.inl ⟨hl, fun h => ?_⟩) _⟩
    · exact (((hka.mono (fun _ _ h => .inl h)).trans (hab.mono (fun _ _ h => .inr h))).trans (hk.mono (fun _ _ h => .inl h))).trans ((Kept.refl _ _).putObj (.inl (.inr rfl)) _)
    · intro b hb
      refine ⟨by simpa using (hC' b hb).1, ?_⟩
      rcases (hC' b hb).2 with h | h
      · exact .inl h
      · exact .inr (Nat.le_trans (Nat.le_trans hka.size hab.size) h)
    · rcases (hC' l h).2 with h | h
      · exact hlC h
      · omega
  rintro e a3 W3 hp
  cases e with
  | normal =>
    obtain ⟨C', hk, hC', hi3⟩ := hp
    obtain ⟨hr, h1, h2, h3, h4⟩ := hall none W3 C' hk hC'
    exact ⟨_, _, hr, C', .ready, none, h2, h3, h1, .inl ⟨rfl, rfl, rfl, hI _ _ _ _ hi3 h4⟩⟩
  | ret =>
    obtain ⟨C', hk, hC', hi3⟩ := hp
    obtain ⟨hr, h1, h2, h3, h4⟩ := hall (some .ret) W3 C' hk hC'
    exact ⟨_, _, hr, C', .done, some .ret, h2, h3, h1, .inr ⟨rfl, rfl, _, rfl, hIx _ _ _ _ hi3 h4⟩⟩
  | exit id =>
    obtain ⟨C', hk, hC', hi3⟩ := hp
    obtain ⟨hr, h1, h2, h3, h4⟩ := hall (some (.exit id)) W3 C' hk hC'
    exact ⟨_, _, hr, C', .done, some (.exit id), h2, h3, h1, .inr ⟨rfl, rfl, _, rfl, hIx _ _ _ _ hi3 h4⟩⟩
  | goto t =>
    obtain ⟨C', hk, hC', hi3⟩ := hp
    obtain ⟨hr, h1, h2, h3, h4⟩ := hall (some (.goto t)) W3 C' hk hC'
    exact ⟨_, _, hr, C', .done, some (.goto t), h2, h3, h1, .inr ⟨rfl, rfl, _, rfl, hIx _ _ _ _ hi3 h4⟩⟩
  | panic ch => exact hp.elim
  | outgrown => exact hp.elim
def RoundsC (P : Program) (n₀ : Nat) (a : Act) (ps : Array Tmp) (assign body : Code) (encs : α → Array Value) (xs : List α) (I : List α → (Nat → Prop) → World → Prop) (Ix : Code → (Nat → Prop) → World → Prop)
  (Ax : Nat → List α → α → (Nat → Prop) → Act → World → Prop) : Prop :=
 (∀ l pre x C1 a' W2 W3, n₀ ≤ l → ¬ C1 l → Ax l pre x C1 a' W2 → (∃ r, W2.heap[l]? = some (.loop r)) → Kept (fun b => b = l) W2 W3 → Ax l pre x C1 a' W3) ∧
 (∀ l m pre x suf C1 W1 (K : Act → World → Prop), n₀ ≤ l → l < W1.heap.size → ¬ C1 l → xs = pre ++ x :: suf → I pre C1 W1 → (∀ b, C1 b → b < W1.heap.size) → (∀ a' W2, Kept C1 W1 W2 → Ax l pre x C1 a' W2 → K a' W2) →
   assign.wpIn (Fence.wide.inRound l) m P (Exit.then K (fun _ _ _ => False)) { tmps := (ps.zip (encs x)).foldl (fun t (p, v) => t.setIfInBounds p v) a.tmps, defers := [] } W1) ∧
 (∀ l m pre x suf C1 a' W2, n₀ ≤ l → ¬ C1 l → xs = pre ++ x :: suf → Ax l pre x C1 a' W2 → (∃ r, W2.heap[l]? = some (.loop r)) → (∀ b, C1 b → b < W2.heap.size) → body.wpIn (Fence.wide.inRound l) m P (roundC I Ix (pre ++ [x]) C1 W2) a' W2)
theorem wp_rangeC {g : Operand} {ps : Array Tmp} {assign body : Code} {Q : Exit → Act → World → Prop} {a : Act} {w : World} {gf : Nat} {lb : Array Value}
  (hg : a.eval g = .func (.func gf) #[] lb) (eg : ∀ args w, (callFunc gf args).run P w = .ok (.enter gf args) w)
  {encs : α → Array Value} {xs : List α} {S : Nat → Prop} {w0 : World} (hseq : SeqC P gf lb encs xs S w0) (C : Nat → Prop)
  (hS : ∀ b, S b → b < w.heap.size ∧ w.heap[b]? = w0.heap[b]? ∧ ¬ C b) (hps : ∀ x, (encs x).size = ps.size) (hC : ∀ b, C b → b < w.heap.size)
  (I : List α → (Nat → Prop) → World → Prop) (Ix : Code → (Nat → Prop) → World → Prop)
  (hI : ∀ pre C1 W1 W2, I pre C1 W1 → Kept (fun b => w.heap.size ≤ b ∧ ¬ C1 b) W1 W2 → I pre C1 W2)
  (hIx : ∀ c C1 W1 W2, Ix c C1 W1 → Kept (fun b => w.heap.size ≤ b ∧ ¬ C1 b) W1 W2 → Ix c C1 W2)
  (h0 : I [] C w) (Ax : Nat → List α → α → (Nat → Prop) → Act → World → Prop)
  (hround : RoundsC P w.heap.size a ps assign body encs xs I Ix Ax)
  (hdone : ∀ D C' W, w.heap.size ≤ D → D < W.heap.size → ¬ C' D → I xs C' W → W.heap[D]? = some (.deferred (some [])) → Q .normal { a with defers := { target := .collected D, args := #[] } :: a.defers } W)
  (hstop : ∀ D c C' W, w.heap.size ≤ D → D < W.heap.size → ¬ C' D → Ix c C' W → W.heap[D]? = some (.deferred (some [])) → c.wp P Q { a with defers := { target := .collected D, args := #[] } :: a.defers } W) :
  (Code.rangeFunc g ps assign body).wp P Q a w := by
 refine (wpIn_wide (n := 0)).1 (wpIn_rangeFunc ?_)
 intro fn hfn
 obtain ⟨rec, hrec⟩ : ∃ rec : LoopState → Option Code → Loop, rec = fun st pe => { state := st, pending := pe, fn, tmps := a.tmps, params := ps, assign, body, defers := w.heap.size } := ⟨_, rfl⟩
 have hrec' : ∀ st pe, rec st pe = { state := st, pending := pe, fn, tmps := a.tmps, params := ps, assign, body, defers := (rec .ready none).defers } := by rw [hrec]; exact fun _ _ => rfl
 obtain ⟨W1, hW1⟩ : ∃ W1, (w.alloc (.deferred (some []))).alloc (.loop (rec .ready none)) = W1 := ⟨_, rfl⟩
 have hL1 : W1.heap[w.heap.size + 1]? = some (.loop (rec .ready none)) := by
  rw [← hW1]; have := World.alloc_heap_new (w.alloc (.deferred (some []))) (.loop (rec .ready none)); rwa [World.size_alloc] at this
 have hK1 : W1.heap[w.heap.size]? = some (.deferred (some [])) := by
  rw [← hW1]; exact (Below.heap_alloc _ _ _ (by simp)).trans (World.alloc_heap_new w _)
 have hz1 : W1.heap.size = w.heap.size + 2 := by rw [← hW1]; simp
 have hk1 : ∀ M, Kept M w W1 := fun M => by rw [← hW1]; exact ((Kept.refl _ _).alloc _).alloc _
 refine ⟨w.heap.size + 1, [{ target := .collected w.heap.size, args := #[] }], W1, { target := .fn (.func gf) lb, args := #[.func (.yield (w.heap.size + 1)) #[] #[]] }, W1, gf,
  #[.func (.yield (w.heap.size + 1)) #[] #[]] ++ lb, W1, ?_, ?_, fun _ _ => trivial, ?_, fun h => by simp [Fence.wide] at h, ?_⟩
 ·rw [← hW1, hrec]; exact run_enterLoop_outer _ _ _ _ _
 ·simp only [resolve, hg]
  simp [go_sem]
 ·simp [invoke, go_sem, eg]
 ·refine callsIn_wide.2 ((hseq (w.heap.size + 1)
   (fun pre C1 W => ∃ Cu, C1 = (fun b => Cu b ∨ b = w.heap.size ∨ b = w.heap.size + 1) ∧ ¬ Cu w.heap.size ∧ ¬ Cu (w.heap.size + 1) ∧ (∀ b, Cu b → b < W.heap.size) ∧ w.heap.size + 1 < W.heap.size ∧
    I pre Cu W ∧ W.heap[w.heap.size + 1]? = some (.loop (rec .ready none)) ∧ W.heap[w.heap.size]? = some (.deferred (some [])))
   (fun C1 W => ∃ Cu c, C1 = (fun b => Cu b ∨ b = w.heap.size ∨ b = w.heap.size + 1) ∧ ¬ Cu w.heap.size ∧ ¬ Cu (w.heap.size + 1) ∧ w.heap.size + 1 < W.heap.size ∧
    Ix c Cu W ∧ W.heap[w.heap.size + 1]? = some (.loop (rec .done (some c))) ∧ W.heap[w.heap.size]? = some (.deferred (some [])))
   (fun b => C b ∨ b = w.heap.size ∨ b = w.heap.size + 1) W1 ?_ ?_ ?_ ?_ ?_ ?_).mono ?_)
  ·intro b hb
   obtain ⟨h1, h2, h3⟩ := hS b hb
   refine ⟨by omega, ((hk1 (fun _ => False)).block b h1 (fun h => h)).trans h2, fun h => ?_⟩
   rcases h with h | h | h
   ·exact h3 h
   ·omega
   ·omega
  ·intro b hb
   rcases hb with h | h | h
   ·have := hC b h; omega
   ·omega
   ·omega
  ·rintro pre C1 Wa Wb ⟨Cu, rfl, h1, h2, h3, h4, h5, h6, h7⟩ hk
   have hk' : Kept (fun b => w.heap.size ≤ b ∧ ¬ Cu b) Wa Wb := hk.mono fun b _ hb => ⟨by omega, fun h => hb.2 (.inl h)⟩
   refine ⟨Cu, rfl, h1, h2, fun b hb => Nat.lt_of_lt_of_le (h3 b hb) hk.size, Nat.lt_of_lt_of_le h4 hk.size, hI _ _ _ _ h5 hk', (hk.block _ h4 ?_).trans h6, (hk.block _ (by omega) ?_).trans h7⟩
   ·intro h; exact h.2 (.inr (.inr rfl))
   ·intro h; exact h.2 (.inr (.inl rfl))
  ·rintro C1 Wa Wb ⟨Cu, c, rfl, h1, h2, h4, h5, h6, h7⟩ hk
   have hk' : Kept (fun b => w.heap.size ≤ b ∧ ¬ Cu b) Wa Wb := hk.mono fun b _ hb => ⟨by omega, fun h => hb.2 (.inl h)⟩
   refine ⟨Cu, c, rfl, h1, h2, Nat.lt_of_lt_of_le h4 hk.size, hIx _ _ _ _ h5 hk', (hk.block _ h4 ?_).trans h6, (hk.block _ (by omega) ?_).trans h7⟩
   ·intro h; exact h.2 (.inr (.inr rfl))
   ·intro h; exact h.2 (.inr (.inl rfl))
  ·rintro m pre x suf C1 Wa hxs ⟨Cu, rfl, h1, h2, h3, h4, h5, h6, h7⟩
   obtain ⟨r1, r2, r3⟩ := hround
   refine (round_yield hrec' hps I Ix hI hIx (by omega) m pre x Cu Wa h2 h6 (Ax (w.heap.size + 1) pre x Cu)
    (fun a' W2 W3 hx hl hk => r1 _ _ _ _ _ _ _ (by omega) h2 hx ⟨_, hl⟩ hk)
    (fun K hK => r2 _ m pre x suf Cu Wa K (by omega) h4 h2 hxs h5 h3 hK)
    (fun a' W2 hx hr hy => r3 _ m pre x suf Cu a' W2 (by omega) h2 hxs hx hr (fun b hb => by
     obtain ⟨Wy, k1, k2⟩ := hy
     exact Nat.lt_of_lt_of_le (h3 b hb) (Nat.le_trans k1.size k2.size)))).mono ?_
   rintro e W2 ⟨C2, st, pe, hk, hC2, hl, hcase⟩
   have hD : W2.heap[w.heap.size]? = some (.deferred (some [])) := (hk.block _ (by omega) (fun h => by
    rcases h with h | h
    ·exact h1 h
    ·omega)).trans h7
   have n1 : ¬ C2 w.heap.size := fun h => by
    rcases (hC2 _ h).2 with h | h
    ·exact h1 h
    ·omega
   have n2 : ¬ C2 (w.heap.size + 1) := fun h => by
    rcases (hC2 _ h).2 with h | h
    ·exact h2 h
    ·omega
   refine ⟨fun b => C2 b ∨ b = w.heap.size ∨ b = w.heap.size + 1, hk.mono (fun b _ h => by
    rcases h with h | h
    ·exact .inl h
    ·exact .inr (.inr h)), fun b hb => ?_, ?_⟩
   ·rcases hb with h | h | h
    ·refine ⟨(hC2 b h).1, ?_⟩
     rcases (hC2 b h).2 with h | h
     ·exact .inl (.inl h)
     ·exact .inr h
    ·exact ⟨by have := hk.size; omega, .inl (.inr (.inl h))⟩
    ·exact ⟨by have := hk.size; omega, .inl (.inr (.inr h))⟩
   ·rcases hcase with ⟨rfl, rfl, rfl, hi⟩ | ⟨rfl, rfl, c, rfl, hi⟩
    ·exact .inl ⟨rfl, C2, rfl, n1, n2, fun b hb => (hC2 b hb).1, by have := hk.size; omega, hi, hl, hD⟩
    ·exact .inr ⟨rfl, C2, c, rfl, n1, n2, by have := hk.size; omega, hi, hl, hD⟩
  ·refine ⟨C, rfl, fun h => ?_, fun h => ?_, fun b hb => by have := hC b hb; omega, by omega, hI _ _ _ _ h0 (hk1 _), hL1, hK1⟩
   ·have := hC _ h; omega
   ·have := hC _ h; omega
  ·rintro e W2 ⟨⟨v, rfl⟩, C', (⟨Cu, rfl, h1, h2, h3, h4, h5, h6, h7⟩ | ⟨Cu, c, rfl, h1, h2, h4, h5, h6, h7⟩)⟩
   ·have hk : Kept (fun b => w.heap.size ≤ b ∧ ¬ Cu b) W2 (W2.putObj (w.heap.size + 1) (.loop { rec .ready none with state := .exhausted })) := (Kept.refl _ _).putObj (.inl ⟨by omega, h2⟩) _
    exact ⟨none, _, by have := run_endLoop (P := P) h6 (by rw [hrec]; simp); rw [hrec] at this ⊢; exact this, hdone _ Cu _ (Nat.le_refl _) (by simp; omega) h1 (hI _ _ _ _ h5 hk) ((World.putObj_heap_other (by omega)).trans h7)⟩
   ·have hk : Kept (fun b => w.heap.size ≤ b ∧ ¬ Cu b) W2 (W2.putObj (w.heap.size + 1) (.loop { rec .done (some c) with state := .exhausted })) := (Kept.refl _ _).putObj (.inl ⟨by omega, h2⟩) _
    exact ⟨some c, _, by have := run_endLoop (P := P) h6 (by rw [hrec]; simp); rw [hrec] at this ⊢; exact this, wpIn_wide.2 (hstop _ c Cu _ (Nat.le_refl _) (by simp; omega) h1 (hIx _ _ _ _ h5 hk) ((World.putObj_heap_other (by omega)).trans h7))⟩
def roundM {α : Type} (M : Nat → Prop) (I : List α → World → Prop) (Ix : Code → World → Prop) (pre : List α) (W : World) : Exit → Act → World → Prop
 | .normal, _, W' => Kept M W W' ∧ I pre W'
 | .ret, _, W' => Kept M W W' ∧ Ix .ret W'
 | .exit id, _, W' => Kept M W W' ∧ Ix (.exit id) W'
 | .goto t, _, W' => Kept M W W' ∧ Ix (.goto t) W'
 | _, _, _ => False
theorem wp_rangeM {g : Operand} {ps : Array Tmp} {assign body : Code} {Q : Exit → Act → World → Prop} {a : Act} {w : World} {gf : Nat} {lb : Array Value}
  (hg : a.eval g = .func (.func gf) #[] lb) (eg : ∀ args w, (callFunc gf args).run P w = .ok (.enter gf args) w)
  {encs : α → Array Value} {xs : List α} {S : Nat → Prop} {w0 : World} (hseq : SeqC P gf lb encs xs S w0) (M : Nat → Prop)
  (hS : ∀ b, S b → b < w.heap.size ∧ w.heap[b]? = w0.heap[b]? ∧ ¬ M b) (hps : ∀ x, (encs x).size = ps.size) (hM : ∀ b, M b → b < w.heap.size)
  (I : List α → World → Prop) (Ix : Code → World → Prop)
  (hI : ∀ pre W1 W2, I pre W1 → Kept (fun b => w.heap.size ≤ b) W1 W2 → I pre W2)
  (hIx : ∀ c W1 W2, Ix c W1 → Kept (fun b => w.heap.size ≤ b) W1 W2 → Ix c W2)
  (h0 : I [] w) (Ax : Nat → List α → α → Act → World → Prop)
  (hAx : ∀ l pre x a' W2 W3, w.heap.size ≤ l → Ax l pre x a' W2 → (∃ r, W2.heap[l]? = some (.loop r)) → Kept (fun b => b = l) W2 W3 → Ax l pre x a' W3)
  (hassign : ∀ l m pre x suf W1 (K : Act → World → Prop), w.heap.size ≤ l → l < W1.heap.size → xs = pre ++ x :: suf → I pre W1 → (∀ a' W2, Kept M W1 W2 → Ax l pre x a' W2 → K a' W2) →
   assign.wpIn (Fence.wide.inRound l) m P (Exit.then K (fun _ _ _ => False)) { tmps := (ps.zip (encs x)).foldl (fun t (p, v) => t.setIfInBounds p v) a.tmps, defers := [] } W1)
  (hbody : ∀ l m pre x suf a' W2, w.heap.size ≤ l → xs = pre ++ x :: suf → Ax l pre x a' W2 → (∃ r, W2.heap[l]? = some (.loop r)) → body.wpIn (Fence.wide.inRound l) m P (roundM M I Ix (pre ++ [x]) W2) a' W2)
  (hdone : ∀ D W, w.heap.size ≤ D → D < W.heap.size → I xs W → W.heap[D]? = some (.deferred (some [])) → Q .normal { a with defers := { target := .collected D, args := #[] } :: a.defers } W)
  (hstop : ∀ D c W, w.heap.size ≤ D → D < W.heap.size → Ix c W → W.heap[D]? = some (.deferred (some [])) → c.wp P Q { a with defers := { target := .collected D, args := #[] } :: a.defers } W) :
  (Code.rangeFunc g ps assign body).wp P Q a w := by
 have hKM : ∀ {W1 W2 : World}, Kept (fun b => w.heap.size ≤ b ∧ ¬ M b) W1 W2 → Kept (fun b => w.heap.size ≤ b) W1 W2 := fun h => h.mono fun _ _ hb => hb.1
 refine wp_rangeC hg eg hseq M hS hps hM (fun pre C W => C = M ∧ I pre W) (fun c C W => C = M ∧ Ix c W) ?_ ?_ ⟨rfl, h0⟩ (fun l pre x C a' W => C = M ∧ Ax l pre x a' W) ⟨?_, ?_, ?_⟩ ?_ ?_
 ·rintro pre C1 W1 W2 ⟨rfl, hi⟩ hk; exact ⟨rfl, hI _ _ _ hi (hKM hk)⟩
 ·rintro c C1 W1 W2 ⟨rfl, hi⟩ hk; exact ⟨rfl, hIx _ _ _ hi (hKM hk)⟩
 ·rintro l pre x C1 a' W2 W3 hl _ ⟨rfl, hx⟩ hr hk; exact ⟨rfl, hAx _ _ _ _ _ _ hl hx hr hk⟩
 ·rintro l m pre x suf C1 W1 K hl hlt _ hxs ⟨rfl, hi⟩ _ hK
  exact hassign l m pre x suf W1 K hl hlt hxs hi fun a' W2 hk hx => hK a' W2 hk ⟨rfl, hx⟩
 ·rintro l m pre x suf C1 a' W2 hl _ hxs ⟨rfl, hx⟩ hr hC
  refine wpIn_mono (hbody l m pre x suf a' W2 hl hxs hx hr) ?_
  rintro e a3 W3 hp
  cases e with
  | normal => exact ⟨C1, hp.1, fun b hb => ⟨Nat.lt_of_lt_of_le (hC b hb) hp.1.size, .inl hb⟩, rfl, hp.2⟩
  | ret => exact ⟨C1, hp.1, fun b hb => ⟨Nat.lt_of_lt_of_le (hC b hb) hp.1.size, .inl hb⟩, rfl, hp.2⟩
  | exit id => exact ⟨C1, hp.1, fun b hb => ⟨Nat.lt_of_lt_of_le (hC b hb) hp.1.size, .inl hb⟩, rfl, hp.2⟩
  | goto t => exact ⟨C1, hp.1, fun b hb => ⟨Nat.lt_of_lt_of_le (hC b hb) hp.1.size, .inl hb⟩, rfl, hp.2⟩
  | panic ch => exact hp.elim
  | outgrown => exact hp.elim
 ·rintro D C' W hD hlt _ ⟨_, hi⟩ hk; exact hdone D W hD hlt hi hk
 ·rintro D c C' W hD hlt _ ⟨_, hi⟩ hk; exact hstop D c W hD hlt hi hk
end law
end
section
open Go.RowKit
theorem ret_bool {a b : Bool} (h : a = b) : Ending.returned (.bool a) = .returned (.bool b) := by rw [h]
theorem ret_int {k : IntKind} {a b : Int} (h : a = b) : Ending.returned (.int k a) = .returned (.int k b) := by rw [h]
theorem take_snoc {α : Type} {l : List α} {j : Nat} {x : α} (h : l[j]? = some x) : l.take (j + 1) = l.take j ++ [x] := by
 rw [List.take_add_one, h]; rfl
theorem drop_cons {α : Type} {l : List α} {j : Nat} {x : α} (h : l[j]? = some x) : l.drop j = x :: l.drop (j + 1) := by
 obtain ⟨hlt, he⟩ := List.getElem?_eq_some_iff.1 h
 rw [List.drop_eq_getElem_cons hlt, he]
theorem split_at {α : Type} {l : List α} {j : Nat} {x : α} (h : l[j]? = some x) : l = l.take j ++ x :: l.drop (j + 1) := by
 rw [← drop_cons h, List.take_append_drop]
theorem addr_add (b off : Nat) (i : Nat) : (⟨b, off, none⟩ : Addr).add i = ⟨b, off + i, none⟩ := by
 unfold Addr.add; split
 ·rename_i h; subst h; rfl
 ·rfl
theorem q_step {P : Program} {ops : Array Oper} {C : World → Prop} {Q : Act → Prop} {a : Act} {o : Oper} {rest : List Oper} (hw : Region.wanted o (yielded ops a.tmps) = true)
  (h : ∃ v, (∀ w, C w → o.quietAt P a C w v) ∧ wpQuiet P ops C Q rest (a.put o.dst v)) : wpQuiet P ops C Q (o :: rest) a := by
 unfold wpQuiet
 rw [if_pos hw]
 exact h
theorem wp_region_below {P : Program} {id : Nat} {Q : Exit → Act → World → Prop} {a : Act} {w : World} {l : List Oper} (n : Nat) (hm : P.follows .mixedOrders = true) (hB : Region.lexB .any l.toArray = true)
  (h : wpQuiet P l.toArray (Below n w) (fun a' => ∀ w', Below n w w' → Q .normal a' w') l a) : (Code.region id l.toArray true).wp P Q a w :=
 wp_region_quiet (C := Below n w) hm hB ⟨rfl, rfl, rfl, Nat.le_refl _, fun _ _ => rfl⟩ (by simpa using h)
theorem calls_below {P : Program} {f : FuncId} {args : Array Value} {n : Nat} {w0 w : World} {v : Value} (hb : Below n w0 w) (hn : n ≤ w0.heap.size) (h : Calls P f args w fun e w' => e = .returned v ∧ Below w.heap.size w w') :
  Calls P f args w fun e w' => e = .returned v ∧ Below n w0 w' := h.mono fun _ _ ⟨he, hb'⟩ => ⟨he, hb.trans (hb'.mono (Nat.le_trans hn hb.size))⟩
abbrev Rep (α : Type) := World → Nat → α → List Value → Prop
def Rep.flat {α : Type} (enc : α → List Value) : Rep α := fun _ _ x cs => cs = enc x
def Rep.Stable {α : Type} (r : Rep α) : Prop := ∀ W W' n n' x cs, r W n x cs → n ≤ n' → (∀ b, b < n → W'.heap[b]? = W.heap[b]?) → r W' n' x cs
theorem Rep.flat_stable {α : Type} (enc : α → List Value) : (Rep.flat enc).Stable := fun _ _ _ _ _ _ h _ _ => h
def Rows {α : Type} (k : Nat) (r : Rep α) (W : World) (n₀ : Nat) (A : Option Addr) (n c : Nat) (l : List α) : Prop :=
 n = l.length ∧ n ≤ c ∧ c ≤ 9223372036854775807 ∧ (0 < n → ∃ b off, A = some ⟨b, off, none⟩ ∧ b < n₀ ∧ ∀ i x, l[i]? = some x → ∃ cs, r W n₀ x cs ∧ ∀ j u, cs[j]? = some u → W.cell? ⟨b, off + i * k + j, none⟩ = some u)
namespace Rows
variable {α : Type} {k : Nat} {r : Rep α} {W W' : World} {n₀ n₁ : Nat} {A : Option Addr} {n c : Nat} {l : List α}
theorem keep (hr : r.Stable) (h : Rows k r W n₀ A n c l) (hn : n₀ ≤ n₁) (hb : ∀ b, b < n₀ → W'.heap[b]? = W.heap[b]?) : Rows k r W' n₁ A n c l := by
 refine ⟨h.1, h.2.1, h.2.2.1, fun hn' => ?_⟩
 obtain ⟨b, off, e, hlt, hx⟩ := h.2.2.2 hn'
 refine ⟨b, off, e, by omega, fun i x hi => ?_⟩
 obtain ⟨cs, h1, h2⟩ := hx i x hi
 exact ⟨cs, hr _ _ _ _ _ _ h1 hn hb, fun j u hj => (World.cell?_of_block (w := W) (w' := W') (a := ⟨b, _, none⟩) (hb b hlt)).trans (h2 j u hj)⟩
theorem below (hr : r.Stable) (h : Rows k r W n₀ A n c l) (hb : Below n₀ W W') : Rows k r W' n₀ A n c l := h.keep hr (Nat.le_refl _) hb.block
theorem nil (hc : c ≤ 9223372036854775807) : Rows k r W n₀ A 0 c ([] : List α) := ⟨rfl, by omega, hc, fun h => by omega⟩
theorem get (h : Rows k r W n₀ A n c l) {i : Nat} (hi : i < n) : ∃ b off x cs, A = some ⟨b, off, none⟩ ∧ b < n₀ ∧ l[i]? = some x ∧ r W n₀ x cs ∧ ∀ j u, cs[j]? = some u → W.cell? ⟨b, off + i * k + j, none⟩ = some u := by
 obtain ⟨b, off, e, hlt, hx⟩ := h.2.2.2 (by omega)
 have hi' : i < l.length := by rw [← h.1]; exact hi
 obtain ⟨cs, h1, h2⟩ := hx i _ (List.getElem?_eq_getElem hi')
 exact ⟨b, off, _, cs, e, hlt, List.getElem?_eq_getElem hi', h1, h2⟩
end Rows
def cutA (A : Option Addr) (cap k s : Nat) : Option Addr := if cap = k then A else A.map (·.add (k * s))
section
variable {P : Program} {t e : TypeId} {i : TypeInfo} (w : World)
theorem run_cut_low (ht : P.underlying t = some (.slice e)) (hi : P.info? e = some i) (A : Option Addr) (len cap k : Nat) (kd : IntKind) (lo : Int) (hlo : lo = (k : Int)) (hk : k ≤ len) :
  (Instr.slice t (.slice A len cap) (some (.int kd lo)) none none).run P w = .ok (.slice (cutA A cap k i.size) (len - k) (cap - k)) w := by
 subst hlo
 have h1 : (k : Int) ≤ (len : Int) := by omega
 simp [Instr.slice, run_underlying ht, Instr.sliceBounds, run_sliceBound, h1, sizeOf, typeInfo, hi, cutA]
end
theorem Rows.cut {α : Type} {k : Nat} {r : Rep α} {W : World} {n₀ : Nat} {A : Option Addr} {n c m : Nat} {l : List α} (h : Rows k r W n₀ A n c l) (hm : m ≤ n) : Rows k r W n₀ (cutA A c m k) (n - m) (c - m) (l.drop m) := by
 refine ⟨by simp [h.1], by have := h.2.1; omega, by have := h.2.2.1; omega, fun hn => ?_⟩
 obtain ⟨b, off, e, hlt, hx⟩ := h.2.2.2 (by omega)
 have := h.2.1
 refine ⟨b, off + m * k, by rw [cutA, if_neg (by omega), e, Option.map_some, addr_add], hlt, fun i x hi => ?_⟩
 obtain ⟨cs, h1, h2⟩ := hx (m + i) x (by simpa [List.getElem?_drop] using hi)
 refine ⟨cs, h1, fun j u hj => ?_⟩
 have := h2 j u hj
 have e1 : off + (m + i) * k + j = off + m * k + i * k + j := by rw [Nat.add_mul]; omega
 rw [e1] at this
 exact this
theorem Rows.take {α : Type} {k : Nat} {r : Rep α} {W : World} {n₀ : Nat} {A : Option Addr} {n c m : Nat} {l : List α} (h : Rows k r W n₀ A n c l) (hm : m ≤ n) : Rows k r W n₀ A m c (l.take m) := by
 refine ⟨by rw [List.length_take, ← h.1]; omega, by have := h.2.1; omega, h.2.2.1, fun hn => ?_⟩
 obtain ⟨b, off, e, hlt, hx⟩ := h.2.2.2 (by omega)
 refine ⟨b, off, e, hlt, fun i x hi => hx i x ?_⟩
 rw [List.getElem?_take] at hi
 split at hi
 ·exact hi
 ·cases hi
end
section
open Go.RowKit
structure Ky where
 (kind subj obj : Int)
structure Fc where
 (key : Ky)
 (val fr to known no : Int)
theorem Ky.ext' {a b : Ky} (h1 : a.kind = b.kind) (h2 : a.subj = b.subj) (h3 : a.obj = b.obj) : a = b := by
 cases a; cases b; simp_all
theorem Fc.ext' {a b : Fc} (h0 : a.key = b.key) (h1 : a.val = b.val) (h2 : a.fr = b.fr) (h3 : a.to = b.to) (h4 : a.known = b.known) (h5 : a.no = b.no) : a = b := by
 cases a; cases b; simp_all
instance : DecidableEq Ky := fun a b => decidable_of_iff (a.kind = b.kind ∧ a.subj = b.subj ∧ a.obj = b.obj) ⟨fun ⟨h1, h2, h3⟩ => Ky.ext' h1 h2 h3, fun h => by subst h; exact ⟨rfl, rfl, rfl⟩⟩
instance : DecidableEq Fc := fun a b => decidable_of_iff (a.key = b.key ∧ a.val = b.val ∧ a.fr = b.fr ∧ a.to = b.to ∧ a.known = b.known ∧ a.no = b.no) ⟨fun ⟨h0, h1, h2, h3, h4, h5⟩ => Fc.ext' h0 h1 h2 h3 h4 h5, fun h => by subst h; exact ⟨rfl, rfl, rfl, rfl, rfl, rfl⟩⟩
instance : Inhabited Ky := ⟨⟨0, 0, 0⟩⟩
instance : Inhabited Fc := ⟨⟨⟨0, 0, 0⟩, 0, 0, 0, 0, 0⟩⟩
def fEnc (f : Fc) : List Value := [.int .i64 f.key.kind, .int .i64 f.key.subj, .int .i64 f.key.obj, .int .i64 f.val, .int .i64 f.fr, .int .i64 f.to, .int .i64 f.known, .int .i64 f.no]
theorem fEnc_len (x : Fc) : (fEnc x).length = 8 := rfl
theorem fEnc_one (x : Fc) : ∀ u ∈ fEnc x, u.oneCell' = true := by
 intro u hu; simp [fEnc] at hu; rcases hu with rfl | rfl | rfl | rfl | rfl | rfl | rfl | rfl <;> rfl
def Fc.ok (f : Fc) : Bool := decide (1 ≤ f.key.kind) && decide (f.key.kind ≤ 12) && decide (0 ≤ f.key.subj) && decide (f.key.subj ≤ 20000) && decide (0 ≤ f.key.obj) && decide (f.key.obj ≤ 20000) && decide (-1 ≤ f.val) && decide (f.val ≤ 1099511627776) && decide (0 ≤ f.fr) && decide (f.fr < f.to) && decide (f.to ≤ 1024) && decide (1 ≤ f.known) && decide (f.known ≤ 16777216) && decide (0 ≤ f.no) && decide (f.no ≤ 65535)
def Fc.bef (a b : Fc) : Bool := decide (a.known < b.known) || (decide (a.known = b.known) && decide (a.no < b.no))
def cmpI (x y : Int) : Int := if x < y then -1 else if y < x then 1 else 0
def orI (l : List Int) : Int := (l.find? fun x => decide (x ≠ 0)).getD 0
def cmpF (a b : Fc) : Int := orI [cmpI a.known b.known, cmpI a.no b.no]
def Ky.lt (a b : Ky) : Bool := decide (a.kind < b.kind) || (decide (a.kind = b.kind) && (decide (a.subj < b.subj) || (decide (a.subj = b.subj) && decide (a.obj < b.obj))))
theorem cmpI_cases (x y : Int) : (x < y ∧ cmpI x y = -1) ∨ (x = y ∧ cmpI x y = 0) ∨ (y < x ∧ cmpI x y = 1) := by
 unfold cmpI
 rcases Int.lt_trichotomy x y with h | h | h
 ·left; simp [h]
 ·right; left; subst h; simp
 ·right; right; have : ¬ x < y := by omega
  simp [h, this]
theorem orI_cons (x : Int) (l : List Int) : orI (x :: l) = if x = 0 then orI l else x := by
 unfold orI; by_cases h : x = 0 <;> simp [h]
theorem orI_nil : orI [] = 0 := rfl
theorem cmpF_lt (a b : Fc) : cmpF a b < 0 ↔ a.bef b = true := by
 unfold cmpF Fc.bef
 rw [orI_cons, orI_cons, orI_nil]
 rcases cmpI_cases a.known b.known with ⟨h1, e1⟩ | ⟨h1, e1⟩ | ⟨h1, e1⟩ <;> rcases cmpI_cases a.no b.no with ⟨h2, e2⟩ | ⟨h2, e2⟩ | ⟨h2, e2⟩ <;> simp [e1, e2] <;> omega
theorem cmpF_ge (a b : Fc) : (decide (0 ≤ cmpF a b)) = !a.bef b := by
 have := cmpF_lt a b
 cases h : a.bef b
 ·simp; rw [h] at this; simp at this; omega
 ·simp; rw [h] at this; simp at this; omega
def sortedB : List Fc → Bool
 | [] => true
 | [_] => true
 | a :: b :: l => a.bef b && sortedB (b :: l)
def checkF (l : List Fc) : Int := if l.all Fc.ok = true then (if sortedB l = true then 0 else 71) else 70
def ofF (l : List Fc) (k : Ky) (known : Int) : List Fc := l.filter fun f => decide (f.key = k) && decide (f.known ≤ known)
def Fc.at (f : Fc) (t : Int) : Bool := decide (f.fr ≤ t) && decide (t < f.to)
def better (t : Int) (b : Option Fc) (f : Fc) : Option Fc := if f.at t = true then (match b with | none => some f | some x => if f.bef x = true then b else some f) else b
def bestF (l : List Fc) (t : Int) : Option Fc := l.foldl (better t) none
theorem bestF_snoc (l : List Fc) (f : Fc) (t : Int) : bestF (l ++ [f]) t = better t (bestF l t) f := by simp [bestF]
def atF (l : List Fc) (k : Ky) (t known : Int) : Option Int := match bestF (ofF l k known) t with | none => none | some f => if f.val < 0 then none else some f.val
end
section
section ord
variable {α : Type} (lt : α → α → Bool)
structure Lin : Prop where
 irr : ∀ a, lt a a = false
 tr : ∀ a b c, lt a b = true → lt b c = true → lt a c = true
 tri : ∀ a b, lt a b = true ∨ a = b ∨ lt b a = true
variable {lt} in
theorem Lin.asymm (h : Lin lt) {a b : α} (h1 : lt a b = true) : lt b a = false := by
 rcases hb : lt b a with _ | _
 ·rfl
 ·have := h.tr _ _ _ h1 hb
  rw [h.irr] at this; cases this
variable [DecidableEq α]
def ins (x : α) : List α → List α
 | [] => [x]
 | y :: l => if lt y x = true then y :: ins x l else if y = x then y :: l else x :: y :: l
def Str (l : List α) : Prop := l.Pairwise fun x y => lt x y = true
def ordOf (l : List α) : List α := l.foldl (fun s x => ins lt x s) []
variable {lt}
theorem ins_mem (k : α) : ∀ (ks : List α) (x : α), x ∈ ins lt k ks ↔ x = k ∨ x ∈ ks
  | [], x => by simp [ins]
  | y :: l, x => by
    unfold ins
    split
    · rw [List.mem_cons, ins_mem k l x, List.mem_cons]
      constructor
      · rintro (h | h | h)
        · exact .inr (.inl h)
        · exact .inl h
        · exact .inr (.inr h)
      · rintro (h | h | h)
        · exact .inr (.inl h)
        · exact .inl h
        · exact .inr (.inr h)
    · split
      · rename_i _ h
        subst h
        simp
      · simp
theorem ins_str (hl : Lin lt) (k : α) : ∀ (ks : List α), Str lt ks → Str lt (ins lt k ks)
  | [], _ => by simp [ins, Str]
  | y :: l, h => by
    obtain ⟨h1, h2⟩ := List.pairwise_cons.1 h
    unfold ins
    split
    · rename_i hyk
      refine List.pairwise_cons.2 ⟨fun z hz => ?_, ins_str hl k l h2⟩
      rcases (ins_mem k l z).1 hz with rfl | hz
      · exact hyk
      · exact h1 z hz
    · rename_i hyk
      split
      · exact h
      · rename_i hne
        have hky : lt k y = true := by
          rcases hl.tri k y with h' | h' | h'
          · exact h'
          · exact absurd h'.symm hne
          · exact absurd h' hyk
        refine List.pairwise_cons.2 ⟨fun z hz => ?_, h⟩
        rcases List.mem_cons.1 hz with rfl | hz
        · exact hky
        · exact hl.tr _ _ _ hky (h1 z hz)
theorem ins_at (x : α) : ∀ (l : List α) (k : Nat), (∀ j y, j < k → l[j]? = some y → lt y x = true) → (∀ y, l[k]? = some y → lt y x = false) → k ≤ l.length →
    ins lt x l = if l[k]? = some x then l else l.take k ++ x :: l.drop k
  | [], k, _, _, hk => by
    obtain rfl : k = 0 := by simpa using hk
    simp [ins]
  | y :: l, 0, _, h2, _ => by
    have := h2 y rfl
    unfold ins
    rw [this]
    by_cases h : y = x <;> simp [h]
  | y :: l, k + 1, h1, h2, hk => by
    have h := h1 0 y (by omega) rfl
    unfold ins
    rw [if_pos h, ins_at x l k (fun j z hj hz => h1 (j + 1) z (by omega) (by simpa using hz)) (fun z hz => h2 z (by simpa using hz)) (by simpa using hk)]
    simp only [List.getElem?_cons_succ]
    split <;> simp
theorem ordOf_mem (l : List α) (x : α) : x ∈ ordOf lt l ↔ x ∈ l := by
  have : ∀ (l a : List α), x ∈ l.foldl (fun s y => ins lt y s) a ↔ x ∈ a ∨ x ∈ l := by
    intro l
    induction l with
    | nil => simp
    | cons y l ih =>
      intro a
      simp only [List.foldl_cons, ih, ins_mem, List.mem_cons]
      constructor
      · rintro ((h | h) | h)
        · exact .inr (.inl h)
        · exact .inl h
        · exact .inr (.inr h)
      · rintro (h | h | h)
        · exact .inl (.inr h)
        · exact .inl (.inl h)
        · exact .inr h
  simpa [ordOf] using this l []
theorem ordOf_str (hl : Lin lt) (l : List α) : Str lt (ordOf lt l) := by
 have : ∀ (l a : List α), Str lt a → Str lt (l.foldl (fun s y => ins lt y s) a) := by
  intro l
  induction l with
  | nil => intro a h; exact h
  | cons y l ih => intro a h; exact ih _ (ins_str hl _ _ h)
 exact this l [] List.Pairwise.nil
theorem ins_len (k : α) : ∀ l : List α, (ins lt k l).length ≤ l.length + 1
  | [] => by simp [ins]
  | y :: l => by
    have := ins_len k l
    unfold ins
    split
    · simp; omega
    · split <;> simp
omit [DecidableEq α] in
theorem str_ext (hl : Lin lt) {a b : List α} (ha : Str lt a) (hb : Str lt b) (hm : ∀ x, x ∈ a ↔ x ∈ b) : a = b := by
 have na : a.Nodup := ha.imp fun {x y} h => by rintro rfl; rw [hl.irr] at h; cases h
 have nb : b.Nodup := hb.imp fun {x y} h => by rintro rfl; rw [hl.irr] at h; cases h
 refine List.Perm.eq_of_pairwise (le := fun x y => lt x y = true) (fun x y _ _ h1 h2 => ?_) ha hb ((List.perm_ext_iff_of_nodup na nb).2 hm)
 rw [hl.asymm h1] at h2; cases h2
end ord
section ord2
variable {α : Type}
end ord2
theorem linI : Lin (fun a b : Int => decide (a < b)) := ⟨fun a => by simp, fun a b c h1 h2 => by simp at *; omega, fun a b => by simp; omega⟩
end
section
open Go.RowKit
section
variable {α : Type} {enc : α → List Value} {k : Nat}
theorem flat_len (hk : ∀ x, (enc x).length = k) (l : List α) : (l.flatMap enc).length = l.length * k := by
 induction l with
 | nil => simp
 | cons x l ih => simp [ih, hk, Nat.add_mul, Nat.add_comm]
theorem flat_get (hk : ∀ x, (enc x).length = k) : ∀ (l : List α) (i : Nat) (x : α), l[i]? = some x → ∀ (j : Nat) (u : Value), (enc x)[j]? = some u → (l.flatMap enc)[i * k + j]? = some u
  | [], i, x, h => by simp at h
  | y :: l, 0, x, h => by
    intro j u hj
    simp at h
    subst h
    have : j < (enc y).length := (List.getElem?_eq_some_iff.1 hj).1
    simp [List.flatMap_cons, List.getElem?_append_left this, hj]
  | y :: l, i + 1, x, h => by
    intro j u hj
    have := flat_get hk l i x (by simpa using h) j u hj
    rw [List.flatMap_cons, List.getElem?_append_right (by rw [hk, Nat.add_mul]; omega), hk]
    have e : (i + 1) * k + j - k = i * k + j := by rw [Nat.add_mul]; omega
    rw [e, this]
theorem flat_at (hk : ∀ x, (enc x).length = k) (h0 : 0 < k) (l : List α) (q : Nat) (u : Value) (h : (l.flatMap enc)[q]? = some u) : ∃ x, l[q / k]? = some x ∧ (enc x)[q % k]? = some u := by
 have hq : q < l.length * k := by rw [← flat_len hk]; exact (List.getElem?_eq_some_iff.1 h).1
 have hi : q / k < l.length := Nat.div_lt_of_lt_mul (by rw [Nat.mul_comm]; exact hq)
 have hx : l[q / k]? = some l[q / k] := List.getElem?_eq_getElem hi
 have hm : q % k < (enc l[q / k]).length := by rw [hk]; exact Nat.mod_lt _ h0
 have hu := flat_get hk l (q / k) _ hx (q % k) _ (List.getElem?_eq_getElem hm)
 have e : q / k * k + q % k = q := Nat.div_add_mod' q k
 rw [e, h] at hu
 injection hu with hu
 exact ⟨_, hx, by rw [hu, List.getElem?_eq_getElem hm]⟩
variable {w w' : World} {base : Nat} {e : TypeId} {v : Value} {n : Nat} {l : List α}
theorem own_rows (hk : ∀ x, (enc x).length = k) (h0 : 0 < k) (h : w.ownsRow base e k v n (l.flatMap enc)) : ∃ A c, v = .slice A n c ∧ Rows k (Rep.flat enc) w w.heap.size A n c l := by
 obtain ⟨hl, hv⟩ := h
 rw [flat_len hk] at hl
 have hn : n = l.length := (Nat.eq_of_mul_eq_mul_right h0 hl).symm
 rcases hv with ⟨rfl, rfl⟩ | ⟨g, cap, cur, rfl, hg, hh, hnc, hcm, hsz, htake⟩
 ·exact ⟨none, 0, rfl, hn, Nat.le_refl _, by omega, fun h => by omega⟩
 ·have hgl := lt_of_heap hh
  refine ⟨some ⟨g, 0, none⟩, cap, rfl, hn, hnc, by unfold maxLen at hcm; omega, fun _ => ⟨g, 0, rfl, hgl, fun i x hi => ⟨enc x, rfl, fun j u hj => ?_⟩⟩⟩
  have := flat_get hk l i x hi j u hj
  rw [← htake, List.getElem?_take] at this
  split at this
  ·rw [cell_of_heap hh]
   simpa using this
  ·cases this
theorem rows_of_heap {g : Nat} {cs : Array Value} {t : TypeId} {fr : Nat × Nat} (hk : ∀ x, (enc x).length = k) (hh : w.heap[g]? = some (.cells cs t fr)) {c : Nat} (hc : l.length ≤ c) (hc' : c ≤ 9223372036854775807) (ht : cs.toList.take (l.length * k) = l.flatMap enc) :
  Rows k (Rep.flat enc) w w.heap.size (some ⟨g, 0, none⟩) l.length c l := by
 have hgl := lt_of_heap hh
 refine ⟨rfl, hc, hc', fun _ => ⟨g, 0, rfl, hgl, fun i x hi => ⟨enc x, rfl, fun j u hj => ?_⟩⟩⟩
 have := flat_get hk l i x hi j u hj
 rw [← ht, List.getElem?_take] at this
 split at this
 ·rw [cell_of_heap hh]
  simpa using this
 ·cases this
theorem own_len (hk : ∀ x, (enc x).length = k) (h0 : 0 < k) (h : w.ownsRow base e k v n (l.flatMap enc)) : n = l.length := by
 have hl := h.1
 rw [flat_len hk] at hl
 exact (Nat.eq_of_mul_eq_mul_right h0 hl).symm
theorem run_append_one {P : Program} {t ty : TypeId} {i : TypeInfo} {z : Value} {bytes : Nat} (ht : P.underlying t = some (.slice e)) (hi : P.info? e = some i) (hz : i.zero = some z) (hsize : i.size = k) (hby : i.bytes = bytes) (hzs : z.cells.size = k)
  (hk : ∀ x, (enc x).length = k) (h0 : 0 < k) (h1 : ∀ x, ∀ u ∈ enc x, u.oneCell' = true) (hown : w.ownsRow base e k v n (l.flatMap enc)) (x : α) (hn : (n + 1) * bytes ≤ 140737488355328) (hnm : n + 1 ≤ 9223372036854775807) (hb : base ≤ w.heap.size) :
  ∃ v' w', (Builtin.append_ #[t, t] ty #[v, .slice (some ⟨w.heap.size, 0, none⟩) 1 1]).run P (w.alloc (.cells (enc x).toArray e)) = .ok v' w' ∧ w'.ownsRow base e k v' (n + 1) ((l ++ [x]).flatMap enc) ∧
   (w.alloc (.cells (enc x).toArray e)).grownBy w' v.ownBlock ∧ (v'.ownBlock = v.ownBlock ∨ v'.ownBlock = some (w.heap.size + 1)) := by
 have hnew := World.alloc_heap_new w (.cells (enc x).toArray e)
 obtain ⟨v', w', hrun, h2, h3, _, h5⟩ := run_append_own_at (P := P) (w.alloc (.cells (enc x).toArray e)) base t ty e i z k bytes ht hi hz hsize hby hzs h0 v n (l.flatMap enc) (hown.alloc _) ⟨w.heap.size, 0, none⟩ 1 1 (enc x)
  (by rw [hk]; omega) (fun j u hj => by rw [addr_add, Nat.zero_add, cell_of_heap hnew]; simpa using hj) (h1 x) (by unfold maxLen; omega) hn (by simp; omega)
 exact ⟨v', w', hrun, by rw [List.flatMap_append]; simpa using h2, h3, by simpa using h5⟩
theorem run_append_rows {P : Program} {t ty : TypeId} {i : TypeInfo} {z : Value} {bytes n₀ m c : Nat} {A : Option Addr} {s : List α} (ht : P.underlying t = some (.slice e)) (hi : P.info? e = some i) (hz : i.zero = some z) (hsize : i.size = k) (hby : i.bytes = bytes) (hzs : z.cells.size = k)
  (hk : ∀ x, (enc x).length = k) (h0 : 0 < k) (h1 : ∀ x, ∀ u ∈ enc x, u.oneCell' = true) (hown : w.ownsRow base e k v n (l.flatMap enc)) (hs : Rows k (Rep.flat enc) w n₀ A m c s)
  (hn : (n + m) * bytes ≤ 140737488355328) (hnm : n + m ≤ 9223372036854775807) (hb : base ≤ w.heap.size) :
  ∃ v' w', (Builtin.append_ #[t, t] ty #[v, .slice A m c]).run P w = .ok v' w' ∧ w'.ownsRow base e k v' (n + m) ((l ++ s).flatMap enc) ∧ w.grownBy w' v.ownBlock ∧ (v'.ownBlock = v.ownBlock ∨ v'.ownBlock = some w.heap.size) := by
 rcases A with _ | ad
 ·have hm0 : m = 0 := by
   rcases Nat.eq_zero_or_pos m with h | h
   ·exact h
   ·obtain ⟨_, _, he, _⟩ := hs.2.2.2 h
    cases he
  subst hm0
  have hs0 : s = [] := List.eq_nil_of_length_eq_zero hs.1.symm
  subst hs0
  refine ⟨v, w, ?_, by simpa using hown, World.grownBy.refl w _, .inl rfl⟩
  rcases hown.2 with ⟨rfl, rfl⟩ | ⟨g, cap, cur, rfl, _, _, hnc, _⟩
  ·simp [Builtin.append_, run_underlying ht, sizeOf, typeInfo, hi, Builtin.lenOf, Builtin.firstCells]
  ·simp [Builtin.append_, run_underlying ht, sizeOf, typeInfo, hi, Builtin.lenOf, Builtin.firstCells, hnc, storeCells]
 ·have hcells : ∀ j u, (s.flatMap enc)[j]? = some u → w.cell? (ad.add j) = some u := by
   intro j u hj
   obtain ⟨x, hx, hu⟩ := flat_at hk h0 s j u hj
   have hm : 0 < m := by
    rw [hs.1]
    exact Nat.lt_of_le_of_lt (Nat.zero_le _) (List.getElem?_eq_some_iff.1 hx).1
   obtain ⟨b, off, he, _, hx'⟩ := hs.2.2.2 hm
   obtain ⟨cs, rfl, hc⟩ := hx' _ _ hx
   injection he with he
   subst he
   rw [addr_add]
   have := hc _ _ hu
   rwa [Nat.add_assoc, Nat.div_add_mod'] at this
  obtain ⟨v', w', hrun, h2, h3, _, h5⟩ := run_append_own_at (P := P) w base t ty e i z k bytes ht hi hz hsize hby hzs h0 v n (l.flatMap enc) hown ad m c (s.flatMap enc)
   (by rw [flat_len hk, hs.1]) hcells (fun u hu => by obtain ⟨x, _, hx⟩ := List.mem_flatMap.1 hu; exact h1 x u hx) (by unfold maxLen; omega) hn hb
  exact ⟨v', w', hrun, by rw [List.flatMap_append]; exact h2, h3, h5⟩
end
section
variable {P : Program} {w w' : World}
theorem wp_append_known {o : Oper} {a : Act} {K : Act → World → Prop} {Q : Exit → Act → World → Prop} (s x : Operand) (t : TypeId)
  (ho : o.op = .call { callee := .builtin .append, args := #[s, x], argTypes := #[t, t] }) {v u v' : Value} (hs : a.eval s = v) (hx : a.eval x = u) (hrun : (Builtin.append_ #[t, t] o.type #[v, u]).run P w = .ok v' w')
  (h : K (a.put o.dst v') w') : o.wp P a w K Q := by
 unfold Oper.wp execOp
 simp only [ho, resolve, invoke, builtin, Sem.run_bind, Sem.run_pure, Result.andThen_ok, List.map_toArray, List.map_cons, List.map_nil, hs, hx, hrun]
 exact h
theorem wpList_append_known {ops : Array Oper} {rest : List Oper} {o : Oper} {a : Act} {Q : Exit → Act → World → Prop} (hw : Region.wanted o (yielded ops a.tmps) = true) (s x : Operand) (t : TypeId)
  (ho : o.op = .call { callee := .builtin .append, args := #[s, x], argTypes := #[t, t] }) {v u v' : Value} (hs : a.eval s = v) (hx : a.eval x = u) (hrun : (Builtin.append_ #[t, t] o.type #[v, u]).run P w = .ok v' w')
  (h : wpList P ops Q rest (a.put o.dst v') w') : wpList P ops Q (o :: rest) a w :=
 BigFrame.wpList_want hw fun _ hK => wp_append_known s x t ho hs hx hrun (hK _ _ h)
end
end
end Go.Proofs.YtbegdcjofnfkiaaGreatDoor
