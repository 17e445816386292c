/- Several texts in one: IterG InApp. -/
import Derived.Test.YtpnfpdkoeednhaaM1
import Derived.OwnWalkIn
section
/- A range over a function whose elements are known up to a choice (a map's keys, in whatever order): as Iter. Over any program. -/
namespace Go.Proofs.Ytpnfpdkoeednhaa
open Go.RowKit

/-- As SeqC; of the elements R alone is known. -/
def SeqG {α : Type} (P : Program) (g : Nat) (lb : Array Value) (encs : α → Array Value) (R : List α → Prop) (S : Nat → Prop) (w : World) : Prop :=
  ∀ (l : Nat) (J : List α → (Nat → Prop) → World → Prop) (Jx : (Nat → Prop) → World → Prop) (C : Nat → Prop) (W : World),
    (∀ b, S b → b < W.heap.size ∧ W.heap[b]? = w.heap[b]? ∧ ¬ C b) → (∀ b, C b → b < W.heap.size) →
    (∀ pre C1 W1 W2, J pre C1 W1 → Kept (fun b => W.heap.size ≤ b ∧ ¬ C1 b) W1 W2 → J pre C1 W2) →
    (∀ C1 W1 W2, Jx C1 W1 → Kept (fun b => W.heap.size ≤ b ∧ ¬ C1 b) W1 W2 → Jx C1 W2) →
    (∀ m pre x suf C1 W1, R (pre ++ x :: suf) → J pre C1 W1 → YieldAt Fence.wide m P l (encs x) W1 fun e W2 =>
      ∃ C2, Kept C1 W1 W2 ∧ (∀ b, C2 b → b < W2.heap.size ∧ (C1 b ∨ W1.heap.size ≤ b)) ∧
        ((e = .returned (.bool true) ∧ J (pre ++ [x]) C2 W2) ∨ (e = .returned (.bool false) ∧ Jx C2 W2))) →
    J [] C W →
    Calls P g (#[.func (.yield l) #[] #[]] ++ lb) W fun e W' => (∃ v, e = .returned v) ∧ ∃ C', (∃ xs, R xs ∧ J xs C' W') ∨ Jx C' W'

theorem SeqG.later {α : Type} {P : Program} {g : Nat} {lb : Array Value} {encs : α → Array Value} {R : List α → Prop} {S : Nat → Prop} {w w' : World}
    (h : SeqG P g lb encs R S w) (hS : ∀ b, S b → w'.heap[b]? = w.heap[b]?) : SeqG P g lb encs R S w' :=
  fun l J Jx C W h1 => h l J Jx C W (fun b hb => ⟨(h1 b hb).1, (h1 b hb).2.1.trans (hS b hb), (h1 b hb).2.2⟩)

theorem SeqC.toG {α : Type} {P : Program} {g : Nat} {lb : Array Value} {encs : α → Array Value} {xs : List α} {S : Nat → Prop} {w : World} (h : SeqC P g lb encs xs S w) : SeqG P g lb encs (fun ys => ys = xs) S w := by
  intro l J Jx C W h1 h2 h3 h4 h5 h6
  refine (h l J Jx C W h1 h2 h3 h4 (fun m pre x suf C1 W1 hx hj => h5 m pre x suf C1 W1 hx.symm hj) h6).mono ?_
  rintro e w' ⟨hv, C', hc⟩
  exact ⟨hv, C', hc.imp (fun h => ⟨xs, rfl, h⟩) id⟩

section law
variable {P : Program} {α : Type}

def RoundsG (P : Program) (n₀ : Nat) (a : Act) (ps : Array Tmp) (assign body : Code) (encs : α → Array Value) (R : List α → Prop) (I : List α → (Nat → Prop) → World → Prop) (Ix : Code → (Nat → Prop) → World → Prop)
    (Ax : Nat → List α → α → (Nat → Prop) → Act → World → Prop) : Prop :=
  (∀ l pre x C1 a' W2 W3, n₀ ≤ l → ¬ C1 l → Ax l pre x C1 a' W2 → (∃ r, W2.heap[l]? = some (.loop r)) → Kept (fun b => b = l) W2 W3 → Ax l pre x C1 a' W3) ∧
  (∀ l m pre x suf C1 W1 (K : Act → World → Prop), n₀ ≤ l → l < W1.heap.size → ¬ C1 l → R (pre ++ x :: suf) → I pre C1 W1 → (∀ b, C1 b → b < W1.heap.size) → (∀ a' W2, Kept C1 W1 W2 → Ax l pre x C1 a' W2 → K a' W2) →
      assign.wpIn (Fence.wide.inRound l) m P (Exit.then K (fun _ _ _ => False)) { tmps := (ps.zip (encs x)).foldl (fun t (p, v) => t.setIfInBounds p v) a.tmps, defers := [] } W1) ∧
  (∀ l m pre x suf C1 a' W2, n₀ ≤ l → ¬ C1 l → R (pre ++ x :: suf) → Ax l pre x C1 a' W2 → (∃ r, W2.heap[l]? = some (.loop r)) → (∀ b, C1 b → b < W2.heap.size) → body.wpIn (Fence.wide.inRound l) m P (roundC I Ix (pre ++ [x]) C1 W2) a' W2)

theorem wp_rangeG {g : Operand} {ps : Array Tmp} {assign body : Code} {Q : Exit → Act → World → Prop} {a : Act} {w : World} {gf : Nat} {lb : Array Value}
    (hg : a.eval g = .func (.func gf) #[] lb) (eg : ∀ args w, (callFunc gf args).run P w = .ok (.enter gf args) w)
    {encs : α → Array Value} {R : List α → Prop} {S : Nat → Prop} {w0 : World} (hseq : SeqG P gf lb encs R S w0) (C : Nat → Prop)
    (hS : ∀ b, S b → b < w.heap.size ∧ w.heap[b]? = w0.heap[b]? ∧ ¬ C b) (hps : ∀ x, (encs x).size = ps.size) (hC : ∀ b, C b → b < w.heap.size)
    (I : List α → (Nat → Prop) → World → Prop) (Ix : Code → (Nat → Prop) → World → Prop)
    (hI : ∀ pre C1 W1 W2, I pre C1 W1 → Kept (fun b => w.heap.size ≤ b ∧ ¬ C1 b) W1 W2 → I pre C1 W2)
    (hIx : ∀ c C1 W1 W2, Ix c C1 W1 → Kept (fun b => w.heap.size ≤ b ∧ ¬ C1 b) W1 W2 → Ix c C1 W2)
    (h0 : I [] C w) (Ax : Nat → List α → α → (Nat → Prop) → Act → World → Prop)
    (hround : RoundsG P w.heap.size a ps assign body encs R I Ix Ax)
    (hdone : ∀ xs D C' W, R xs → w.heap.size ≤ D → D < W.heap.size → ¬ C' D → I xs C' W → W.heap[D]? = some (.deferred (some [])) → Q .normal { a with defers := { target := .collected D, args := #[] } :: a.defers } W)
    (hstop : ∀ D c C' W, w.heap.size ≤ D → D < W.heap.size → ¬ C' D → Ix c C' W → W.heap[D]? = some (.deferred (some [])) → c.wp P Q { a with defers := { target := .collected D, args := #[] } :: a.defers } W) :
    (Code.rangeFunc g ps assign body).wp P Q a w := by
  refine (wpIn_wide (n := 0)).1 (wpIn_rangeFunc ?_)
  intro fn hfn
  obtain ⟨rec, hrec⟩ : ∃ rec : LoopState → Option Code → Loop, rec = fun st pe => { state := st, pending := pe, fn, tmps := a.tmps, params := ps, assign, body, defers := w.heap.size } := ⟨_, rfl⟩
  have hrec' : ∀ st pe, rec st pe = { state := st, pending := pe, fn, tmps := a.tmps, params := ps, assign, body, defers := (rec .ready none).defers } := by rw [hrec]; exact fun _ _ => rfl
  obtain ⟨W1, hW1⟩ : ∃ W1, (w.alloc (.deferred (some []))).alloc (.loop (rec .ready none)) = W1 := ⟨_, rfl⟩
  have hL1 : W1.heap[w.heap.size + 1]? = some (.loop (rec .ready none)) := by
    rw [← hW1]; have := World.alloc_heap_new (w.alloc (.deferred (some []))) (.loop (rec .ready none)); rwa [World.size_alloc] at this
  have hK1 : W1.heap[w.heap.size]? = some (.deferred (some [])) := by
    rw [← hW1]; exact (Below.heap_alloc _ _ _ (by simp)).trans (World.alloc_heap_new w _)
  have hz1 : W1.heap.size = w.heap.size + 2 := by rw [← hW1]; simp
  have hk1 : ∀ M, Kept M w W1 := fun M => by rw [← hW1]; exact ((Kept.refl _ _).alloc _).alloc _
  refine ⟨w.heap.size + 1, [{ target := .collected w.heap.size, args := #[] }], W1, { target := .fn (.func gf) lb, args := #[.func (.yield (w.heap.size + 1)) #[] #[]] }, W1, gf,
    #[.func (.yield (w.heap.size + 1)) #[] #[]] ++ lb, W1, ?_, ?_, fun _ _ => trivial, ?_, fun h => by simp [Fence.wide] at h, ?_⟩
  · rw [← hW1, hrec]; exact run_enterLoop_outer _ _ _ _ _
  · simp only [resolve, hg]
    simp [go_sem]
  · simp [invoke, go_sem, eg]
  · refine callsIn_wide.2 ((hseq (w.heap.size + 1)
      (fun pre C1 W => ∃ Cu, C1 = (fun b => Cu b ∨ b = w.heap.size ∨ b = w.heap.size + 1) ∧ ¬ Cu w.heap.size ∧ ¬ Cu (w.heap.size + 1) ∧ (∀ b, Cu b → b < W.heap.size) ∧ w.heap.size + 1 < W.heap.size ∧
        I pre Cu W ∧ W.heap[w.heap.size + 1]? = some (.loop (rec .ready none)) ∧ W.heap[w.heap.size]? = some (.deferred (some [])))
      (fun C1 W => ∃ Cu c, C1 = (fun b => Cu b ∨ b = w.heap.size ∨ b = w.heap.size + 1) ∧ ¬ Cu w.heap.size ∧ ¬ Cu (w.heap.size + 1) ∧ w.heap.size + 1 < W.heap.size ∧
        Ix c Cu W ∧ W.heap[w.heap.size + 1]? = some (.loop (rec .done (some c))) ∧ W.heap[w.heap.size]? = some (.deferred (some [])))
      (fun b => C b ∨ b = w.heap.size ∨ b = w.heap.size + 1) W1 ?_ ?_ ?_ ?_ ?_ ?_).mono ?_)
    · intro b hb
      obtain ⟨h1, h2, h3⟩ := hS b hb
      refine ⟨by omega, ((hk1 (fun _ => False)).block b h1 (fun h => h)).trans h2, fun h => ?_⟩
      rcases h with h | h | h
      · exact h3 h
      · omega
      · omega
    · intro b hb
      rcases hb with h | h | h
      · have := hC b h; omega
      · omega
      · omega
    · rintro pre C1 Wa Wb ⟨Cu, rfl, h1, h2, h3, h4, h5, h6, h7⟩ hk
      have hk' : Kept (fun b => w.heap.size ≤ b ∧ ¬ Cu b) Wa Wb := hk.mono fun b _ hb => ⟨by omega, fun h => hb.2 (.inl h)⟩
      refine ⟨Cu, rfl, h1, h2, fun b hb => Nat.lt_of_lt_of_le (h3 b hb) hk.size, Nat.lt_of_lt_of_le h4 hk.size, hI _ _ _ _ h5 hk', (hk.block _ h4 ?_).trans h6, (hk.block _ (by omega) ?_).trans h7⟩
      · intro h; exact h.2 (.inr (.inr rfl))
      · intro h; exact h.2 (.inr (.inl rfl))
    · rintro C1 Wa Wb ⟨Cu, c, rfl, h1, h2, h4, h5, h6, h7⟩ hk
      have hk' : Kept (fun b => w.heap.size ≤ b ∧ ¬ Cu b) Wa Wb := hk.mono fun b _ hb => ⟨by omega, fun h => hb.2 (.inl h)⟩
      refine ⟨Cu, c, rfl, h1, h2, Nat.lt_of_lt_of_le h4 hk.size, hIx _ _ _ _ h5 hk', (hk.block _ h4 ?_).trans h6, (hk.block _ (by omega) ?_).trans h7⟩
      · intro h; exact h.2 (.inr (.inr rfl))
      · intro h; exact h.2 (.inr (.inl rfl))
    · rintro m pre x suf C1 Wa hxs ⟨Cu, rfl, h1, h2, h3, h4, h5, h6, h7⟩
      obtain ⟨r1, r2, r3⟩ := hround
      refine (round_yield hrec' hps I Ix hI hIx (by omega) m pre x Cu Wa h2 h6 (Ax (w.heap.size + 1) pre x Cu)
        (fun a' W2 W3 hx hl hk => r1 _ _ _ _ _ _ _ (by omega) h2 hx ⟨_, hl⟩ hk)
        (fun K hK => r2 _ m pre x suf Cu Wa K (by omega) h4 h2 hxs h5 h3 hK)
        (fun a' W2 hx hr hy => r3 _ m pre x suf Cu a' W2 (by omega) h2 hxs hx hr (fun b hb => by
          obtain ⟨Wy, k1, k2⟩ := hy
          exact Nat.lt_of_lt_of_le (h3 b hb) (Nat.le_trans k1.size k2.size)))).mono ?_
      rintro e W2 ⟨C2, st, pe, hk, hC2, hl, hcase⟩
      have hD : W2.heap[w.heap.size]? = some (.deferred (some [])) := (hk.block _ (by omega) (fun h => by
        rcases h with h | h
        · exact h1 h
        · omega)).trans h7
      have n1 : ¬ C2 w.heap.size := fun h => by
        rcases (hC2 _ h).2 with h | h
        · exact h1 h
        · omega
      have n2 : ¬ C2 (w.heap.size + 1) := fun h => by
        rcases (hC2 _ h).2 with h | h
        · exact h2 h
        · omega
      refine ⟨fun b => C2 b ∨ b = w.heap.size ∨ b = w.heap.size + 1, hk.mono (fun b _ h => by
        rcases h with h | h
        · exact .inl h
        · exact .inr (.inr h)), fun b hb => ?_, ?_⟩
      · rcases hb with h | h | h
        · refine ⟨(hC2 b h).1, ?_⟩
          rcases (hC2 b h).2 with h | h
          · exact .inl (.inl h)
          · exact .inr h
        · exact ⟨by have := hk.size; omega, .inl (.inr (.inl h))⟩
        · exact ⟨by have := hk.size; omega, .inl (.inr (.inr h))⟩
      · rcases hcase with ⟨rfl, rfl, rfl, hi⟩ | ⟨rfl, rfl, c, rfl, hi⟩
        · exact .inl ⟨rfl, C2, rfl, n1, n2, fun b hb => (hC2 b hb).1, by have := hk.size; omega, hi, hl, hD⟩
        · exact .inr ⟨rfl, C2, c, rfl, n1, n2, by have := hk.size; omega, hi, hl, hD⟩
    · refine ⟨C, rfl, fun h => ?_, fun h => ?_, fun b hb => by have := hC b hb; omega, by omega, hI _ _ _ _ h0 (hk1 _), hL1, hK1⟩
      · have := hC _ h; omega
      · have := hC _ h; omega
    · rintro e W2 ⟨⟨v, rfl⟩, C', (⟨xs, hRx, Cu, rfl, h1, h2, h3, h4, h5, h6, h7⟩ | ⟨Cu, c, rfl, h1, h2, h4, h5, h6, h7⟩)⟩
      · have hk : Kept (fun b => w.heap.size ≤ b ∧ ¬ Cu b) W2 (W2.putObj (w.heap.size + 1) (.loop { rec .ready none with state := .exhausted })) := (Kept.refl _ _).putObj (.inl ⟨by omega, h2⟩) _
        exact ⟨none, _, by have := run_endLoop (P := P) h6 (by rw [hrec]; simp); rw [hrec] at this ⊢; exact this, hdone xs _ Cu _ hRx (Nat.le_refl _) (by simp; omega) h1 (hI _ _ _ _ h5 hk) ((World.putObj_heap_other (by omega)).trans h7)⟩
      · have hk : Kept (fun b => w.heap.size ≤ b ∧ ¬ Cu b) W2 (W2.putObj (w.heap.size + 1) (.loop { rec .done (some c) with state := .exhausted })) := (Kept.refl _ _).putObj (.inl ⟨by omega, h2⟩) _
        exact ⟨some c, _, by have := run_endLoop (P := P) h6 (by rw [hrec]; simp); rw [hrec] at this ⊢; exact this, wpIn_wide.2 (hstop _ c Cu _ (Nat.le_refl _) (by simp; omega) h1 (hIx _ _ _ _ h5 hk) ((World.putObj_heap_other (by omega)).trans h7))⟩

end law
end Go.Proofs.Ytpnfpdkoeednhaa

end
section
/- An append inside the body of a range over a function; what becomes of an own slice. Over any program. -/
namespace Go.Proofs.Ytpnfpdkoeednhaa
open Go.RowKit
theorem own_keepB {w w' : World} {base k : Nat} {e : TypeId} {v : Value} {n : Nat} {xs : List Value} (h : w.ownsRow base e k v n xs) (hb : ∀ g, v.ownBlock = some g → w'.heap[g]? = w.heap[g]?) : w'.ownsRow base e k v n xs :=
  ⟨h.1, h.2.imp id fun ⟨g, cap, cur, hv, hg, hh, h3⟩ => ⟨g, cap, cur, hv, hg, (hb g (by rw [hv]; rfl)).trans hh, h3⟩⟩
theorem own_monoB {w : World} {b b' k : Nat} {e : TypeId} {v : Value} {n : Nat} {xs : List Value} (h : w.ownsRow b e k v n xs) (hb : b' ≤ b) : w.ownsRow b' e k v n xs :=
  ⟨h.1, h.2.imp id fun ⟨g, cap, cur, hv, hg, h3⟩ => ⟨g, cap, cur, hv, Nat.le_trans hb hg, h3⟩⟩
theorem own_base {w : World} {b b' k : Nat} {e : TypeId} {v : Value} {n : Nat} {xs : List Value} (h : w.ownsRow b e k v n xs) (hb : ∀ g, v.ownBlock = some g → b' ≤ g) : w.ownsRow b' e k v n xs :=
  ⟨h.1, h.2.imp id fun ⟨g, cap, cur, hv, hg, h3⟩ => ⟨g, cap, cur, hv, hb g (by rw [hv]; rfl), h3⟩⟩
section
variable {F : Fence} {nF : Nat} {P : Program} {w w' : World}
theorem wpListIn_append_known {ops : Array Oper} {rest : List Oper} {o : Oper} {a : Act} {Q : Exit → Act → World → Prop} (hw : Region.wanted o (yielded ops a.tmps) = true) (s x : Operand) (t : TypeId)
    (ho : o.op = .call { callee := .builtin .append, args := #[s, x], argTypes := #[t, t] }) {v u v' : Value} (hs : a.eval s = v) (hx : a.eval x = u) (hrun : (Builtin.append_ #[t, t] o.type #[v, u]).run P w = .ok v' w')
    (h : wpListIn F nF P ops Q rest (a.put o.dst v') w') : wpListIn F nF P ops Q (o :: rest) a w :=
  BigFrame.wpListIn_want hw fun _ hK => by
    have hab : o.about P w a.eval = none := by unfold Oper.about; simp only [ho, resolve, Sem.run_pure]; rfl
    refine ⟨(fun f hf => by rw [hab] at hf; cases hf), ?_⟩
    rw [Oper.semAt_eq F.round a.eval o (fun c => by rw [ho]; intro h; cases h)]
    unfold execOp
    simp only [ho, resolve, invoke, builtin, Sem.run_bind, Sem.run_pure, Result.andThen_ok, List.map_toArray, List.map_cons, List.map_nil, hs, hx, hrun]
    exact hK _ _ h
end
end Go.Proofs.Ytpnfpdkoeednhaa

end

