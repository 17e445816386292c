/- An append inside the body of a range over a function; what becomes of an own slice. Over any program. -/
import Derived.Test.YtbmbpannhncpjaaDoorOwn
import Derived.OwnWalkIn
namespace Go.Proofs.YtbmbpannhncpjaaDoor
open Go.RowKit
theorem own_keepB {w w' : World} {base k : Nat} {e : TypeId} {v : Value} {n : Nat} {xs : List Value} (h : w.ownsRow base e k v n xs) (hb : ∀ g, v.ownBlock = some g → w'.heap[g]? = w.heap[g]?) : w'.ownsRow base e k v n xs :=
  ⟨h.1, h.2.imp id fun ⟨g, cap, cur, hv, hg, hh, h3⟩ => ⟨g, cap, cur, hv, hg, (hb g (by rw [hv]; rfl)).trans hh, h3⟩⟩
theorem own_monoB {w : World} {b b' k : Nat} {e : TypeId} {v : Value} {n : Nat} {xs : List Value} (h : w.ownsRow b e k v n xs) (hb : b' ≤ b) : w.ownsRow b' e k v n xs :=
  ⟨h.1, h.2.imp id fun ⟨g, cap, cur, hv, hg, h3⟩ => ⟨g, cap, cur, hv, Nat.le_trans hb hg, h3⟩⟩
theorem own_base {w : World} {b b' k : Nat} {e : TypeId} {v : Value} {n : Nat} {xs : List Value} (h : w.ownsRow b e k v n xs) (hb : ∀ g, v.ownBlock = some g → b' ≤ g) : w.ownsRow b' e k v n xs :=
  ⟨h.1, h.2.imp id fun ⟨g, cap, cur, hv, hg, h3⟩ => ⟨g, cap, cur, hv, hb g (by rw [hv]; rfl), h3⟩⟩
section
variable {F : Fence} {nF : Nat} {P : Program} {w w' : World}
theorem wpListIn_append_known {ops : Array Oper} {rest : List Oper} {o : Oper} {a : Act} {Q : Exit → Act → World → Prop} (hw : Region.wanted o (yielded ops a.tmps) = true) (s x : Operand) (t : TypeId)
    (ho : o.op = .call { callee := .builtin .append, args := #[s, x], argTypes := #[t, t] }) {v u v' : Value} (hs : a.eval s = v) (hx : a.eval x = u) (hrun : (Builtin.append_ #[t, t] o.type #[v, u]).run P w = .ok v' w')
    (h : wpListIn F nF P ops Q rest (a.put o.dst v') w') : wpListIn F nF P ops Q (o :: rest) a w :=
  BigFrame.wpListIn_want hw fun _ hK => by
    have hab : o.about P w a.eval = none := by unfold Oper.about; simp only [ho, resolve, Sem.run_pure]; rfl
    refine ⟨(fun f hf => by rw [hab] at hf; cases hf), ?_⟩
    rw [Oper.semAt_eq F.round a.eval o (fun c => by rw [ho]; intro h; cases h)]
    unfold execOp
    simp only [ho, resolve, invoke, builtin, Sem.run_bind, Sem.run_pure, Result.andThen_ok, List.map_toArray, List.map_cons, List.map_nil, hs, hx, hrun]
    exact hK _ _ h
end
end Go.Proofs.YtbmbpannhncpjaaDoor
