/- Small facts about integers and lists. -/
import Derived.Test.YtpnfpdkoeednhaaML
import Derived.Test.YtpnfpdkoeednhaaMJ
namespace Go.Proofs.Ytpnfpdkoeednhaa
open Go.RowKit

theorem u64_inP {n : Int} (h : 0 ≤ n ∧ n ≤ 18446744073709551615) : IntKind.u64.wrap n = n := by
  simp [IntKind.wrap, IntKind.bits, IntKind.signed]; omega
theorem drop_take_permP {α : Type} (l : List α) (k : Nat) : (l.drop k ++ l.take k).Perm l := by
  have h := List.perm_append_comm (l₁ := l.drop k) (l₂ := l.take k)
  rwa [List.take_append_drop] at h
theorem rem_natP {z : Int} {n : Nat} (h0 : 0 ≤ z) : ∃ k : Nat, k < n + 1 ∧ z.tmod ((n : Int) + 1) = k := by
  refine ⟨z.toNat % (n + 1), Nat.mod_lt _ (by omega), ?_⟩
  obtain ⟨m, rfl⟩ : ∃ m : Nat, z = m := ⟨z.toNat, by omega⟩
  rw [Int.toNat_natCast]
  rfl
theorem all_lenP (l : List Fc) : (allB (fillF l).ps (fillF l).roots ((fillF l).acc.length : Nat)).length = (fillF l).acc.length := by
  have h := (all_ver (fill_inv l) _ (Nat.le_refl _)).2.2.length_eq
  rw [h, List.length_take]; omega
theorem own_emptyP (w : World) (base k : Nat) (e : TypeId) (hb : base ≤ w.heap.size) : (w.alloc (.cells #[] e)).ownsRow base e k (.slice (some ⟨w.heap.size, 0, none⟩) 0 0) 0 [] :=
  ⟨by simp, .inr ⟨w.heap.size, 0, #[], rfl, hb, World.alloc_heap_new _ _, Nat.le_refl _, by decide, by simp, by simp⟩⟩
theorem own_singleP (w : World) (base k : Nat) (e : TypeId) (cs : List Value) (hk : cs.length = k) (hb : base ≤ w.heap.size) : (w.alloc (.cells cs.toArray e)).ownsRow base e k (.slice (some ⟨w.heap.size, 0, none⟩) 1 1) 1 cs :=
  ⟨by simp [hk], .inr ⟨w.heap.size, 1, cs.toArray, rfl, hb, World.alloc_heap_new _ _, Nat.le_refl _, by decide, by simp [hk], by subst hk; simp⟩⟩
/-- A list of facts that is known whole, however it is turned. -/
theorem facts_len {l m : List Fc} (hc : checkF l = 0) (hp : m.Perm l) : (fillF m).acc.length = l.length := by
  rw [(facts_ver hc hp).1, hp.length_eq]
end Go.Proofs.Ytpnfpdkoeednhaa
