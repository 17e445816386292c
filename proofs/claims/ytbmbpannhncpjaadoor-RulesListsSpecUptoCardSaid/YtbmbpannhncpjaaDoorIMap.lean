/- A map over integers; how far an iterator over a map has come. Over any program. -/
import Derived.Test.YtbmbpannhncpjaaDoorKMap
namespace Go.Proofs.YtbmbpannhncpjaaDoor
open Go.RowKit
section
variable {P : Program} {kt mt : TypeId}
theorem KeyOps.of_int {et : TypeId} (hm : P.underlying mt = some (.map kt et)) (hk : P.underlying kt = some (.int .i64)) : KeyOps P kt mt (fun x : Int => Value.int .i64 x) := by
  refine ⟨⟨et, hm⟩, fun a b h => by injection h, fun a em w => ?_, fun a w => ?_, fun a es w hes => ?_⟩
  · show (Instr.checkKey em (9999 + 1) kt (.int .i64 a)).run P w = .ok () w
    unfold Instr.checkKey
    simp [run_underlying hk]
  · have : Instr.sameBits 10000 (.int .i64 a) (.int .i64 a) = true := by
      show Instr.sameBits (9999 + 1) (.int .i64 a) (.int .i64 a) = true
      simp [Instr.sameBits]
    unfold Instr.keyThatStays
    rw [if_pos this]
    rfl
  · have ask : ∀ (es : List MapEntry) (i : Nat), (∀ e ∈ es, ∃ b : Int, e.key = .int .i64 b) → (Instr.findNow (.int .i64) (.int .i64 a) es i = some none ∧ ∀ e ∈ es, e.key ≠ .int .i64 a) ∨
        ∃ j e, Instr.findNow (.int .i64) (.int .i64 a) es i = some (some (i + j, e.val)) ∧ es[j]? = some e ∧ e.key = .int .i64 a := by
      intro es
      induction es with
      | nil => intro i _; exact .inl ⟨rfl, by simp⟩
      | cons e es ih =>
        intro i h
        obtain ⟨b, hb⟩ := h e (by simp)
        by_cases hab : a = b
        · subst hab
          refine .inr ⟨0, e, ?_, rfl, hb⟩
          simp [Instr.findNow, Instr.sameNow, hb]
        · have hbe : (a == b) = false := by simpa using hab
          rcases ih (i + 1) (fun e' he' => h e' (by simp [he'])) with ⟨h1, h2⟩ | ⟨j, e', h1, h2, h3⟩
          · refine .inl ⟨?_, ?_⟩
            · simp [Instr.findNow, Instr.sameNow, hb, hbe, h1]
            · intro e' he'
              rcases List.mem_cons.1 he' with rfl | he'
              · rw [hb]; intro hh; injection hh with _ hh; exact hab hh.symm
              · exact h2 e' he'
          · refine .inr ⟨j + 1, e', ?_, by simpa using h2, h3⟩
            simp [Instr.findNow, Instr.sameNow, hb, hbe, h1]
            omega
    rcases ask es 0 hes with ⟨h1, h2⟩ | ⟨j, e, h1, h2, h3⟩
    · refine .inl ⟨?_, h2⟩
      simp [Instr.findKey, run_underlying hk, h1]
    · refine .inr ⟨j, e, ?_, h2, h3⟩
      rw [Nat.zero_add] at h1
      simp [Instr.findKey, run_underlying hk, h1]
end
section
variable {α : Type} {K : α → Value}
/-- How many keys the iterator has not yet handed out. -/
def mLeft (W : World) (r n : Nat) : Nat := match W.heap[r]? with
  | some (.mapIter _ _ seen _) => n - seen.size
  | _ => 0
theorem mLeft_eq {W : World} {r b : Nat} {ks : List α} {js : List Nat} (h : KIt K W r b ks js) : mLeft W r ks.length = ks.length - js.length := by
  obtain ⟨es, clock, h1, h2, h3⟩ := h
  simp [mLeft, h2]
theorem nodup_len {n : Nat} {js : List Nat} (h : js.Nodup) (hlt : ∀ j ∈ js, j < n) : js.length ≤ n := by
  have hp := perm_places h hlt
  have := hp.length_eq
  simp at this
  omega
theorem mLeft_lt {W W2 : World} {r b j : Nat} {ks : List α} {js : List Nat} (h : KIt K W r b ks js) (h2 : KIt K W2 r b ks (js ++ [j])) : mLeft W2 r ks.length < mLeft W r ks.length := by
  rw [mLeft_eq h, mLeft_eq h2]
  have := nodup_len h2.js.1 h2.js.2
  simp at this ⊢
  omega
end
end Go.Proofs.YtbmbpannhncpjaaDoor
