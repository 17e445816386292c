/- Several texts in one: AP10 AP11 AP12 AP13. -/
import Derived.Test.YtpnfpdkoeednhaaML
import Derived.Test.YtpnfpdkoeednhaaMI
section
/- PagesKept, plainly. -/
namespace Go.Proofs.Ytpnfpdkoeednhaa
open Go.RowKit

end Go.Proofs.Ytpnfpdkoeednhaa

end
section
/- PagesKept's loop, plainly: a list and the same list with one fact more. -/
namespace Go.Proofs.Ytpnfpdkoeednhaa
open Go.RowKit

/-- How far the loop is in the shorter list, and whether it has met the fact. -/
def nK (a k : Nat) : Nat := if k ≤ a then k else k - 1
end Go.Proofs.Ytpnfpdkoeednhaa

end
section
/- PagesSorted, plainly. -/
namespace Go.Proofs.Ytpnfpdkoeednhaa
open Go.RowKit

end Go.Proofs.Ytpnfpdkoeednhaa

end
section
/- Pages, plainly: how many facts a version shows. -/
namespace Go.Proofs.Ytpnfpdkoeednhaa
open Go.RowKit

theorem nodup_sub_len {α : Type} : ∀ {l m : List α}, l.Nodup → (∀ x ∈ l, x ∈ m) → l.length ≤ m.length
  | [], m, _, _ => by simp
  | a :: l, m, hn, hs => by
    obtain ⟨m1, m2, rfl⟩ := List.append_of_mem (hs a (by simp))
    have hn' := List.nodup_cons.1 hn
    have h := nodup_sub_len (l := l) (m := m1 ++ m2) hn'.2 fun x hx => by
      have h1 := hs x (List.mem_cons_of_mem _ hx)
      rw [List.mem_append, List.mem_cons] at h1
      rw [List.mem_append]
      rcases h1 with h | h | h
      · exact .inl h
      · subst h; exact absurd hx hn'.1
      · exact .inr h
    rw [List.length_append] at h
    rw [List.length_append, List.length_cons, List.length_cons]
    omega
theorem str_nodup {l : List Fc} (h : StrP l) : l.Nodup := h.imp fun {a b} hab e => by subst e; rw [ltP_irr] at hab; cases hab
theorem allG_mem (ps : List Pv) : ∀ (n p : Nat) (x : Fc), x ∈ allG ps n p → x ∈ ps.flatMap (·.facts)
  | 0, _, _, h => by simp [allG] at h
  | n + 1, p, x, h => by
    unfold allG at h
    split at h
    · cases h
    · rename_i g hg
      obtain ⟨i, _, h⟩ := List.mem_flatMap.1 h
      rw [List.mem_append] at h
      rcases h with h | h
      · split at h
        · cases h
        · split at h
          · exact allG_mem ps n _ x h
          · cases h
      · rw [Option.mem_toList] at h
        exact List.mem_flatMap.2 ⟨g, List.mem_of_getElem? hg, List.mem_of_getElem? h⟩
theorem fewG_len : ∀ {ps : List Pv}, fewG ps = true → (ps.flatMap (·.facts)).length ≤ 8 * ps.length
  | [], _ => by simp
  | g :: ps, h => by
    have h1 : (decide (g.facts.length ≤ 8) && decide (g.kids.length ≤ 8)) = true ∧ fewG ps = true := by
      unfold fewG at h ⊢
      rw [List.all_cons, Bool.and_eq_true] at h
      exact h
    have h2 := fewG_len h1.2
    have h3 : g.facts.length ≤ 8 := by
      have := h1.1
      simp at this
      exact this.1
    rw [List.flatMap_cons, List.length_append, List.length_cons]
    omega
theorem few_parts {ps : List Pv} {roots : List Int} (hf : fewP ps roots = true) : fewG ps = true ∧ ps.length ≤ 200 ∧ roots.length ≤ 60 := by
  unfold fewP at hf
  simpa using hf
end Go.Proofs.Ytpnfpdkoeednhaa

end

