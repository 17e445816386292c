/- The reference's Reach, plainly: pages are marked from the last one down. -/
import Derived.Test.YtpnfpdkoeednhaaAP16
namespace Go.Proofs.Ytpnfpdkoeednhaa
open Go.RowKit

theorem Rch.snoc {ps : List Pv} {p q : Nat} {g : Pv} {kid : Int} (h : Rch ps p q) (hg : ps[q]? = some g) (hk : kid ∈ g.kids) : Rch ps p kid.toNat := by
  induction h with
  | refl p => exact Rch.step hg hk (Rch.refl _)
  | step h1 h2 _ ih => exact Rch.step h1 h2 (ih hg)
theorem mem_rch (ps : List Pv) : ∀ (n p : Nat), p < n → ∀ (root : Bool) (d : Nat), Tr ps root p d → ∀ q ∈ reachT ps p, Rch ps p q.toNat ∧ ∃ rt d', Tr ps rt q.toNat d'
  | 0, _, h, _, _, _ => by omega
  | n + 1, p, hp, root, d, ht => fun q hq => by
    obtain ⟨g, hg⟩ := ht.pg
    rw [reach_split hg] at hq
    rcases List.mem_cons.1 hq with rfl | hq
    · rw [Int.toNat_natCast]; exact ⟨Rch.refl p, root, d, ht⟩
    · obtain ⟨kid, hk, hq⟩ := List.mem_flatMap.1 hq
      obtain ⟨a, b, d', c⟩ := hg.kidsIn hk
      obtain ⟨h1, h2⟩ := mem_rch ps n kid.toNat (by omega) false d' c q hq
      exact ⟨Rch.step hg.get hk h1, h2⟩
/-- So far marked. -/
structure Mk (ps : List Pv) (r n : Nat) (bs : List Bool) : Prop where
  len : bs.length = ps.length
  sub : ∀ j : Nat, bs[j]? = some true → (j : Int) ∈ reachT ps r
  root : bs[r]? = some true
  closed : ∀ (j : Nat) (g : Pv), n ≤ j → bs[j]? = some true → ps[j]? = some g → ∀ kid ∈ g.kids, bs[kid.toNat]? = some true
theorem set_true {bs : List Bool} {i j : Nat} (hi : i < bs.length) (h : bs[j]? = some true) : (bs.set i true)[j]? = some true := by
  rw [List.getElem?_set]
  split
  · rfl
  · exact h
theorem Mk.start {ps : List Pv} {r d : Nat} (h : Tr ps true r d) : Mk ps r ps.length ((List.replicate ps.length false).set r true) := by
  have hr := h.lt
  have hs : ((List.replicate ps.length false).set r true)[r]? = some true := by
    rw [List.getElem?_set, if_pos rfl, if_pos (by rw [List.length_replicate]; exact hr)]
  refine ⟨by rw [List.length_set, List.length_replicate], fun j hj => ?_, hs, fun j g hj hb hg => ?_⟩
  · rw [List.getElem?_set] at hj
    split at hj
    · rename_i e
      rw [← e]
      exact rch_mem (Rch.refl r) true d h
    · rw [List.getElem?_replicate] at hj
      split at hj <;> cases hj
  · have := (List.getElem?_eq_some_iff.1 hg).1
    omega
theorem Mk.skip {ps : List Pv} {r i : Nat} {bs : List Bool} (h : Mk ps r (i + 1) bs) (hi : bs[i]? = some false) : Mk ps r i bs :=
  ⟨h.len, h.sub, h.root, fun j g hj hb hg => by
    rcases Nat.lt_or_ge i j with h1 | h1
    · exact h.closed j g h1 hb hg
    · obtain rfl : j = i := by omega
      rw [hi] at hb; cases hb⟩
theorem Mk.done {ps : List Pv} {r i : Nat} {bs : List Bool} {g : Pv} (h : Mk ps r (i + 1) bs) (hg : ps[i]? = some g) (hk : ∀ kid ∈ g.kids, bs[kid.toNat]? = some true) : Mk ps r i bs :=
  ⟨h.len, h.sub, h.root, fun j g' hj hb hg' => by
    rcases Nat.lt_or_ge i j with h1 | h1
    · exact h.closed j g' h1 hb hg'
    · obtain rfl : j = i := by omega
      rw [hg] at hg'; cases hg'
      exact hk⟩
theorem Mk.mark {ps : List Pv} {r d i : Nat} {bs : List Bool} {g : Pv} {kq : Nat} (ht : Tr ps true r d) (h : Mk ps r (i + 1) bs) (hi : bs[i]? = some true) (hg : ps[i]? = some g) (hk : ((kq : Nat) : Int) ∈ g.kids) (hlt : kq < i) : Mk ps r (i + 1) (bs.set kq true) := by
  have hlen := h.len
  have hin := (List.getElem?_eq_some_iff.1 hi).1
  refine ⟨by rw [List.length_set]; exact hlen, fun j hj => ?_, set_true (by omega) h.root, fun j g' hj hb hg' kid hkid => ?_⟩
  · rw [List.getElem?_set] at hj
    split at hj
    · rename_i e
      have h1 := (mem_rch ps (r + 1) r (by omega) true d ht _ (h.sub i hi)).1
      rw [Int.toNat_natCast] at h1
      have h2 := h1.snoc hg hk
      rw [Int.toNat_natCast] at h2
      rw [← e]
      exact rch_mem h2 true d ht
    · exact h.sub j hj
  · rw [List.getElem?_set] at hb
    rw [if_neg (by omega)] at hb
    exact set_true (by omega) (h.closed j g' hj hb hg' kid hkid)
theorem Mk.page {ps : List Pv} {r d i n : Nat} {bs : List Bool} (ht : Tr ps true r d) (h : Mk ps r n bs) (hi : bs[i]? = some true) {g : Pv} (hg : ps[i]? = some g) : ∀ kid ∈ g.kids, 0 ≤ kid ∧ kid < (i : Int) := by
  obtain ⟨_, rt, d', hT⟩ := mem_rch ps (r + 1) r (by omega) true d ht _ (h.sub i hi)
  rw [Int.toNat_natCast] at hT
  obtain ⟨g', hg'⟩ := hT.pg
  have e : g = g' := Option.some.inj (hg.symm.trans hg'.get)
  subst e
  intro kid hk
  obtain ⟨a, b, _⟩ := hg'.kidsIn hk
  exact ⟨a, b⟩
theorem Mk.close {ps : List Pv} {r : Nat} {bs : List Bool} (h : Mk ps r 0 bs) : ∀ (n p : Nat), p < n → ∀ (root : Bool) (d : Nat), Tr ps root p d → bs[p]? = some true → ∀ q ∈ reachT ps p, bs[q.toNat]? = some true
  | 0, _, hp, _, _, _ => by omega
  | n + 1, p, hp, root, d, ht => fun hb q hq => by
    obtain ⟨g, hg⟩ := ht.pg
    rw [reach_split hg] at hq
    rcases List.mem_cons.1 hq with rfl | hq
    · rw [Int.toNat_natCast]; exact hb
    · obtain ⟨kid, hk, hq⟩ := List.mem_flatMap.1 hq
      obtain ⟨a, b, d', c⟩ := hg.kidsIn hk
      exact h.close n kid.toNat (by omega) false d' c (h.closed p g (by omega) hb hg.get kid hk) q hq
/-- At the end exactly what is reached is marked. -/
theorem Mk.all {ps : List Pv} {r d : Nat} {bs : List Bool} (ht : Tr ps true r d) (h : Mk ps r 0 bs) {j : Nat} (hj : j < ps.length) : bs[j]? = some (decide ((j : Int) ∈ reachT ps r)) := by
  have hjl : j < bs.length := by rw [h.len]; exact hj
  cases hb : bs[j] with
  | true =>
    have h1 : bs[j]? = some true := by rw [List.getElem?_eq_getElem hjl, hb]
    rw [h1, decide_eq_true (h.sub j h1)]
  | false =>
    have h1 : bs[j]? = some false := by rw [List.getElem?_eq_getElem hjl, hb]
    rw [h1, decide_eq_false]
    intro hm
    have h2 := h.close (r + 1) r (by omega) true d ht h.root _ hm
    rw [Int.toNat_natCast, h1] at h2
    cases h2
/-- The pages that are marked, so far. -/
def outL (ps : List Pv) (r k : Nat) : List Int := ((List.range k).filter fun (i : Nat) => decide ((i : Int) ∈ reachT ps r)).map fun (i : Nat) => (i : Int)
theorem outL_zero (ps : List Pv) (r : Nat) : outL ps r 0 = [] := rfl
theorem outL_succ (ps : List Pv) (r k : Nat) : outL ps r (k + 1) = outL ps r k ++ (if decide ((k : Int) ∈ reachT ps r) = true then [(k : Int)] else []) := by
  unfold outL
  rw [List.range_succ, List.filter_append, List.map_append]
  congr 1
  by_cases h : (k : Int) ∈ reachT ps r <;> simp [h]
theorem outL_all (ps : List Pv) (r : Nat) : outL ps r ps.length = reachL ps r := rfl
theorem outL_len (ps : List Pv) (r k : Nat) : (outL ps r k).length ≤ k := by
  unfold outL
  rw [List.length_map]
  exact Nat.le_trans (List.length_filter_le _ _) (by simp)
end Go.Proofs.Ytpnfpdkoeednhaa
