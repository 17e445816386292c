/- The pages that a good page reaches, plainly: each once; in order they are the pages below it. -/
import Derived.Test.YtpnfpdkoeednhaaAP14
namespace Go.Proofs.Ytpnfpdkoeednhaa
open Go.RowKit

def factsAt (ps : List Pv) (q : Int) : List Fc := match ps[q.toNat]? with | some g => g.facts | none => []
theorem factsAt_get {ps : List Pv} {p : Nat} {g : Pv} (h : ps[p]? = some g) : factsAt ps (p : Int) = g.facts := by
  unfold factsAt; rw [Int.toNat_natCast, h]
theorem inter_perm : ∀ (S : List (List Fc)) (F : List Fc), (S = [] ∨ S.length = F.length + 1) → (inter S F).Perm (F ++ S.flatten)
  | [], F, _ => by simp [inter]
  | [s], [], _ => by simp [inter]
  | s :: t :: S, [], h => by simp at h
  | [s], f :: F, h => by simp at h
  | s :: t :: S, f :: F, h => by
    have ih := inter_perm (t :: S) F (.inr (by simpa using h))
    show (s ++ f :: inter (t :: S) F).Perm (f :: F ++ (s :: t :: S).flatten)
    have h1 : (s ++ f :: inter (t :: S) F).Perm (f :: (s ++ inter (t :: S) F)) := List.perm_middle
    refine h1.trans ?_
    show (f :: (s ++ inter (t :: S) F)).Perm (f :: (F ++ (s ++ (t :: S).flatten)))
    refine List.Perm.cons f ?_
    refine (List.Perm.append_left s ih).trans ?_
    rw [← List.append_assoc, ← List.append_assoc]
    exact List.Perm.append_right _ List.perm_append_comm
theorem subs_shape {ps : List Pv} {root : Bool} {p d : Nat} {g : Pv} (h : Pg ps root p d g) : subs ps g = [] ∨ (subs ps g).length = g.facts.length + 1 := by
  rcases h.kids with ⟨h0, _⟩ | ⟨h0, _⟩
  · exact .inl (by unfold subs; rw [h0]; rfl)
  · exact .inr (by rw [subs_len]; exact h0)
theorem flat_perm {α β : Type} {l : List α} {f g : α → List β} (h : ∀ x ∈ l, (f x).Perm (g x)) : (l.flatMap f).Perm (l.flatMap g) := by
  induction l with
  | nil => simp
  | cons a l ih =>
    rw [List.flatMap_cons, List.flatMap_cons]
    exact (h a (by simp)).append (ih fun x hx => h x (List.mem_cons_of_mem _ hx))
theorem Pg.kidsIn {ps : List Pv} {root : Bool} {p d : Nat} {g : Pv} (h : Pg ps root p d g) {kid : Int} (hk : kid ∈ g.kids) : 0 ≤ kid ∧ kid < (p : Int) ∧ ∃ d', Tr ps false kid.toNat d' := by
  rcases h.kids with ⟨h0, _⟩ | ⟨_, d', _, h1⟩
  · rw [h0] at hk; cases hk
  · obtain ⟨i, hi⟩ := List.mem_iff_getElem?.1 hk
    obtain ⟨a, b, c⟩ := h1 i kid hi
    exact ⟨a, b, d', c⟩
theorem reachK_in {ps : List Pv} {p : Nat} {kid : Int} (h0 : 0 ≤ kid) (h1 : kid < p) : reachK ps p kid = reachT ps kid.toNat := by
  unfold reachK; rw [if_pos ⟨h0, h1⟩]
theorem flat_congr {α β : Type} {f g : α → List β} : ∀ {l : List α}, (∀ x ∈ l, f x = g x) → l.flatMap f = l.flatMap g
  | [], _ => rfl
  | a :: l, h => by
    rw [List.flatMap_cons, List.flatMap_cons, h a (by simp), flat_congr fun x hx => h x (List.mem_cons_of_mem _ hx)]
theorem reach_split {ps : List Pv} {root : Bool} {p d : Nat} {g : Pv} (h : Pg ps root p d g) : reachT ps p = (p : Int) :: g.kids.flatMap fun (kid : Int) => reachT ps kid.toNat := by
  rw [reachT_eq h.get]
  congr 1
  refine flat_congr fun kid hk => ?_
  obtain ⟨a, b, _⟩ := h.kidsIn hk
  exact reachK_in a b
theorem reach_facts (ps : List Pv) : ∀ (n p : Nat), p < n → ∀ (root : Bool) (d : Nat), Tr ps root p d → (allT ps p).Perm ((reachT ps p).flatMap (factsAt ps))
  | 0, _, h, _, _, _ => by omega
  | n + 1, p, hp, root, d, ht => by
    obtain ⟨g, hg⟩ := ht.pg
    rw [hg.all, reach_split hg, List.flatMap_cons, factsAt_get hg.get]
    refine (inter_perm _ _ (subs_shape hg)).trans (List.Perm.append_left _ ?_)
    rw [List.flatMap_assoc]
    have e : (subs ps g).flatten = g.kids.flatMap fun (kid : Int) => allT ps kid.toNat := by
      unfold subs; rw [List.flatMap_def]
    rw [e]
    refine flat_perm fun kid hk => ?_
    obtain ⟨a, b, d', c⟩ := hg.kidsIn hk
    exact reach_facts ps n kid.toNat (by omega) false d' c
theorem reach_range (ps : List Pv) : ∀ (n p : Nat), p < n → ∀ (root : Bool) (d : Nat), Tr ps root p d → ∀ q ∈ reachT ps p, 0 ≤ q ∧ q ≤ (p : Int)
  | 0, _, h, _, _, _ => by omega
  | n + 1, p, hp, root, d, ht => fun q hq => by
    obtain ⟨g, hg⟩ := ht.pg
    rw [reach_split hg] at hq
    rcases List.mem_cons.1 hq with rfl | hq
    · omega
    · obtain ⟨kid, hk, hq⟩ := List.mem_flatMap.1 hq
      obtain ⟨a, b, d', c⟩ := hg.kidsIn hk
      have := reach_range ps n kid.toNat (by omega) false d' c q hq
      omega
theorem reach_full (ps : List Pv) : ∀ (n p : Nat), p < n → ∀ (d : Nat), Tr ps false p d → ∀ q ∈ reachT ps p, factsAt ps q ≠ []
  | 0, _, h, _, _ => by omega
  | n + 1, p, hp, d, ht => fun q hq => by
    obtain ⟨g, hg⟩ := ht.pg
    rw [reach_split hg] at hq
    rcases List.mem_cons.1 hq with rfl | hq
    · rw [factsAt_get hg.get]
      have := (pgOk_four hg.ok).2 rfl
      intro h
      rw [h] at this
      simp at this
    · obtain ⟨kid, hk, hq⟩ := List.mem_flatMap.1 hq
      obtain ⟨a, b, d', c⟩ := hg.kidsIn hk
      exact reach_full ps n kid.toNat (by omega) d' c q hq
theorem nodup_flat {α β : Type} {f : α → List β} : ∀ {l : List α}, (l.flatMap f).Nodup → (∀ q ∈ l, f q ≠ []) → l.Nodup
  | [], _, _ => List.nodup_nil
  | a :: l, h, hne => by
    rw [List.flatMap_cons] at h
    obtain ⟨_, h2, h3⟩ := List.nodup_append.1 h
    refine List.nodup_cons.2 ⟨fun ha => ?_, nodup_flat h2 fun q hq => hne q (List.mem_cons_of_mem _ hq)⟩
    obtain ⟨x, hx⟩ := List.exists_mem_of_ne_nil _ (hne a (by simp))
    exact h3 x hx x (List.mem_flatMap.2 ⟨a, ha, hx⟩) rfl
/-- Each page is reached once. -/
theorem reach_nodup {ps : List Pv} {p d : Nat} (h : GoodR ps p d) : (reachT ps p).Nodup := by
  obtain ⟨ht, _, hs⟩ := h
  have hp := reach_facts ps (p + 1) p (by omega) true d ht
  have hn : ((reachT ps p).flatMap (factsAt ps)).Nodup := hp.nodup_iff.1 (str_nodup hs)
  obtain ⟨g, hg⟩ := ht.pg
  rw [reach_split hg] at hn ⊢
  rw [List.flatMap_cons] at hn
  refine List.nodup_cons.2 ⟨fun hm => ?_, nodup_flat (List.nodup_append.1 hn).2.1 fun q hq => ?_⟩
  · obtain ⟨kid, hk, hq⟩ := List.mem_flatMap.1 hm
    obtain ⟨a, b, d', c⟩ := hg.kidsIn hk
    have := reach_range ps (kid.toNat + 1) kid.toNat (by omega) false d' c _ hq
    omega
  · obtain ⟨kid, hk, hq⟩ := List.mem_flatMap.1 hq
    obtain ⟨a, b, d', c⟩ := hg.kidsIn hk
    exact reach_full ps (kid.toNat + 1) kid.toNat (by omega) d' c q hq
theorem rch_mem {ps : List Pv} {p q : Nat} (h : Rch ps p q) : ∀ (root : Bool) (d : Nat), Tr ps root p d → (q : Int) ∈ reachT ps p := by
  induction h with
  | refl p =>
    intro root d ht
    obtain ⟨g, hg⟩ := ht.pg
    rw [reach_split hg]; simp
  | @step p q g kid hgp hk _ ih =>
    intro root d ht
    obtain ⟨g', hg⟩ := ht.pg
    have e : g = g' := Option.some.inj (hgp.symm.trans hg.get)
    subst e
    obtain ⟨a, b, d', c⟩ := hg.kidsIn hk
    rw [reach_split hg]
    exact List.mem_cons_of_mem _ (List.mem_flatMap.2 ⟨kid, hk, ih false d' c⟩)
/-- The pages that are reached, in order. -/
def reachL (ps : List Pv) (p : Nat) : List Int := ((List.range ps.length).filter fun (i : Nat) => decide ((i : Int) ∈ reachT ps p)).map fun (i : Nat) => (i : Int)
theorem reach_sort {ps : List Pv} {p d : Nat} (h : GoodR ps p d) : ((reachT ps p).mergeSort fun x y => decide (x ≤ y)) = reachL ps p := by
  have hr := reach_range ps (p + 1) p (by omega) true d h.1
  have hlt := h.1.lt
  refine str_ext linI ?_ ?_ fun x => ?_
  · have h1 : ((reachT ps p).mergeSort fun x y => decide (x ≤ y)).Pairwise fun x y => decide (x ≤ y) = true := List.pairwise_mergeSort (fun a b c h1 h2 => by simp at *; omega) (fun a b => by simp; omega) _
    have h2 : ((reachT ps p).mergeSort fun x y => decide (x ≤ y)).Nodup := (List.mergeSort_perm _ _).nodup_iff.2 (reach_nodup h)
    refine (h1.and h2).imp fun {a b} ⟨h3, h4⟩ => ?_
    simp at h3 ⊢
    omega
  · unfold reachL
    refine List.pairwise_map.2 ((List.Pairwise.filter _ List.pairwise_lt_range).imp fun {a b} h => ?_)
    simp; omega
  · rw [List.mem_mergeSort]
    unfold reachL
    rw [List.mem_map]
    constructor
    · intro hx
      have := hr x hx
      refine ⟨x.toNat, List.mem_filter.2 ⟨List.mem_range.2 (by omega), ?_⟩, by omega⟩
      rw [decide_eq_true_eq, show ((x.toNat : Nat) : Int) = x by omega]
      exact hx
    · rintro ⟨i, hi, rfl⟩
      have := (List.mem_filter.1 hi).2
      simpa using this
theorem reach_len {ps : List Pv} {p d : Nat} (h : GoodR ps p d) : (reachT ps p).length ≤ ps.length := by
  have h1 := congrArg List.length (reach_sort h)
  rw [List.length_mergeSort] at h1
  rw [h1]
  unfold reachL
  rw [List.length_map]
  exact Nat.le_trans (List.length_filter_le _ _) (by simp)
theorem reachB_good {ps : List Pv} {roots : List Int} {v : Nat} (h : verB ps roots v = true) : ∃ r d, roots[v]? = some (r : Int) ∧ 0 ≤ r ∧ GoodR ps r.toNat d ∧ reachB ps roots v = reachL ps r.toNat := by
  obtain ⟨h1, hv0, hvl⟩ := verB_iff.1 h
  obtain ⟨r, hr⟩ : ∃ r, roots[v]? = some r := ⟨_, List.getElem?_eq_getElem (by omega)⟩
  obtain ⟨h0, d, hG⟩ := (checkP_iff.1 h1).2 r (List.mem_of_getElem? hr)
  refine ⟨r, d, hr, h0, hG, ?_⟩
  unfold reachB verZ
  rw [if_pos h, if_pos h, List.getD_eq_getElem?_getD, Int.toNat_natCast, hr]
  exact reach_sort hG
theorem reachB_len {ps : List Pv} {roots : List Int} {v : Int} : (reachB ps roots v).length ≤ ps.length := by
  cases hv : verB ps roots v with
  | false => unfold reachB; rw [hv]; simp
  | true =>
    obtain ⟨_, h0, _⟩ := verB_iff.1 hv
    obtain ⟨n, rfl⟩ : ∃ n : Nat, v = n := ⟨v.toNat, by omega⟩
    obtain ⟨r, d, _, _, hG, e⟩ := reachB_good hv
    rw [e]
    unfold reachL
    rw [List.length_map]
    exact Nat.le_trans (List.length_filter_le _ _) (by simp)
/-- What is new is reached, and stands last. -/
theorem reachL_tail {ps new : List Pv} {p : Nat} (h : ∀ q, ps.length ≤ q → q < (ps ++ new).length → (q : Int) ∈ reachT (ps ++ new) p) : new.length ≤ (reachL (ps ++ new) p).length ∧ ∀ i, i < new.length → (reachL (ps ++ new) p)[(reachL (ps ++ new) p).length - 1 - i]? = some (((ps ++ new).length : Int) - 1 - i) := by
  have e : reachL (ps ++ new) p = (((List.range ps.length).filter fun (i : Nat) => decide ((i : Int) ∈ reachT (ps ++ new) p)).map fun (i : Nat) => (i : Int)) ++ (List.range new.length).map fun (i : Nat) => ((ps.length + i : Nat) : Int) := by
    unfold reachL
    rw [List.length_append, List.range_add, List.filter_append, List.map_append]
    congr 1
    rw [List.filter_eq_self.2 ?_, List.map_map]
    · rfl
    · intro q hq
      obtain ⟨j, hj, rfl⟩ := List.mem_map.1 hq
      have := List.mem_range.1 hj
      rw [decide_eq_true_eq]
      exact h (ps.length + j) (by omega) (by rw [List.length_append]; omega)
  have hl : ((List.range new.length).map fun (i : Nat) => ((ps.length + i : Nat) : Int)).length = new.length := by rw [List.length_map, List.length_range]
  rw [e, List.length_append, hl]
  refine ⟨by omega, fun i hi => ?_⟩
  rw [List.getElem?_append_right (by omega), List.getElem?_map, List.getElem?_range (by omega)]
  simp only [Option.map_some, List.length_append]
  congr 1
  omega
end Go.Proofs.Ytpnfpdkoeednhaa
