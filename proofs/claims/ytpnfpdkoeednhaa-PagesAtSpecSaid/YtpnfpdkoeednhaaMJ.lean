/- Several texts in one: AP10 AP11 AP12 AP13. -/
import Derived.Test.YtpnfpdkoeednhaaML
import Derived.Test.YtpnfpdkoeednhaaMI
section
/- PagesKept, plainly. -/
namespace Go.Proofs.Ytpnfpdkoeednhaa
open Go.RowKit

theorem verB_iff {ps : List Pv} {roots : List Int} {v : Int} : verB ps roots v = true ↔ checkP ps roots = true ∧ 0 ≤ v ∧ v < roots.length := by
  unfold verB
  simp
theorem allB_get {ps : List Pv} {roots : List Int} {v : Nat} {r : Int} (h : verB ps roots v = true) (hr : roots[v]? = some r) : allB ps roots v = allT ps r.toNat := by
  unfold allB verZ
  rw [if_pos h, if_pos h, List.getD_eq_getElem?_getD, Int.toNat_natCast, hr]
  rfl
/-- What Put makes of pages, where it does. -/
abbrev putPs (ps : List Pv) (roots : List Int) (f : Fc) : List Pv := (putW ps (lastR roots) f).1
abbrev putRs (ps : List Pv) (roots : List Int) (f : Fc) : List Int := roots ++ [((putW ps (lastR roots) f).2 : Int)]
theorem last_good {ps : List Pv} {roots : List Int} (h : checkP ps roots = true) : ∃ d, GoodR ps (lastR roots) d ∧ roots.length ≠ 0 ∧ ∃ r : Int, roots[roots.length - 1]? = some r ∧ lastR roots = r.toNat := by
  obtain ⟨hne, hall⟩ := checkP_iff.1 h
  obtain ⟨r, hr⟩ : ∃ r, roots.getLast? = some r := by
    cases hl : roots.getLast? with
    | some r => exact ⟨r, rfl⟩
    | none => rw [List.getLast?_eq_none_iff] at hl; exact absurd hl hne
  have hlr : lastR roots = r.toNat := by unfold lastR; rw [hr]; rfl
  obtain ⟨_, d, hG⟩ := hall r (List.mem_of_getLast? hr)
  rw [List.getLast?_eq_getElem?] at hr
  exact ⟨d, hlr ▸ hG, fun e => hne (List.length_eq_zero_iff.1 e), r, hr, hlr⟩
theorem kept_beg {ps : List Pv} {roots : List Int} {f : Fc} (h : putE ps roots f = 0) : begB ps (putPs ps roots f) roots (putRs ps roots f) = true := by
  obtain ⟨h1, h2, h3⟩ := putE_zero.1 h
  obtain ⟨d, hG, _⟩ := last_good h1
  obtain ⟨new, d', e, _⟩ := put_lawD hG h2 h3
  refine decide_eq_true ⟨?_, ?_⟩
  · show (putW ps (lastR roots) f).1.take ps.length = ps
    rw [e, List.take_left]
  · exact List.take_left
theorem kept_all {ps : List Pv} {roots : List Int} {f : Fc} (h : putE ps roots f = 0) {v : Int} (hv : verB ps roots v = true) :
    verB (putPs ps roots f) (putRs ps roots f) v = true ∧ allB (putPs ps roots f) (putRs ps roots f) v = allB ps roots v := by
  obtain ⟨h1, h2, h3⟩ := putE_zero.1 h
  obtain ⟨d, hG, _⟩ := last_good h1
  obtain ⟨new, d', e, _⟩ := put_lawD hG h2 h3
  obtain ⟨_, hv0, hvl⟩ := verB_iff.1 hv
  have hv' : verB (putPs ps roots f) (putRs ps roots f) v = true := verB_iff.2 ⟨put_check h, hv0, by rw [List.length_append]; omega⟩
  obtain ⟨n, rfl⟩ : ∃ n : Nat, v = n := ⟨v.toNat, by omega⟩
  obtain ⟨r, hr⟩ : ∃ r, roots[n]? = some r := ⟨_, List.getElem?_eq_getElem (by omega)⟩
  have hr' : (putRs ps roots f)[n]? = some r := by rw [List.getElem?_append_left (by omega)]; exact hr
  refine ⟨hv', ?_⟩
  rw [allB_get hv' hr', allB_get hv hr]
  obtain ⟨_, d4, hG4⟩ := (checkP_iff.1 h1).2 r (List.mem_of_getElem? hr)
  show allT (putW ps (lastR roots) f).1 r.toNat = _
  rw [e, allT_app hG4.1.lt]
theorem kept_last {ps : List Pv} {roots : List Int} {f : Fc} (h : putE ps roots f = 0) :
    verB ps roots ((roots.length - 1 : Nat) : Int) = true ∧ verB (putPs ps roots f) (putRs ps roots f) (roots.length : Nat) = true ∧
    InsR f (allB ps roots ((roots.length - 1 : Nat) : Int)) (allB (putPs ps roots f) (putRs ps roots f) (roots.length : Nat)) ∧ Comp f (allB ps roots ((roots.length - 1 : Nat) : Int)) := by
  obtain ⟨h1, h2, h3⟩ := putE_zero.1 h
  obtain ⟨d, hG, hne, r, hr, hlr⟩ := last_good h1
  obtain ⟨new, d', e, _, _, _, _, hI, _⟩ := put_lawD hG h2 h3
  have a1 : verB ps roots ((roots.length - 1 : Nat) : Int) = true := verB_iff.2 ⟨h1, by omega, by omega⟩
  have a2 : verB (putPs ps roots f) (putRs ps roots f) (roots.length : Nat) = true := verB_iff.2 ⟨put_check h, by omega, by rw [List.length_append, List.length_singleton]; omega⟩
  have e1 := allB_get a1 hr
  have e2 := allB_get (r := ((putW ps (lastR roots) f).2 : Int)) a2 (by rw [List.getElem?_append_right (Nat.le_refl _), Nat.sub_self]; rfl)
  rw [Int.toNat_natCast] at e2
  rw [← hlr] at e1
  refine ⟨a1, a2, ?_, ?_⟩
  · rw [e1, e2]; exact hI
  · rw [e1]; exact h3
theorem kept_twice {ps : List Pv} {roots : List Int} {f : Fc} (h : putE ps roots f = 0) : putE (putPs ps roots f) (putRs ps roots f) f = 470 := by
  obtain ⟨h1, h2, h3⟩ := putE_zero.1 h
  obtain ⟨d, hG, _⟩ := last_good h1
  obtain ⟨new, d', e, _, _, _, _, hI, _⟩ := put_lawD hG h2 h3
  have hm : f ∈ allT (putPs ps roots f) (lastR (putRs ps roots f)) := by
    rw [show lastR (putRs ps roots f) = (putW ps (lastR roots) f).2 from lastR_snoc _ _]
    exact (hI.mem f).2 (.inl rfl)
  have hc : compB f (allT (putPs ps roots f) (lastR (putRs ps roots f))) = false := by
    rw [Bool.eq_false_iff]; intro hc
    rcases compB_iff.1 hc f hm with h | h <;> · rw [ltP_irr] at h; cases h
  unfold putE
  rw [if_pos (put_check h), checkF_1, if_pos h2, if_pos rfl, hc]
  rfl
end Go.Proofs.Ytpnfpdkoeednhaa

end
section
/- PagesKept's loop, plainly: a list and the same list with one fact more. -/
namespace Go.Proofs.Ytpnfpdkoeednhaa
open Go.RowKit

theorem comp_not_mem {f : Fc} {l : List Fc} (h : Comp f l) : f ∉ l := fun hm => by
  rcases h f hm with h | h <;> · rw [ltP_irr] at h; cases h
theorem insR_step {f : Fc} {l m : List Fc} (h : InsR f l m) (hc : Comp f l) : ∃ a, a ≤ l.length ∧ m.length = l.length + 1 ∧ (∀ k, k < a → m[k]? = l[k]?) ∧ m[a]? = some f ∧ f ∉ l ∧ ∀ k, a < k → m[k]? = l[k - 1]? := by
  have hn := comp_not_mem hc
  have hlen := h.len
  obtain ⟨a, b, rfl, rfl, _, _⟩ := h
  refine ⟨a.length, by simp, hlen, fun k hk => ?_, ?_, hn, fun k hk => ?_⟩
  · rw [List.getElem?_append_left hk, List.getElem?_append_left hk]
  · rw [List.getElem?_append_right (Nat.le_refl _), Nat.sub_self]; rfl
  · rw [List.getElem?_append_right (by omega), List.getElem?_append_right (by omega)]
    obtain ⟨j, rfl⟩ : ∃ j, k = a.length + 1 + j := ⟨k - (a.length + 1), by omega⟩
    rw [show a.length + 1 + j - a.length = j + 1 by omega, show a.length + 1 + j - 1 - a.length = j by omega, List.getElem?_cons_succ]
/-- How far the loop is in the shorter list, and whether it has met the fact. -/
def nK (a k : Nat) : Nat := if k ≤ a then k else k - 1
def mK (a k : Nat) : Bool := decide (a < k)
theorem nK_zero (a : Nat) : nK a 0 = 0 ∧ mK a 0 = false := ⟨by simp [nK], by simp [mK]⟩
theorem nK_lt {a k : Nat} (h : k < a) : nK a k = k ∧ mK a k = false ∧ nK a (k + 1) = k + 1 ∧ mK a (k + 1) = false := by
  refine ⟨?_, ?_, ?_, ?_⟩
  · unfold nK; rw [if_pos (by omega)]
  · unfold mK; exact decide_eq_false (by omega)
  · unfold nK; rw [if_pos (by omega)]
  · unfold mK; exact decide_eq_false (by omega)
theorem nK_at (a : Nat) : nK a a = a ∧ mK a a = false ∧ nK a (a + 1) = a ∧ mK a (a + 1) = true := by
  refine ⟨?_, ?_, ?_, ?_⟩
  · unfold nK; rw [if_pos (Nat.le_refl _)]
  · unfold mK; exact decide_eq_false (by omega)
  · unfold nK; rw [if_neg (by omega)]; omega
  · unfold mK; exact decide_eq_true (by omega)
theorem nK_gt {a k : Nat} (h : a < k) : nK a k = k - 1 ∧ mK a k = true ∧ nK a (k + 1) = k - 1 + 1 ∧ mK a (k + 1) = true := by
  refine ⟨?_, ?_, ?_, ?_⟩
  · unfold nK; rw [if_neg (by omega)]
  · unfold mK; exact decide_eq_true h
  · unfold nK; rw [if_neg (by omega)]; omega
  · unfold mK; exact decide_eq_true (by omega)
end Go.Proofs.Ytpnfpdkoeednhaa

end
section
/- PagesSorted, plainly. -/
namespace Go.Proofs.Ytpnfpdkoeednhaa
open Go.RowKit

theorem allB_good {ps : List Pv} {roots : List Int} {v : Int} (h : verB ps roots v = true) : (∀ f ∈ allB ps roots v, f.ok = true) ∧ StrP (allB ps roots v) := by
  obtain ⟨h1, hv0, hvl⟩ := verB_iff.1 h
  obtain ⟨n, rfl⟩ : ∃ n : Nat, v = n := ⟨v.toNat, by omega⟩
  obtain ⟨r, hr⟩ : ∃ r, roots[n]? = some r := ⟨_, List.getElem?_eq_getElem (by omega)⟩
  rw [allB_get h hr]
  obtain ⟨_, d, hG⟩ := (checkP_iff.1 h1).2 r (List.mem_of_getElem? hr)
  exact ⟨hG.2.1, hG.2.2⟩
theorem str_any {l : List Fc} (hs : StrP l) {a b : Fc} (ha : a ∈ l) (hb : b ∈ l) : a = b ∨ ltP a b = true ∨ ltP b a = true := by
  obtain ⟨i, hi, rfl⟩ := List.mem_iff_getElem.1 ha
  obtain ⟨j, hj, rfl⟩ := List.mem_iff_getElem.1 hb
  rcases Nat.lt_trichotomy i j with h | h | h
  · exact .inr (.inl (List.pairwise_iff_getElem.1 hs i j hi hj h))
  · subst h; exact .inl rfl
  · exact .inr (.inr (List.pairwise_iff_getElem.1 hs j i hj hi h))
theorem lt_bef {a b : Fc} (hk : a.key = b.key) (h : ltP a b = true) : a.bef b = true := by
  rw [ltP_iff, hk] at h
  rw [bef_iff]
  omega
theorem ofF_mem {l : List Fc} {k : Ky} {known : Int} {f : Fc} : f ∈ ofF l k known ↔ f ∈ l ∧ f.key = k ∧ f.known ≤ known := by
  unfold ofF
  rw [List.mem_filter]
  simp
/-- A fact is found at the term in which it begins, unless another one that is known by then is later. -/
theorem sorted_at {l : List Fc} (hs : StrP l) (ho : ∀ f ∈ l, f.ok = true) {x : Fc} (hx : x ∈ l) (hl : ∀ y ∈ l, y.key = x.key → y.known = x.known → ¬ x.no < y.no) :
    atF l x.key x.fr x.known = if x.val < 0 then none else some x.val := by
  have hT : TotF (ofF l x.key x.known) := fun a ha b hb => by
    obtain ⟨a1, a2, _⟩ := ofF_mem.1 ha
    obtain ⟨b1, b2, _⟩ := ofF_mem.1 hb
    rcases str_any hs a1 b1 with h | h | h
    · exact .inl h
    · exact .inr (.inl (lt_bef (a2.trans b2.symm) h))
    · exact .inr (.inr (lt_bef (b2.trans a2.symm) h))
  have hB := bestF_is x.fr _ hT
  have hxo : x ∈ ofF l x.key x.known := ofF_mem.2 ⟨hx, rfl, Int.le_refl _⟩
  have hxa : x.at x.fr = true := by
    have := ho x hx
    simp [Fc.ok] at this
    simp [Fc.at]
    omega
  unfold atF
  cases hb : bestF (ofF l x.key x.known) x.fr with
  | none =>
    rw [hb] at hB
    have := hB x hxo
    rw [hxa] at this; cases this
  | some f =>
    rw [hb] at hB
    obtain ⟨f1, f2, f3⟩ := hB
    obtain ⟨g1, g2, g3⟩ := ofF_mem.1 f1
    rcases f3 x hxo hxa with h | h
    · rw [h]
    · exfalso
      rw [bef_iff] at h
      rcases h with h | ⟨h, h'⟩
      · omega
      · exact hl f g1 g2 h.symm h'
theorem str_next {l : List Fc} (hs : StrP l) {i : Nat} {a b : Fc} (ha : l[i]? = some a) (hb : l[i + 1]? = some b) : ltP a b = true := by
  obtain ⟨h1, e1⟩ := List.getElem?_eq_some_iff.1 ha
  obtain ⟨h2, e2⟩ := List.getElem?_eq_some_iff.1 hb
  rw [← e1, ← e2]
  exact List.pairwise_iff_getElem.1 hs i (i + 1) h1 h2 (by omega)
end Go.Proofs.Ytpnfpdkoeednhaa

end
section
/- Pages, plainly: how many facts a version shows. -/
namespace Go.Proofs.Ytpnfpdkoeednhaa
open Go.RowKit

theorem nodup_sub_len {α : Type} : ∀ {l m : List α}, l.Nodup → (∀ x ∈ l, x ∈ m) → l.length ≤ m.length
  | [], m, _, _ => by simp
  | a :: l, m, hn, hs => by
    obtain ⟨m1, m2, rfl⟩ := List.append_of_mem (hs a (by simp))
    have hn' := List.nodup_cons.1 hn
    have h := nodup_sub_len (l := l) (m := m1 ++ m2) hn'.2 fun x hx => by
      have h1 := hs x (List.mem_cons_of_mem _ hx)
      rw [List.mem_append, List.mem_cons] at h1
      rw [List.mem_append]
      rcases h1 with h | h | h
      · exact .inl h
      · subst h; exact absurd hx hn'.1
      · exact .inr h
    rw [List.length_append] at h
    rw [List.length_append, List.length_cons, List.length_cons]
    omega
theorem str_nodup {l : List Fc} (h : StrP l) : l.Nodup := h.imp fun {a b} hab e => by subst e; rw [ltP_irr] at hab; cases hab
theorem allG_mem (ps : List Pv) : ∀ (n p : Nat) (x : Fc), x ∈ allG ps n p → x ∈ ps.flatMap (·.facts)
  | 0, _, _, h => by simp [allG] at h
  | n + 1, p, x, h => by
    unfold allG at h
    split at h
    · cases h
    · rename_i g hg
      obtain ⟨i, _, h⟩ := List.mem_flatMap.1 h
      rw [List.mem_append] at h
      rcases h with h | h
      · split at h
        · cases h
        · split at h
          · exact allG_mem ps n _ x h
          · cases h
      · rw [Option.mem_toList] at h
        exact List.mem_flatMap.2 ⟨g, List.mem_of_getElem? hg, List.mem_of_getElem? h⟩
theorem fewG_len : ∀ {ps : List Pv}, fewG ps = true → (ps.flatMap (·.facts)).length ≤ 8 * ps.length
  | [], _ => by simp
  | g :: ps, h => by
    have h1 : (decide (g.facts.length ≤ 8) && decide (g.kids.length ≤ 8)) = true ∧ fewG ps = true := by
      unfold fewG at h ⊢
      rw [List.all_cons, Bool.and_eq_true] at h
      exact h
    have h2 := fewG_len h1.2
    have h3 : g.facts.length ≤ 8 := by
      have := h1.1
      simp at this
      exact this.1
    rw [List.flatMap_cons, List.length_append, List.length_cons]
    omega
theorem few_parts {ps : List Pv} {roots : List Int} (hf : fewP ps roots = true) : fewG ps = true ∧ ps.length ≤ 200 ∧ roots.length ≤ 60 := by
  unfold fewP at hf
  simpa using hf
/-- A version of few pages shows few facts. -/
theorem allB_len {ps : List Pv} {roots : List Int} (hf : fewP ps roots = true) (v : Int) : (allB ps roots v).length ≤ 1600 := by
  obtain ⟨h1, h2, _⟩ := few_parts hf
  cases hv : verB ps roots v with
  | false => unfold allB; rw [hv]; simp
  | true =>
    have h3 := nodup_sub_len (str_nodup (allB_good hv).2) (m := ps.flatMap (·.facts)) fun x hx => by
      unfold allB at hx
      rw [if_pos hv] at hx
      exact allG_mem ps _ _ x hx
    have h4 := fewG_len h1
    omega
/-- And one more behind Put. -/
theorem allB_len_put {ps : List Pv} {roots : List Int} {f : Fc} (hf : fewP ps roots = true) (h : putE ps roots f = 0) (v : Int) : (allB (putPs ps roots f) (putRs ps roots f) v).length ≤ 1601 := by
  cases hv : verB (putPs ps roots f) (putRs ps roots f) v with
  | false => unfold allB; rw [hv]; simp
  | true =>
    obtain ⟨_, h0, h1⟩ := verB_iff.1 hv
    rw [List.length_append, List.length_singleton] at h1
    rcases Int.lt_or_le v roots.length with h2 | h2
    · have hv' : verB ps roots v = true := verB_iff.2 ⟨(putE_zero.1 h).1, h0, h2⟩
      rw [(kept_all h hv').2]
      have := allB_len hf v
      omega
    · obtain rfl : v = (roots.length : Nat) := by omega
      rw [(kept_last h).2.2.1.len]
      have := allB_len hf ((roots.length - 1 : Nat) : Int)
      omega
end Go.Proofs.Ytpnfpdkoeednhaa

end
