/- FactsRead: the plain law. -/
import Derived.Test.YtoalmffhiinbbaaF36
import Derived.Test.YtoalmffhiinbbaaRelI
namespace Go.Proofs.Ytoalmffhiinbbaa
open Go.RowKit Go.Shelf

section
variable {l : List Fc} {k : Ky} {b a : Int}
def inSp (S : List (Int × Int)) (t : Int) : Prop := ∃ s ∈ S, s.1 ≤ t ∧ t < s.2
structure SpOk (l : List Fc) (k : Ky) (b a : Int) (n : Nat) (S : List (Int × Int)) : Prop where
  bd : ∀ s ∈ S, 0 ≤ s.1 ∧ s.1 < s.2 ∧ s.2 ≤ (n : Int)
  apart : S.Pairwise fun s s' => s.2 < s'.1
  sp : ∀ t : Nat, t < n → (inSp S t ↔ diffB l k b a t = true)
theorem joinT_cases (S : List (Int × Int)) (t : Int) : joinT S t = S ++ [(t, t + 1)] ∧ (∀ D x, S = D ++ [x] → x.2 ≠ t) ∨ ∃ D x, S = D ++ [x] ∧ x.2 = t ∧ joinT S t = D ++ [(x.1, t + 1)] := by
  rcases List.eq_nil_or_concat S with rfl | ⟨D, x, rfl⟩
  · exact .inl ⟨rfl, fun D x h => by simp at h⟩
  · simp only [List.concat_eq_append]
    unfold joinT
    simp only [List.getLast?_append, List.getLast?_singleton, Option.some_or, List.dropLast_concat]
    by_cases h : x.2 = t
    · exact .inr ⟨D, x, rfl, h, by simp [h]⟩
    · refine .inl ⟨by simp [h], fun D' x' e => ?_⟩
      have := List.append_inj' e rfl
      have h2 : x = x' := by simpa using this.2
      rw [← h2]; exact h
theorem spans_ok (n : Nat) : SpOk l k b a n (spansTo l k b a n) := by
  induction n with
  | zero => exact ⟨fun s h => by simp [spansTo] at h, List.Pairwise.nil, fun t h => by omega⟩
  | succ n ih =>
    obtain ⟨i1, i2, i3⟩ := ih
    rw [spansTo_step]
    generalize spansTo l k b a n = S at *
    cases hd : diffB l k b a n with
    | false =>
      rw [if_neg (by simp)]
      refine ⟨fun s hs => by have := i1 s hs; omega, i2, fun t ht => ?_⟩
      rcases Nat.lt_or_ge t n with h | h
      · exact i3 t h
      · obtain rfl : t = n := by omega
        rw [hd]
        simp only [Bool.false_eq_true, iff_false]
        rintro ⟨s, hs, h1, h2⟩
        have := i1 s hs
        omega
    | true =>
      rw [if_pos rfl]
      rcases joinT_cases S n with ⟨hj, hne⟩ | ⟨D, x, rfl, hx, hj⟩
      · rw [hj]
        have hlt : ∀ s ∈ S, s.2 < (n : Int) := by
          intro s hs
          rcases List.eq_nil_or_concat S with rfl | ⟨D, x, rfl⟩
          · cases hs
          · simp only [List.concat_eq_append] at *
            have hxn : x.2 ≠ (n : Int) := hne D x rfl
            have hxb := i1 x (by simp)
            rcases List.mem_append.1 hs with hs | hs
            · have := (List.pairwise_append.1 i2).2.2 s hs x (by simp)
              omega
            · simp at hs
              subst hs
              omega
        refine ⟨fun s hs => ?_, List.pairwise_append.2 ⟨i2, by simp, fun s hs s' hs' => ?_⟩, fun t ht => ?_⟩
        · rcases List.mem_append.1 hs with hs | hs
          · have := i1 s hs; omega
          · simp at hs; subst hs; simp; omega
        · simp at hs'; subst hs'; exact hlt s hs
        · rcases Nat.lt_or_ge t n with h | h
          · rw [← i3 t h]
            constructor
            · rintro ⟨s, hs, h1, h2⟩
              rcases List.mem_append.1 hs with hs | hs
              · exact ⟨s, hs, h1, h2⟩
              · simp at hs; subst hs; simp at h1; omega
            · rintro ⟨s, hs, h1, h2⟩; exact ⟨s, by simp [hs], h1, h2⟩
          · obtain rfl : t = n := by omega
            rw [hd]
            simp only [iff_true]
            exact ⟨((t : Int), (t : Int) + 1), by simp, by simp, by simp; omega⟩
      · rw [hj]
        have i2' := List.pairwise_append.1 i2
        have hxb := i1 x (by simp)
        refine ⟨fun s hs => ?_, List.pairwise_append.2 ⟨i2'.1, by simp, fun s hs s' hs' => ?_⟩, fun t ht => ?_⟩
        · rcases List.mem_append.1 hs with hs | hs
          · have := i1 s (by simp [hs]); omega
          · simp at hs; subst hs; simp; omega
        · simp at hs'; subst hs'; exact i2'.2.2 s hs x (by simp)
        · rcases Nat.lt_or_ge t n with h | h
          · rw [← i3 t h]
            constructor
            · rintro ⟨s, hs, h1, h2⟩
              rcases List.mem_append.1 hs with hs | hs
              · exact ⟨s, by simp [hs], h1, h2⟩
              · simp at hs; subst hs; exact ⟨x, by simp, h1, by omega⟩
            · rintro ⟨s, hs, h1, h2⟩
              rcases List.mem_append.1 hs with hs | hs
              · exact ⟨s, by simp [hs], h1, h2⟩
              · simp at hs; subst hs; exact ⟨(s.1, (n : Int) + 1), by simp, h1, by simp; omega⟩
          · obtain rfl : t = n := by omega
            rw [hd]
            simp only [iff_true]
            exact ⟨(x.1, (t : Int) + 1), by simp, by simp; omega, by simp; omega⟩

/-- Points are alike exactly if all terms are. -/
theorem pointsTo_lt {k : Ky} {a z known : Int} {p : Int × Int} (h : p ∈ pointsTo l k a z known) : p.1 < z := by
  rw [pointsTo_eq] at h
  obtain ⟨n, hn, hp⟩ := List.mem_flatMap.1 h
  have := List.mem_range.1 hn
  unfold ptAt at hp
  split at hp
  · simp at hp; subst hp; simp; omega
  · cases hp
theorem pointsTo_alike (k : Ky) (x y c : Int) (n : Nat) : pointsTo l k c (c + n) x = pointsTo l k c (c + n) y ↔ ∀ t, c ≤ t → t < c + n → atF l k t x = atF l k t y := by
  induction n with
  | zero =>
    rw [pointsTo_start _ _ _ _ _ (by simp), pointsTo_start _ _ _ _ _ (by simp)]
    simp only [true_iff]
    intro t h1 h2
    simp at h2
    omega
  | succ n ih =>
    rw [show c + ((n + 1 : Nat) : Int) = (c + n) + 1 by omega, pointsTo_step _ _ _ _ _ (by omega), pointsTo_step _ _ _ _ _ (by omega)]
    constructor
    · intro h
      have key : pointsTo l k c (c + n) x = pointsTo l k c (c + n) y ∧ ptAt l k (c + n) x = ptAt l k (c + n) y := by
        rcases hx : atF l k (c + n) x with _ | v <;> rcases hy : atF l k (c + n) y with _ | u
        · rw [ptAt_no hx, ptAt_no hy] at *; simpa using h
        · rw [ptAt_no hx, ptAt_yes hy] at h
          rw [List.append_nil] at h
          have : ((c + n, u) : Int × Int) ∈ pointsTo l k c (c + n) x := by rw [h]; simp
          have := pointsTo_lt this
          simp at this
        · rw [ptAt_yes hx, ptAt_no hy] at h
          rw [List.append_nil] at h
          have : ((c + n, v) : Int × Int) ∈ pointsTo l k c (c + n) y := by rw [← h]; simp
          have := pointsTo_lt this
          simp at this
        · rw [ptAt_yes hx, ptAt_yes hy] at *
          exact List.append_inj' h rfl
      intro t h1 h2
      rcases Int.lt_or_le t (c + n) with h3 | h3
      · exact ih.1 key.1 t h1 h3
      · obtain rfl : t = c + n := by omega
        have h4 := key.2
        unfold ptAt at h4
        cases hx : atF l k (c + n) x <;> cases hy : atF l k (c + n) y <;> simp [hx, hy] at h4 ⊢
        exact h4
    · intro h
      rw [ih.2 fun t h1 h2 => h t h1 (by omega)]
      unfold ptAt
      rw [h (c + n) (by omega) (by omega)]
theorem pointsF_alike (k : Ky) (f t x y : Int) : pointsF l k f t x = pointsF l k f t y ↔ ∀ z, max 0 f ≤ z → z < min t 1024 → atF l k z x = atF l k z y := by
  unfold pointsF
  rcases Int.lt_or_le (max 0 f) (min t 1024) with h | h
  · obtain ⟨n, hn⟩ : ∃ n : Nat, min t 1024 = max 0 f + n := ⟨(min t 1024 - max 0 f).toNat, by omega⟩
    rw [hn]
    exact pointsTo_alike k x y _ n
  · rw [pointsTo_start _ _ _ _ _ h, pointsTo_start _ _ _ _ _ h]
    simp only [true_iff]
    intro z h1 h2
    omega

/-- Does a change touch the read? -/
def touchS (r : Rd) (key : Ky) (s : Int × Int) : Bool := decide (key = r.1) && decide (max r.2.1 s.1 < min r.2.2 s.2)
def touchC (r : Rd) (ch : Ch) : Bool := ch.2.any (touchS r ch.1)
theorem changed_mem {k : Ky} {S : List (Int × Int)} : (k, S) ∈ changedF l b a ↔ k ∈ keysF l ∧ spansF l k b a = S ∧ S ≠ [] := by
  unfold changedF
  rw [List.mem_flatMap]
  constructor
  · rintro ⟨k', hk, h⟩
    by_cases he : spansF l k' b a = []
    · rw [changeOf_no he] at h; cases h
    · rw [changeOf_yes he, List.mem_singleton, Prod.mk.injEq] at h
      obtain ⟨rfl, hS⟩ := h
      exact ⟨hk, hS.symm, by rw [hS]; exact he⟩
  · rintro ⟨h1, h2, h3⟩
    refine ⟨k, h1, ?_⟩
    rw [changeOf_yes (by rw [h2]; exact h3), h2]
    exact List.mem_singleton.2 rfl
theorem diff_iff (t : Int) : diffB l k b a t = true ↔ atF l k t b ≠ atF l k t a := by simp [diffB]
theorem read_law (l : List Fc) (r : Rd) (b a : Int) : alikeF l [r] b a = !(changedF l b a).any (touchC r) := by
  have h1 : alikeF l [r] b a = decide (pointsF l r.1 r.2.1 r.2.2 b = pointsF l r.1 r.2.1 r.2.2 a) := by simp [alikeF]
  rw [h1]
  have key : (changedF l b a).any (touchC r) = true ↔ ¬ pointsF l r.1 r.2.1 r.2.2 b = pointsF l r.1 r.2.1 r.2.2 a := by
    rw [pointsF_alike, List.any_eq_true]
    constructor
    · rintro ⟨⟨kk, S⟩, hch, ht⟩ hall
      obtain ⟨h2, h3, _⟩ := changed_mem.1 hch
      unfold touchC at ht
      rw [List.any_eq_true] at ht
      obtain ⟨s, hs, hts⟩ := ht
      have hs : s ∈ S := hs
      unfold touchS at hts
      simp only [Bool.and_eq_true, decide_eq_true_eq] at hts
      obtain ⟨hk, hm⟩ := hts
      have hk : kk = r.1 := hk
      have ok := spans_ok (l := l) (k := r.1) (b := b) (a := a) 1024
      have h3' : spansTo l r.1 b a 1024 = S := by rw [← h3, spansF, hk]
      rw [h3'] at ok
      have hbd := ok.bd s hs
      obtain ⟨n, hn⟩ : ∃ n : Nat, max r.2.1 s.1 = n := ⟨(max r.2.1 s.1).toNat, by omega⟩
      have hd := (ok.sp n (by omega)).1 ⟨s, hs, by omega, by omega⟩
      rw [diff_iff] at hd
      exact hd (hall n (by omega) (by omega))
    · intro hn
      obtain ⟨z, hz⟩ := Classical.not_forall.1 hn
      obtain ⟨hz1, hz⟩ := Classical.not_imp.1 hz
      obtain ⟨hz2, hz⟩ := Classical.not_imp.1 hz
      obtain ⟨n, rfl⟩ : ∃ n : Nat, z = n := ⟨z.toNat, by omega⟩
      have ok := spans_ok (l := l) (k := r.1) (b := b) (a := a) 1024
      obtain ⟨s, hs, h2, h3⟩ := (ok.sp n (by omega)).2 ((diff_iff _).2 hz)
      have hkey : r.1 ∈ keysF l := by
        rcases Classical.em (r.1 ∈ keysF l) with h | h
        · exact h
        · exfalso
          apply hz
          rw [atF, atF, ofF_none h, ofF_none h]
      obtain ⟨S, hS⟩ : ∃ S, spansF l r.1 b a = S := ⟨_, rfl⟩
      have hs' : s ∈ S := by rw [← hS, spansF]; exact hs
      refine ⟨(r.1, S), changed_mem.2 ⟨hkey, hS, ?_⟩, ?_⟩
      · rintro rfl
        cases hs'
      · unfold touchC
        rw [List.any_eq_true]
        refine ⟨s, hs', ?_⟩
        unfold touchS
        simp only [Bool.and_eq_true, decide_eq_true_eq]
        exact ⟨trivial, by omega⟩
  cases h : (changedF l b a).any (touchC r) with
  | true => rw [decide_eq_false (key.1 h)]; rfl
  | false =>
    rw [decide_eq_true]
    · rfl
    · rcases Classical.em (pointsF l r.1 r.2.1 r.2.2 b = pointsF l r.1 r.2.1 r.2.2 a) with h2 | h2
      · exact h2
      · rw [key.2 h2] at h; cases h
/-- Each span of a change is in order, apart from the one before, and differs. -/
theorem change_ok {kk : Ky} {S : List (Int × Int)} (h : (kk, S) ∈ changedF l b a) {j : Nat} {s : Int × Int} (hs : S[j]? = some s) : 0 ≤ s.1 ∧ s.1 < s.2 ∧ s.2 ≤ 1024 ∧ atF l kk s.1 b ≠ atF l kk s.1 a ∧ ∀ p, 0 < j → S[j - 1]? = some p → p.2 < s.1 := by
  obtain ⟨h2, h3, _⟩ := changed_mem.1 h
  have ok := spans_ok (l := l) (k := kk) (b := b) (a := a) 1024
  have h3' : spansTo l kk b a 1024 = S := by rw [← h3, spansF]
  rw [h3'] at ok
  clear h3 h3'
  have hm : s ∈ S := List.mem_of_getElem? hs
  have hbd := ok.bd s hm
  refine ⟨hbd.1, hbd.2.1, by omega, ?_, fun p hj hp => ?_⟩
  · obtain ⟨n, hn⟩ : ∃ n : Nat, s.1 = n := ⟨s.1.toNat, by omega⟩
    rw [hn]
    exact (diff_iff _).1 ((ok.sp n (by omega)).1 ⟨s, hm, by omega, by omega⟩)
  · obtain ⟨e1, e2⟩ := List.getElem?_eq_some_iff.1 hp
    obtain ⟨e3, e4⟩ := List.getElem?_eq_some_iff.1 hs
    have := List.pairwise_iff_getElem.1 ok.apart (j - 1) j e1 e3 (by omega)
    rw [e2, e4] at this
    exact this
end
end Go.Proofs.Ytoalmffhiinbbaa
