/- Lists in strict order: a value laid in once, neighbours alike struck out. Plain. -/
import Derived.Test.YtbmbpannhncpjaaDoorCore
namespace Go.Proofs.YtbmbpannhncpjaaDoor

section ord
variable {α : Type} (lt : α → α → Bool)
structure Lin : Prop where
  irr : ∀ a, lt a a = false
  tr : ∀ a b c, lt a b = true → lt b c = true → lt a c = true
  tri : ∀ a b, lt a b = true ∨ a = b ∨ lt b a = true
variable {lt} in
theorem Lin.asymm (h : Lin lt) {a b : α} (h1 : lt a b = true) : lt b a = false := by
  rcases hb : lt b a with _ | _
  · rfl
  · have := h.tr _ _ _ h1 hb
    rw [h.irr] at this; cases this
variable [DecidableEq α]
def ins (x : α) : List α → List α
  | [] => [x]
  | y :: l => if lt y x = true then y :: ins x l else if y = x then y :: l else x :: y :: l
def Str (l : List α) : Prop := l.Pairwise fun x y => lt x y = true
def ordOf (l : List α) : List α := l.foldl (fun s x => ins lt x s) []
variable {lt}
theorem ins_mem (k : α) : ∀ (ks : List α) (x : α), x ∈ ins lt k ks ↔ x = k ∨ x ∈ ks
  | [], x => by simp [ins]
  | y :: l, x => by
    unfold ins
    split
    · rw [List.mem_cons, ins_mem k l x, List.mem_cons]
      constructor
      · rintro (h | h | h)
        · exact .inr (.inl h)
        · exact .inl h
        · exact .inr (.inr h)
      · rintro (h | h | h)
        · exact .inr (.inl h)
        · exact .inl h
        · exact .inr (.inr h)
    · split
      · rename_i _ h
        subst h
        simp
      · simp
theorem ins_str (hl : Lin lt) (k : α) : ∀ (ks : List α), Str lt ks → Str lt (ins lt k ks)
  | [], _ => by simp [ins, Str]
  | y :: l, h => by
    obtain ⟨h1, h2⟩ := List.pairwise_cons.1 h
    unfold ins
    split
    · rename_i hyk
      refine List.pairwise_cons.2 ⟨fun z hz => ?_, ins_str hl k l h2⟩
      rcases (ins_mem k l z).1 hz with rfl | hz
      · exact hyk
      · exact h1 z hz
    · rename_i hyk
      split
      · exact h
      · rename_i hne
        have hky : lt k y = true := by
          rcases hl.tri k y with h' | h' | h'
          · exact h'
          · exact absurd h'.symm hne
          · exact absurd h' hyk
        refine List.pairwise_cons.2 ⟨fun z hz => ?_, h⟩
        rcases List.mem_cons.1 hz with rfl | hz
        · exact hky
        · exact hl.tr _ _ _ hky (h1 z hz)
theorem ins_at (x : α) : ∀ (l : List α) (k : Nat), (∀ j y, j < k → l[j]? = some y → lt y x = true) → (∀ y, l[k]? = some y → lt y x = false) → k ≤ l.length →
    ins lt x l = if l[k]? = some x then l else l.take k ++ x :: l.drop k
  | [], k, _, _, hk => by
    obtain rfl : k = 0 := by simpa using hk
    simp [ins]
  | y :: l, 0, _, h2, _ => by
    have := h2 y rfl
    unfold ins
    rw [this]
    by_cases h : y = x <;> simp [h]
  | y :: l, k + 1, h1, h2, hk => by
    have h := h1 0 y (by omega) rfl
    unfold ins
    rw [if_pos h, ins_at x l k (fun j z hj hz => h1 (j + 1) z (by omega) (by simpa using hz)) (fun z hz => h2 z (by simpa using hz)) (by simpa using hk)]
    simp only [List.getElem?_cons_succ]
    split <;> simp
theorem ordOf_mem (l : List α) (x : α) : x ∈ ordOf lt l ↔ x ∈ l := by
  have : ∀ (l a : List α), x ∈ l.foldl (fun s y => ins lt y s) a ↔ x ∈ a ∨ x ∈ l := by
    intro l
    induction l with
    | nil => simp
    | cons y l ih =>
      intro a
      simp only [List.foldl_cons, ih, ins_mem, List.mem_cons]
      constructor
      · rintro ((h | h) | h)
        · exact .inr (.inl h)
        · exact .inl h
        · exact .inr (.inr h)
      · rintro (h | h | h)
        · exact .inl (.inr h)
        · exact .inl (.inl h)
        · exact .inr h
  simpa [ordOf] using this l []
theorem ordOf_str (hl : Lin lt) (l : List α) : Str lt (ordOf lt l) := by
  have : ∀ (l a : List α), Str lt a → Str lt (l.foldl (fun s y => ins lt y s) a) := by
    intro l
    induction l with
    | nil => intro a h; exact h
    | cons y l ih => intro a h; exact ih _ (ins_str hl _ _ h)
  exact this l [] List.Pairwise.nil
theorem ordOf_snoc (l : List α) (x : α) : ordOf lt (l ++ [x]) = ins lt x (ordOf lt l) := by simp [ordOf]
theorem ordOf_nil : ordOf lt ([] : List α) = [] := rfl
theorem ins_len (k : α) : ∀ l : List α, (ins lt k l).length ≤ l.length + 1
  | [] => by simp [ins]
  | y :: l => by
    have := ins_len k l
    unfold ins
    split
    · simp; omega
    · split <;> simp
theorem ordOf_len (l : List α) : (ordOf lt l).length ≤ l.length := by
  have : ∀ (l a : List α), (l.foldl (fun s y => ins lt y s) a).length ≤ a.length + l.length := by
    intro l
    induction l with
    | nil => simp
    | cons y l ih =>
      intro a
      have h1 := ih (ins lt y a)
      have h2 := ins_len (lt := lt) y a
      simp only [List.foldl_cons, List.length_cons]
      omega
  have := this l []
  simpa [ordOf] using this
omit [DecidableEq α] in
theorem str_ext (hl : Lin lt) {a b : List α} (ha : Str lt a) (hb : Str lt b) (hm : ∀ x, x ∈ a ↔ x ∈ b) : a = b := by
  have na : a.Nodup := ha.imp fun {x y} h => by rintro rfl; rw [hl.irr] at h; cases h
  have nb : b.Nodup := hb.imp fun {x y} h => by rintro rfl; rw [hl.irr] at h; cases h
  refine List.Perm.eq_of_pairwise (le := fun x y => lt x y = true) (fun x y _ _ h1 h2 => ?_) ha hb ((List.perm_ext_iff_of_nodup na nb).2 hm)
  rw [hl.asymm h1] at h2; cases h2
theorem ordOf_of_str (hl : Lin lt) {a : List α} (ha : Str lt a) : ordOf lt a = a := str_ext hl (ordOf_str hl a) ha fun x => ordOf_mem a x
theorem ordOf_congr (hl : Lin lt) {a b : List α} (h : ∀ x, x ∈ a ↔ x ∈ b) : ordOf lt a = ordOf lt b :=
  str_ext hl (ordOf_str hl a) (ordOf_str hl b) fun x => by rw [ordOf_mem, ordOf_mem]; exact h x

/-- Neighbours alike struck out. -/
def compS (s : List α) (x : α) : List α := if s.getLast? = some x then s else s ++ [x]
def comp (l : List α) : List α := l.foldl compS []
theorem comp_snoc (l : List α) (x : α) : comp (l ++ [x]) = compS (comp l) x := by simp [comp]
theorem compS_last (s : List α) (x : α) : (compS s x).getLast? = some x := by
  unfold compS
  split
  · rename_i h; exact h
  · simp
theorem comp_last (l : List α) : (comp l).getLast? = l.getLast? := by
  rcases List.eq_nil_or_concat l with rfl | ⟨l', x, rfl⟩
  · rfl
  · rw [List.concat_eq_append, comp_snoc, compS_last]; simp
theorem comp_step {l : List α} {k : Nat} {x : α} (h : l[k]? = some x) : comp (l.take (k + 1)) = compS (comp (l.take k)) x := by
  rw [take_snoc h, comp_snoc]
theorem comp_same {l : List α} {k : Nat} {x : α} (h : l[k]? = some x) (h' : l[k + 1]? = some x) : comp (l.take (k + 1 + 1)) = comp (l.take (k + 1)) := by
  rw [comp_step h', compS, if_pos]
  rw [comp_last, take_snoc h]; simp
theorem comp_new {l : List α} {k : Nat} {x y : α} (h : l[k]? = some x) (h' : l[k + 1]? = some y) (hn : y ≠ x) : comp (l.take (k + 1 + 1)) = comp (l.take (k + 1)) ++ [y] := by
  rw [comp_step h', compS, if_neg]
  rw [comp_last, take_snoc h]; simp; exact Ne.symm hn
theorem comp_mem (l : List α) (x : α) : x ∈ comp l ↔ x ∈ l := by
  have hS : ∀ (s : List α) (y : α), x ∈ compS s y ↔ x ∈ s ∨ x = y := by
    intro s y
    unfold compS
    split
    · rename_i h
      constructor
      · exact .inl
      · rintro (h' | rfl)
        · exact h'
        · exact List.mem_of_getLast? h
    · simp
  have : ∀ (l a : List α), x ∈ l.foldl compS a ↔ x ∈ a ∨ x ∈ l := by
    intro l
    induction l with
    | nil => simp
    | cons y l ih =>
      intro a
      simp only [List.foldl_cons, ih, hS, List.mem_cons, or_assoc]
  simpa [comp] using this l []
theorem comp_str (hl : Lin lt) (l : List α) (h : l.Pairwise fun x y => lt y x = false) : Str lt (comp l) := by
  have : ∀ (n : Nat), n ≤ l.length → Str lt (comp (l.take n)) := by
    intro n
    induction n with
    | zero => intro _; simp [comp, Str]
    | succ n ih =>
      intro hn
      have hx : l[n]? = some l[n] := List.getElem?_eq_getElem hn
      rw [comp_step hx]
      have h0 := ih (by omega)
      unfold compS
      split
      · exact h0
      · rename_i hne
        refine List.pairwise_append.2 ⟨h0, by simp, fun a ha b hb => ?_⟩
        simp only [List.mem_singleton] at hb
        subst hb
        rw [comp_mem] at ha
        -- the last one of what is taken stands at most before it
        have hle : ∀ a ∈ l.take n, lt l[n] a = false := by
          intro a ha
          obtain ⟨i, hi, rfl⟩ := List.getElem_of_mem ha
          simp only [List.length_take] at hi
          rw [List.getElem_take]
          exact List.pairwise_iff_getElem.1 h i n (by omega) (by omega) (by omega)
        rcases hl.tri a l[n] with h1 | h1 | h1
        · exact h1
        · exfalso
          subst h1
          -- then the last of comp is it
          rcases Nat.eq_zero_or_pos n with h2 | h2
          · subst h2; simp at ha
          · obtain ⟨m, rfl⟩ : ∃ m, n = m + 1 := ⟨n - 1, by omega⟩
            have hm : l[m]? = some l[m] := List.getElem?_eq_getElem (by omega)
            have hlast : (comp (l.take (m + 1))).getLast? = some l[m] := by rw [comp_last, take_snoc hm, List.getLast?_concat]
            rw [hlast] at hne
            have hmm : l[m] ∈ l.take (m + 1) := by rw [take_snoc hm]; exact List.mem_append_right _ (List.mem_singleton.2 rfl)
            obtain ⟨i, hi, hia⟩ := List.getElem_of_mem ha
            simp only [List.length_take] at hi
            rw [List.getElem_take] at hia
            have e1 := hle _ hmm
            rcases Nat.lt_or_ge i m with him | him
            · have e2 := List.pairwise_iff_getElem.1 h i m (by omega) (by omega) him
              rw [hia] at e2
              rcases hl.tri l[m] l[m + 1] with h3 | h3 | h3
              · rw [h3] at e2; cases e2
              · exact hne (by rw [h3])
              · rw [h3] at e1; cases e1
            · obtain rfl : i = m := by omega
              exact hne (by rw [hia])
        · rw [hle a ha] at h1; cases h1
  have := this l.length (Nat.le_refl _)
  rwa [List.take_of_length_le (Nat.le_refl _)] at this
theorem comp_ord (hl : Lin lt) {d l : List α} (hp : d.Perm l) (hs : d.Pairwise fun x y => lt y x = false) : comp d = ordOf lt l :=
  str_ext hl (comp_str hl d hs) (ordOf_str hl l) fun x => by rw [comp_mem, ordOf_mem]; exact hp.mem_iff
end ord
section ord2
variable {α : Type}
/-- Is it in strict order? -/
def strB (lt : α → α → Bool) : List α → Bool
  | [] => true
  | [_] => true
  | a :: b :: l => lt a b && strB lt (b :: l)
theorem strB_str {lt : α → α → Bool} (hl : Lin lt) : ∀ l : List α, strB lt l = true ↔ Str lt l
  | [] => by simp [strB, Str]
  | [a] => by simp [strB, Str]
  | a :: b :: l => by
    have ih := strB_str hl (b :: l)
    unfold strB
    rw [Bool.and_eq_true, ih]
    constructor
    · rintro ⟨h1, h2⟩
      refine List.pairwise_cons.2 ⟨fun z hz => ?_, h2⟩
      rcases List.mem_cons.1 hz with rfl | hz
      · exact h1
      · exact hl.tr _ _ _ h1 ((List.pairwise_cons.1 h2).1 z hz)
    · intro h
      obtain ⟨h1, h2⟩ := List.pairwise_cons.1 h
      exact ⟨h1 b (by simp), h2⟩
end ord2
theorem linI : Lin (fun a b : Int => decide (a < b)) := ⟨fun a => by simp, fun a b c h1 h2 => by simp at *; omega, fun a b => by simp; omega⟩
end Go.Proofs.YtbmbpannhncpjaaDoor
