/- Several texts in one: F0 Ord KMap IMap. -/
import Derived.Test.YtpnfpdkoeednhaaM1
import Derived.Maps.RangeRun
import Derived.Maps.Keyed
section
/- Facts, plainly: no program in sight. -/
namespace Go.Proofs.Ytpnfpdkoeednhaa
open Go.RowKit

structure Ky where
  (kind subj obj : Int)
structure Fc where
  (key : Ky)
  (val fr to known no : Int)
theorem Ky.ext' {a b : Ky} (h1 : a.kind = b.kind) (h2 : a.subj = b.subj) (h3 : a.obj = b.obj) : a = b := by
  cases a; cases b; simp_all
theorem Fc.ext' {a b : Fc} (h0 : a.key = b.key) (h1 : a.val = b.val) (h2 : a.fr = b.fr) (h3 : a.to = b.to) (h4 : a.known = b.known) (h5 : a.no = b.no) : a = b := by
  cases a; cases b; simp_all
instance : DecidableEq Ky := fun a b => decidable_of_iff (a.kind = b.kind ∧ a.subj = b.subj ∧ a.obj = b.obj) ⟨fun ⟨h1, h2, h3⟩ => Ky.ext' h1 h2 h3, fun h => by subst h; exact ⟨rfl, rfl, rfl⟩⟩
instance : DecidableEq Fc := fun a b => decidable_of_iff (a.key = b.key ∧ a.val = b.val ∧ a.fr = b.fr ∧ a.to = b.to ∧ a.known = b.known ∧ a.no = b.no) ⟨fun ⟨h0, h1, h2, h3, h4, h5⟩ => Fc.ext' h0 h1 h2 h3 h4 h5, fun h => by subst h; exact ⟨rfl, rfl, rfl, rfl, rfl, rfl⟩⟩
instance : Inhabited Ky := ⟨⟨0, 0, 0⟩⟩
instance : Inhabited Fc := ⟨⟨⟨0, 0, 0⟩, 0, 0, 0, 0, 0⟩⟩
def kEnc (k : Ky) : List Value := [.int .i64 k.kind, .int .i64 k.subj, .int .i64 k.obj]
def fEnc (f : Fc) : List Value := [.int .i64 f.key.kind, .int .i64 f.key.subj, .int .i64 f.key.obj, .int .i64 f.val, .int .i64 f.fr, .int .i64 f.to, .int .i64 f.known, .int .i64 f.no]
theorem kEnc_len (x : Ky) : (kEnc x).length = 3 := rfl
theorem fEnc_len (x : Fc) : (fEnc x).length = 8 := rfl
theorem kEnc_one (x : Ky) : ∀ u ∈ kEnc x, u.oneCell' = true := by
  intro u hu; simp [kEnc] at hu; rcases hu with rfl | rfl | rfl <;> rfl
theorem fEnc_one (x : Fc) : ∀ u ∈ fEnc x, u.oneCell' = true := by
  intro u hu; simp [fEnc] at hu; rcases hu with rfl | rfl | rfl | rfl | rfl | rfl | rfl | rfl <;> rfl

/-- Is it valid? -/
def Fc.ok (f : Fc) : Bool := decide (1 ≤ f.key.kind) && decide (f.key.kind ≤ 12) && decide (0 ≤ f.key.subj) && decide (f.key.subj ≤ 20000) && decide (0 ≤ f.key.obj) && decide (f.key.obj ≤ 20000) && decide (-1 ≤ f.val) && decide (f.val ≤ 1099511627776) && decide (0 ≤ f.fr) && decide (f.fr < f.to) && decide (f.to ≤ 1024) && decide (1 ≤ f.known) && decide (f.known ≤ 16777216) && decide (0 ≤ f.no) && decide (f.no ≤ 65535)
/-- Does it come before? -/
def Fc.bef (a b : Fc) : Bool := decide (a.known < b.known) || (decide (a.known = b.known) && decide (a.no < b.no))
def cmpI (x y : Int) : Int := if x < y then -1 else if y < x then 1 else 0
def orI (l : List Int) : Int := (l.find? fun x => decide (x ≠ 0)).getD 0
def cmpF (a b : Fc) : Int := orI [cmpI a.known b.known, cmpI a.no b.no]
def cmpK (a b : Ky) : Int := orI [cmpI a.kind b.kind, cmpI a.subj b.subj, cmpI a.obj b.obj]
def Ky.lt (a b : Ky) : Bool := decide (a.kind < b.kind) || (decide (a.kind = b.kind) && (decide (a.subj < b.subj) || (decide (a.subj = b.subj) && decide (a.obj < b.obj))))
theorem cmpI_cases (x y : Int) : (x < y ∧ cmpI x y = -1) ∨ (x = y ∧ cmpI x y = 0) ∨ (y < x ∧ cmpI x y = 1) := by
  unfold cmpI
  rcases Int.lt_trichotomy x y with h | h | h
  · left; simp [h]
  · right; left; subst h; simp
  · right; right; have : ¬ x < y := by omega
    simp [h, this]
theorem orI_cons (x : Int) (l : List Int) : orI (x :: l) = if x = 0 then orI l else x := by
  unfold orI; by_cases h : x = 0 <;> simp [h]
theorem orI_nil : orI [] = 0 := rfl
theorem cmpF_lt (a b : Fc) : cmpF a b < 0 ↔ a.bef b = true := by
  unfold cmpF Fc.bef
  rw [orI_cons, orI_cons, orI_nil]
  rcases cmpI_cases a.known b.known with ⟨h1, e1⟩ | ⟨h1, e1⟩ | ⟨h1, e1⟩ <;> rcases cmpI_cases a.no b.no with ⟨h2, e2⟩ | ⟨h2, e2⟩ | ⟨h2, e2⟩ <;> simp [e1, e2] <;> omega
theorem cmpF_ge (a b : Fc) : (decide (0 ≤ cmpF a b)) = !a.bef b := by
  have := cmpF_lt a b
  cases h : a.bef b
  · simp; rw [h] at this; simp at this; omega
  · simp; rw [h] at this; simp at this; omega
theorem cmpK_lt (a b : Ky) : cmpK a b < 0 ↔ a.lt b = true := by
  unfold cmpK Ky.lt
  rw [orI_cons, orI_cons, orI_cons, orI_nil]
  rcases cmpI_cases a.kind b.kind with ⟨h1, e1⟩ | ⟨h1, e1⟩ | ⟨h1, e1⟩ <;> rcases cmpI_cases a.subj b.subj with ⟨h2, e2⟩ | ⟨h2, e2⟩ | ⟨h2, e2⟩ <;> rcases cmpI_cases a.obj b.obj with ⟨h3, e3⟩ | ⟨h3, e3⟩ | ⟨h3, e3⟩ <;> simp [e1, e2, e3] <;> omega

/-- Check. -/
def sortedB : List Fc → Bool
  | [] => true
  | [_] => true
  | a :: b :: l => a.bef b && sortedB (b :: l)
def checkF (l : List Fc) : Int := if l.all Fc.ok = true then (if sortedB l = true then 0 else 71) else 70
/-- Add: the error. -/
def addE (l : List Fc) (f : Fc) : Int := if checkF l = 0 then (if f.ok = true then (match l.getLast? with | some x => if x.bef f = true then 0 else 71 | none => 0) else 70) else checkF l
def addL (l : List Fc) (f : Fc) : List Fc := if addE l f = 0 then l ++ [f] else []

/-- The facts of a key that are known at a time. -/
def ofF (l : List Fc) (k : Ky) (known : Int) : List Fc := l.filter fun f => decide (f.key = k) && decide (f.known ≤ known)
def Fc.at (f : Fc) (t : Int) : Bool := decide (f.fr ≤ t) && decide (t < f.to)
def better (t : Int) (b : Option Fc) (f : Fc) : Option Fc := if f.at t = true then (match b with | none => some f | some x => if f.bef x = true then b else some f) else b
/-- The best of facts in a term. -/
def bestF (l : List Fc) (t : Int) : Option Fc := l.foldl (better t) none
theorem bestF_nil (t : Int) : bestF [] t = none := rfl
theorem bestF_snoc (l : List Fc) (f : Fc) (t : Int) : bestF (l ++ [f]) t = better t (bestF l t) f := by simp [bestF]
/-- At. -/
def atF (l : List Fc) (k : Ky) (t known : Int) : Option Int := match bestF (ofF l k known) t with | none => none | some f => if f.val < 0 then none else some f.val
def valF (l : List Fc) (k : Ky) (t known : Int) : Int := (atF l k t known).getD (-1)
def terms : List Int := (List.range 1024).map fun (n : Nat) => (n : Int)
def rowF (l : List Fc) (k : Ky) (known : Int) : List Int := terms.map fun t => valF l k t known
/-- Points. -/
def pointsTo (l : List Fc) (k : Ky) (a b known : Int) : List (Int × Int) := (List.range (b - a).toNat).flatMap fun (n : Nat) => match atF l k (a + n) known with | some v => [(a + n, v)] | none => []
def pointsF (l : List Fc) (k : Ky) (a b known : Int) : List (Int × Int) := pointsTo l k (max 0 a) (min b 1024) known
def alikeF (l : List Fc) (reads : List (Ky × Int × Int)) (before after : Int) : Bool := reads.all fun r => decide (pointsF l r.1 r.2.1 r.2.2 before = pointsF l r.1 r.2.1 r.2.2 after)
def uptoF (l : List Fc) (known : Int) : List Fc := l.filter fun f => decide (f.known ≤ known)
/-- Terms joined to spans: one more. -/
def joinT (s : List (Int × Int)) (t : Int) : List (Int × Int) := match s.getLast? with
  | some x => if x.2 = t then s.dropLast ++ [(x.1, t + 1)] else s ++ [(t, t + 1)]
  | none => [(t, t + 1)]
def diffB (l : List Fc) (k : Ky) (before after t : Int) : Bool := decide (atF l k t before ≠ atF l k t after)
def spansTo (l : List Fc) (k : Ky) (before after : Int) (n : Nat) : List (Int × Int) := (List.range n).foldl (fun s (t : Nat) => if diffB l k before after t = true then joinT s t else s) []
def spansF (l : List Fc) (k : Ky) (before after : Int) : List (Int × Int) := spansTo l k before after 1024
/-- A key laid into keys in order, once. -/
def insK (k : Ky) : List Ky → List Ky
  | [] => [k]
  | x :: l => if x.lt k = true then x :: insK k l else if x = k then x :: l else k :: x :: l
def keysF (l : List Fc) : List Ky := l.foldl (fun s f => insK f.key s) []
def changeOf (l : List Fc) (before after : Int) (k : Ky) : List (Ky × List (Int × Int)) := if spansF l k before after = [] then [] else [(k, spansF l k before after)]
def changedF (l : List Fc) (before after : Int) : List (Ky × List (Int × Int)) := (keysF l).flatMap (changeOf l before after)
theorem Ky.lt_irrefl (a : Ky) : a.lt a = false := by simp [Ky.lt]
theorem Ky.lt_iff (a b : Ky) : a.lt b = true ↔ a.kind < b.kind ∨ (a.kind = b.kind ∧ (a.subj < b.subj ∨ (a.subj = b.subj ∧ a.obj < b.obj))) := by simp [Ky.lt]
theorem Ky.lt_trans {a b c : Ky} (h1 : a.lt b = true) (h2 : b.lt c = true) : a.lt c = true := by
  rw [Ky.lt_iff] at *; omega
theorem Ky.lt_tri (a b : Ky) : a.lt b = true ∨ a = b ∨ b.lt a = true := by
  rw [Ky.lt_iff, Ky.lt_iff]
  rcases Int.lt_trichotomy a.kind b.kind with h | h | h
  · exact .inl (.inl h)
  · rcases Int.lt_trichotomy a.subj b.subj with h' | h' | h'
    · exact .inl (.inr ⟨h, .inl h'⟩)
    · rcases Int.lt_trichotomy a.obj b.obj with h'' | h'' | h''
      · exact .inl (.inr ⟨h, .inr ⟨h', h''⟩⟩)
      · exact .inr (.inl (Ky.ext' h h' h''))
      · exact .inr (.inr (.inr ⟨h.symm, .inr ⟨h'.symm, h''⟩⟩))
    · exact .inr (.inr (.inr ⟨h.symm, .inl h'⟩))
  · exact .inr (.inr (.inl h))
theorem lt_asymm {a b : Ky} (h : a.lt b = true) : b.lt a = false := by
  rcases hb : b.lt a with _ | _
  · rfl
  · have := Ky.lt_trans h hb
    rw [Ky.lt_irrefl] at this; cases this
abbrev Rd := Ky × Int × Int
def rdEnc (r : Rd) : List Value := [.int .i64 r.1.kind, .int .i64 r.1.subj, .int .i64 r.1.obj, .int .i64 r.2.1, .int .i64 r.2.2]
theorem rdEnc_len (x : Rd) : (rdEnc x).length = 5 := rfl
abbrev RdSl := Rows 5 (Rep.flat rdEnc)
theorem rdStable : (Rep.flat rdEnc).Stable := Rep.flat_stable _
theorem RdSl.get {n₀ n c k : Nat} {A : Option Addr} {l : List Rd} {W : World} (h : RdSl W n₀ A n c l) (hk : k < n) :
    ∃ b off m, A = some ⟨b, off, none⟩ ∧ b < n₀ ∧ l[k]? = some m ∧ W.cell? ⟨b, off + k * 5, none⟩ = some (.int .i64 m.1.kind) ∧ W.cell? ⟨b, off + k * 5 + 1, none⟩ = some (.int .i64 m.1.subj) ∧ W.cell? ⟨b, off + k * 5 + 2, none⟩ = some (.int .i64 m.1.obj) ∧ W.cell? ⟨b, off + k * 5 + 3, none⟩ = some (.int .i64 m.2.1) ∧ W.cell? ⟨b, off + k * 5 + 4, none⟩ = some (.int .i64 m.2.2) := by
  obtain ⟨b, off, m, cs, e, hlt, hk', rfl, hc⟩ := Rows.get h hk
  exact ⟨b, off, m, e, hlt, hk', hc 0 _ rfl, hc 1 _ rfl, hc 2 _ rfl, hc 3 _ rfl, hc 4 _ rfl⟩
end Go.Proofs.Ytpnfpdkoeednhaa

end
section
/- Lists in strict order: a value laid in once, neighbours alike struck out. Plain. -/
namespace Go.Proofs.Ytpnfpdkoeednhaa

section ord
variable {α : Type} (lt : α → α → Bool)
structure Lin : Prop where
  irr : ∀ a, lt a a = false
  tr : ∀ a b c, lt a b = true → lt b c = true → lt a c = true
  tri : ∀ a b, lt a b = true ∨ a = b ∨ lt b a = true
variable {lt} in
theorem Lin.asymm (h : Lin lt) {a b : α} (h1 : lt a b = true) : lt b a = false := by
  rcases hb : lt b a with _ | _
  · rfl
  · have := h.tr _ _ _ h1 hb
    rw [h.irr] at this; cases this
variable [DecidableEq α]
def ins (x : α) : List α → List α
  | [] => [x]
  | y :: l => if lt y x = true then y :: ins x l else if y = x then y :: l else x :: y :: l
def Str (l : List α) : Prop := l.Pairwise fun x y => lt x y = true
def ordOf (l : List α) : List α := l.foldl (fun s x => ins lt x s) []
variable {lt}
theorem ins_mem (k : α) : ∀ (ks : List α) (x : α), x ∈ ins lt k ks ↔ x = k ∨ x ∈ ks
  | [], x => by simp [ins]
  | y :: l, x => by
    unfold ins
    split
    · rw [List.mem_cons, ins_mem k l x, List.mem_cons]
      constructor
      · rintro (h | h | h)
        · exact .inr (.inl h)
        · exact .inl h
        · exact .inr (.inr h)
      · rintro (h | h | h)
        · exact .inr (.inl h)
        · exact .inl h
        · exact .inr (.inr h)
    · split
      · rename_i _ h
        subst h
        simp
      · simp
theorem ins_str (hl : Lin lt) (k : α) : ∀ (ks : List α), Str lt ks → Str lt (ins lt k ks)
  | [], _ => by simp [ins, Str]
  | y :: l, h => by
    obtain ⟨h1, h2⟩ := List.pairwise_cons.1 h
    unfold ins
    split
    · rename_i hyk
      refine List.pairwise_cons.2 ⟨fun z hz => ?_, ins_str hl k l h2⟩
      rcases (ins_mem k l z).1 hz with rfl | hz
      · exact hyk
      · exact h1 z hz
    · rename_i hyk
      split
      · exact h
      · rename_i hne
        have hky : lt k y = true := by
          rcases hl.tri k y with h' | h' | h'
          · exact h'
          · exact absurd h'.symm hne
          · exact absurd h' hyk
        refine List.pairwise_cons.2 ⟨fun z hz => ?_, h⟩
        rcases List.mem_cons.1 hz with rfl | hz
        · exact hky
        · exact hl.tr _ _ _ hky (h1 z hz)
theorem ins_at (x : α) : ∀ (l : List α) (k : Nat), (∀ j y, j < k → l[j]? = some y → lt y x = true) → (∀ y, l[k]? = some y → lt y x = false) → k ≤ l.length →
    ins lt x l = if l[k]? = some x then l else l.take k ++ x :: l.drop k
  | [], k, _, _, hk => by
    obtain rfl : k = 0 := by simpa using hk
    simp [ins]
  | y :: l, 0, _, h2, _ => by
    have := h2 y rfl
    unfold ins
    rw [this]
    by_cases h : y = x <;> simp [h]
  | y :: l, k + 1, h1, h2, hk => by
    have h := h1 0 y (by omega) rfl
    unfold ins
    rw [if_pos h, ins_at x l k (fun j z hj hz => h1 (j + 1) z (by omega) (by simpa using hz)) (fun z hz => h2 z (by simpa using hz)) (by simpa using hk)]
    simp only [List.getElem?_cons_succ]
    split <;> simp
theorem ordOf_mem (l : List α) (x : α) : x ∈ ordOf lt l ↔ x ∈ l := by
  have : ∀ (l a : List α), x ∈ l.foldl (fun s y => ins lt y s) a ↔ x ∈ a ∨ x ∈ l := by
    intro l
    induction l with
    | nil => simp
    | cons y l ih =>
      intro a
      simp only [List.foldl_cons, ih, ins_mem, List.mem_cons]
      constructor
      · rintro ((h | h) | h)
        · exact .inr (.inl h)
        · exact .inl h
        · exact .inr (.inr h)
      · rintro (h | h | h)
        · exact .inl (.inr h)
        · exact .inl (.inl h)
        · exact .inr h
  simpa [ordOf] using this l []
theorem ordOf_str (hl : Lin lt) (l : List α) : Str lt (ordOf lt l) := by
  have : ∀ (l a : List α), Str lt a → Str lt (l.foldl (fun s y => ins lt y s) a) := by
    intro l
    induction l with
    | nil => intro a h; exact h
    | cons y l ih => intro a h; exact ih _ (ins_str hl _ _ h)
  exact this l [] List.Pairwise.nil
theorem ordOf_snoc (l : List α) (x : α) : ordOf lt (l ++ [x]) = ins lt x (ordOf lt l) := by simp [ordOf]
theorem ordOf_nil : ordOf lt ([] : List α) = [] := rfl
theorem ins_len (k : α) : ∀ l : List α, (ins lt k l).length ≤ l.length + 1
  | [] => by simp [ins]
  | y :: l => by
    have := ins_len k l
    unfold ins
    split
    · simp; omega
    · split <;> simp
theorem ordOf_len (l : List α) : (ordOf lt l).length ≤ l.length := by
  have : ∀ (l a : List α), (l.foldl (fun s y => ins lt y s) a).length ≤ a.length + l.length := by
    intro l
    induction l with
    | nil => simp
    | cons y l ih =>
      intro a
      have h1 := ih (ins lt y a)
      have h2 := ins_len (lt := lt) y a
      simp only [List.foldl_cons, List.length_cons]
      omega
  have := this l []
  simpa [ordOf] using this
omit [DecidableEq α] in
theorem str_ext (hl : Lin lt) {a b : List α} (ha : Str lt a) (hb : Str lt b) (hm : ∀ x, x ∈ a ↔ x ∈ b) : a = b := by
  have na : a.Nodup := ha.imp fun {x y} h => by rintro rfl; rw [hl.irr] at h; cases h
  have nb : b.Nodup := hb.imp fun {x y} h => by rintro rfl; rw [hl.irr] at h; cases h
  refine List.Perm.eq_of_pairwise (le := fun x y => lt x y = true) (fun x y _ _ h1 h2 => ?_) ha hb ((List.perm_ext_iff_of_nodup na nb).2 hm)
  rw [hl.asymm h1] at h2; cases h2
theorem ordOf_of_str (hl : Lin lt) {a : List α} (ha : Str lt a) : ordOf lt a = a := str_ext hl (ordOf_str hl a) ha fun x => ordOf_mem a x
theorem ordOf_congr (hl : Lin lt) {a b : List α} (h : ∀ x, x ∈ a ↔ x ∈ b) : ordOf lt a = ordOf lt b :=
  str_ext hl (ordOf_str hl a) (ordOf_str hl b) fun x => by rw [ordOf_mem, ordOf_mem]; exact h x

/-- Neighbours alike struck out. -/
def compS (s : List α) (x : α) : List α := if s.getLast? = some x then s else s ++ [x]
def comp (l : List α) : List α := l.foldl compS []
theorem comp_snoc (l : List α) (x : α) : comp (l ++ [x]) = compS (comp l) x := by simp [comp]
theorem compS_last (s : List α) (x : α) : (compS s x).getLast? = some x := by
  unfold compS
  split
  · rename_i h; exact h
  · simp
theorem comp_last (l : List α) : (comp l).getLast? = l.getLast? := by
  rcases List.eq_nil_or_concat l with rfl | ⟨l', x, rfl⟩
  · rfl
  · rw [List.concat_eq_append, comp_snoc, compS_last]; simp
theorem comp_step {l : List α} {k : Nat} {x : α} (h : l[k]? = some x) : comp (l.take (k + 1)) = compS (comp (l.take k)) x := by
  rw [take_snoc h, comp_snoc]
theorem comp_same {l : List α} {k : Nat} {x : α} (h : l[k]? = some x) (h' : l[k + 1]? = some x) : comp (l.take (k + 1 + 1)) = comp (l.take (k + 1)) := by
  rw [comp_step h', compS, if_pos]
  rw [comp_last, take_snoc h]; simp
theorem comp_new {l : List α} {k : Nat} {x y : α} (h : l[k]? = some x) (h' : l[k + 1]? = some y) (hn : y ≠ x) : comp (l.take (k + 1 + 1)) = comp (l.take (k + 1)) ++ [y] := by
  rw [comp_step h', compS, if_neg]
  rw [comp_last, take_snoc h]; simp; exact Ne.symm hn
theorem comp_mem (l : List α) (x : α) : x ∈ comp l ↔ x ∈ l := by
  have hS : ∀ (s : List α) (y : α), x ∈ compS s y ↔ x ∈ s ∨ x = y := by
    intro s y
    unfold compS
    split
    · rename_i h
      constructor
      · exact .inl
      · rintro (h' | rfl)
        · exact h'
        · exact List.mem_of_getLast? h
    · simp
  have : ∀ (l a : List α), x ∈ l.foldl compS a ↔ x ∈ a ∨ x ∈ l := by
    intro l
    induction l with
    | nil => simp
    | cons y l ih =>
      intro a
      simp only [List.foldl_cons, ih, hS, List.mem_cons, or_assoc]
  simpa [comp] using this l []
theorem comp_str (hl : Lin lt) (l : List α) (h : l.Pairwise fun x y => lt y x = false) : Str lt (comp l) := by
  have : ∀ (n : Nat), n ≤ l.length → Str lt (comp (l.take n)) := by
    intro n
    induction n with
    | zero => intro _; simp [comp, Str]
    | succ n ih =>
      intro hn
      have hx : l[n]? = some l[n] := List.getElem?_eq_getElem hn
      rw [comp_step hx]
      have h0 := ih (by omega)
      unfold compS
      split
      · exact h0
      · rename_i hne
        refine List.pairwise_append.2 ⟨h0, by simp, fun a ha b hb => ?_⟩
        simp only [List.mem_singleton] at hb
        subst hb
        rw [comp_mem] at ha
        -- the last one of what is taken stands at most before it
        have hle : ∀ a ∈ l.take n, lt l[n] a = false := by
          intro a ha
          obtain ⟨i, hi, rfl⟩ := List.getElem_of_mem ha
          simp only [List.length_take] at hi
          rw [List.getElem_take]
          exact List.pairwise_iff_getElem.1 h i n (by omega) (by omega) (by omega)
        rcases hl.tri a l[n] with h1 | h1 | h1
        · exact h1
        · exfalso
          subst h1
          -- then the last of comp is it
          rcases Nat.eq_zero_or_pos n with h2 | h2
          · subst h2; simp at ha
          · obtain ⟨m, rfl⟩ : ∃ m, n = m + 1 := ⟨n - 1, by omega⟩
            have hm : l[m]? = some l[m] := List.getElem?_eq_getElem (by omega)
            have hlast : (comp (l.take (m + 1))).getLast? = some l[m] := by rw [comp_last, take_snoc hm, List.getLast?_concat]
            rw [hlast] at hne
            have hmm : l[m] ∈ l.take (m + 1) := by rw [take_snoc hm]; exact List.mem_append_right _ (List.mem_singleton.2 rfl)
            obtain ⟨i, hi, hia⟩ := List.getElem_of_mem ha
            simp only [List.length_take] at hi
            rw [List.getElem_take] at hia
            have e1 := hle _ hmm
            rcases Nat.lt_or_ge i m with him | him
            · have e2 := List.pairwise_iff_getElem.1 h i m (by omega) (by omega) him
              rw [hia] at e2
              rcases hl.tri l[m] l[m + 1] with h3 | h3 | h3
              · rw [h3] at e2; cases e2
              · exact hne (by rw [h3])
              · rw [h3] at e1; cases e1
            · obtain rfl : i = m := by omega
              exact hne (by rw [hia])
        · rw [hle a ha] at h1; cases h1
  have := this l.length (Nat.le_refl _)
  rwa [List.take_of_length_le (Nat.le_refl _)] at this
theorem comp_ord (hl : Lin lt) {d l : List α} (hp : d.Perm l) (hs : d.Pairwise fun x y => lt y x = false) : comp d = ordOf lt l :=
  str_ext hl (comp_str hl d hs) (ordOf_str hl l) fun x => by rw [comp_mem, ordOf_mem]; exact hp.mem_iff
end ord
section ord2
variable {α : Type}
/-- Is it in strict order? -/
def strB (lt : α → α → Bool) : List α → Bool
  | [] => true
  | [_] => true
  | a :: b :: l => lt a b && strB lt (b :: l)
theorem strB_str {lt : α → α → Bool} (hl : Lin lt) : ∀ l : List α, strB lt l = true ↔ Str lt l
  | [] => by simp [strB, Str]
  | [a] => by simp [strB, Str]
  | a :: b :: l => by
    have ih := strB_str hl (b :: l)
    unfold strB
    rw [Bool.and_eq_true, ih]
    constructor
    · rintro ⟨h1, h2⟩
      refine List.pairwise_cons.2 ⟨fun z hz => ?_, h2⟩
      rcases List.mem_cons.1 hz with rfl | hz
      · exact h1
      · exact hl.tr _ _ _ h1 ((List.pairwise_cons.1 h2).1 z hz)
    · intro h
      obtain ⟨h1, h2⟩ := List.pairwise_cons.1 h
      exact ⟨h1 b (by simp), h2⟩
end ord2
theorem linI : Lin (fun a b : Int => decide (a < b)) := ⟨fun a => by simp, fun a b c h1 h2 => by simp at *; omega, fun a b => by simp; omega⟩
end Go.Proofs.Ytpnfpdkoeednhaa

end
section
/- A map that the call itself has made, all of whose values are true, read as a list of its keys. Over any program. -/
namespace Go.Proofs.Ytpnfpdkoeednhaa
open Go.RowKit
open Go.ChangeMaps (setBlock)

/-- What is asked of a key type. -/
structure KeyOps {α : Type} (P : Program) (kt mt : TypeId) (K : α → Value) : Prop where
  und : ∃ et, P.underlying mt = some (.map kt et)
  inj : ∀ a b, K a = K b → a = b
  ck : ∀ a (em : Bool) w, (Instr.checkKey em 10000 kt (K a)).run P w = .ok () w
  st : ∀ a w, (Instr.keyThatStays (K a) (K a)).run P w = .ok (K a) w
  find : ∀ a (es : List MapEntry) w, (∀ e ∈ es, ∃ b, e.key = K b) → ((Instr.findKey kt (K a) es).run P w = .ok none w ∧ ∀ e ∈ es, e.key ≠ K a) ∨
    ∃ j e, (Instr.findKey kt (K a) es).run P w = .ok (some (j, e.val)) w ∧ es[j]? = some e ∧ e.key = K a

section
variable {α : Type} {P : Program} {kt mt : TypeId} {K : α → Value}

/-- A key type that is a struct. -/
theorem KeyOps.of_struct [DecidableEq α] {et : TypeId} {fs : Array Field} (hm : P.underlying mt = some (.map kt et)) (hk : P.underlying kt = some (.struct fs)) (hinj : ∀ a b, K a = K b → a = b)
    (hck : ∀ a (em : Bool) w, (Instr.checkKey em 10000 kt (K a)).run P w = .ok () w) (hst : ∀ a w, (Instr.keyThatStays (K a) (K a)).run P w = .ok (K a) w)
    (heq : ∀ a b w, (Op.equal kt (K a) (K b)).run P w = .ok (decide (a = b)) w) : KeyOps P kt mt K := by
  refine ⟨⟨et, hm⟩, hinj, hck, hst, fun a es w hes => ?_⟩
  have ask : ∀ (es : List MapEntry) (i : Nat), (∀ e ∈ es, ∃ b, e.key = K b) → ((Instr.findAsking kt (K a) es i).run P w = .ok none w ∧ ∀ e ∈ es, e.key ≠ K a) ∨
      ∃ j e, (Instr.findAsking kt (K a) es i).run P w = .ok (some (i + j, e.val)) w ∧ es[j]? = some e ∧ e.key = K a := by
    intro es
    induction es with
    | nil => intro i _; exact .inl ⟨rfl, by simp⟩
    | cons e es ih =>
      intro i h
      obtain ⟨b, hb⟩ := h e (by simp)
      by_cases hab : a = b
      · subst hab
        refine .inr ⟨0, e, ?_, rfl, hb⟩
        simp [Instr.findAsking, hb, heq]
      · rcases ih (i + 1) (fun e' he' => h e' (by simp [he'])) with ⟨h1, h2⟩ | ⟨j, e', h1, h2, h3⟩
        · refine .inl ⟨?_, ?_⟩
          · simp [Instr.findAsking, hb, heq, hab, h1]
          · intro e' he'
            rcases List.mem_cons.1 he' with rfl | he'
            · rw [hb]; intro hh; exact hab (hinj _ _ hh).symm
            · exact h2 e' he'
        · refine .inr ⟨j + 1, e', ?_, by simpa using h2, h3⟩
          simp [Instr.findAsking, hb, heq, hab, h1]
          omega
  have now : (Instr.findKey kt (K a) es).run P w = (match es with | [] => .ok none w | _ => (Instr.findAsking kt (K a) es).run P w) := by
    cases es with
    | nil => simp [Instr.findKey, run_underlying hk, Instr.findNow]
    | cons e es => simp [Instr.findKey, run_underlying hk, Instr.findNow, Instr.sameNow]
  rw [now]
  cases es with
  | nil => exact .inl ⟨rfl, by simp⟩
  | cons e es =>
    rcases ask (e :: es) 0 hes with h | ⟨j, e', h1, h2, h3⟩
    · exact .inl h
    · exact .inr ⟨j, e', by simpa using h1, h2, h3⟩

/-- Block b is a map with the keys ks, in the order in which they came in; all its values are true. -/
def KM (K : α → Value) (W : World) (b : Nat) (ks : List α) : Prop :=
  ∃ es clock, W.heap[b]? = some (.map es clock) ∧ es.toList.map (·.key) = ks.map K ∧ ks.Nodup ∧ (∀ x ∈ es.toList, x.born < clock) ∧ (es.toList.map (·.born)).Nodup ∧ ∀ x ∈ es.toList, x.val = .bool true
theorem KM.made (W : World) : KM K (W.alloc (.map #[] 0)) W.heap.size [] := ⟨#[], 0, World.alloc_heap_new _ _, rfl, List.nodup_nil, by simp, by simp, by simp⟩
theorem KM.lt {W : World} {b : Nat} {ks : List α} (h : KM K W b ks) : b < W.heap.size := by
  obtain ⟨es, clock, h, _⟩ := h; exact lt_of_heap h
theorem KM.keep {W W' : World} {b : Nat} {ks : List α} (h : KM K W b ks) (hb : W'.heap[b]? = W.heap[b]?) : KM K W' b ks := by
  obtain ⟨es, clock, h, hr⟩ := h; exact ⟨es, clock, hb.trans h, hr⟩

/-- A key laid into a list of keys. -/
def addKey [DecidableEq α] (ks : List α) (a : α) : List α := if a ∈ ks then ks else ks ++ [a]

theorem km_update [DecidableEq α] (L : KeyOps P kt mt K) {W : World} {b : Nat} {ks : List α} (h : KM K W b ks) (a : α) :
    ∃ w', (Instr.mapUpdate mt (.map (some b)) (K a) (.bool true)).run P W = .ok () w' ∧ KM K w' b (addKey ks a) ∧ W.grownBy w' (some b) ∧ w'.heap.size = W.heap.size := by
  obtain ⟨et, hu⟩ := L.und
  obtain ⟨es, clock, hh, hkeys, hnd, hborn, hbn, hval⟩ := h
  have hg : (getObj b).run P W = .ok (.map es clock) W := by simp [getObj, Sem.run, hh]
  have hs : ∀ o', (setObj b o').run P W = .ok () (setBlock W b o') := fun o' => by simp [setObj, Sem.run, hh, setBlock]
  have hgr : ∀ o', W.grownBy (setBlock W b o') (some b) := fun o' => ⟨rfl, rfl, rfl, by simp [setBlock], fun k hk hne => by
    show (W.heap.setIfInBounds b o')[k]? = _
    rw [Array.getElem?_setIfInBounds_ne (by rintro rfl; exact hne rfl)]⟩
  have hnew : ∀ o', (setBlock W b o').heap[b]? = some o' := fun o' => by
    have := lt_of_heap hh
    show (W.heap.setIfInBounds b o')[b]? = _
    simp [this]
  have hkeyed : ∀ e ∈ es.toList, ∃ c, e.key = K c := fun e he => by
    have : e.key ∈ ks.map K := by rw [← hkeys]; exact List.mem_map_of_mem he
    obtain ⟨c, _, hc⟩ := List.mem_map.1 this
    exact ⟨c, hc.symm⟩
  rcases L.find a es.toList W hkeyed with ⟨hf, hno⟩ | ⟨j, e, hf, hj, he⟩
  · have hna : a ∉ ks := by
      intro ha
      have : K a ∈ es.toList.map (·.key) := by rw [hkeys]; exact List.mem_map_of_mem ha
      obtain ⟨e, he, hk⟩ := List.mem_map.1 this
      exact hno e he hk
    refine ⟨setBlock W b (.map (es.push { key := K a, val := .bool true, born := clock }) (clock + 1)), ?_, ⟨_, _, hnew _, ?_, ?_, ?_, ?_, ?_⟩, hgr _, by simp [setBlock]⟩
    · simp [Instr.mapUpdate, run_underlying hu, hg, L.ck, hf, hs]
    · rw [addKey, if_neg hna]
      simp [hkeys]
    · rw [addKey, if_neg hna, List.nodup_append]
      refine ⟨hnd, by simp, fun x hx y hy => ?_⟩
      simp at hy
      subst hy
      rintro rfl
      exact hna hx
    · intro x hx
      simp at hx
      rcases hx with hx | rfl
      · have := hborn x (by simpa using hx); omega
      · simp
    · simp only [Array.toList_push, List.map_append, List.map_cons, List.map_nil]
      rw [List.nodup_append]
      refine ⟨hbn, by simp, fun x hx y hy => ?_⟩
      simp at hy
      subst hy
      obtain ⟨e, he, rfl⟩ := List.mem_map.1 hx
      have := hborn e he
      omega
    · intro x hx
      simp at hx
      rcases hx with hx | rfl
      · exact hval x (by simpa using hx)
      · rfl
  · have hja : a ∈ ks := by
      have : e.key ∈ ks.map K := by rw [← hkeys]; exact List.mem_map_of_mem (List.mem_of_getElem? hj)
      rw [he] at this
      obtain ⟨c, hc, hc'⟩ := List.mem_map.1 this
      rw [← L.inj _ _ hc']; exact hc
    have hj' : es[j]? = some e := by simpa using hj
    refine ⟨setBlock W b (.map (es.modify j fun e => { e with key := K a, val := .bool true }) clock), ?_, ⟨_, _, hnew _, ?_, ?_, ?_, ?_, ?_⟩, hgr _, by simp [setBlock]⟩
    · simp [Instr.mapUpdate, run_underlying hu, hg, L.ck, hf, hj', he, L.st, hs]
    · rw [addKey, if_pos hja, ← hkeys]
      apply List.ext_getElem?
      intro i
      simp only [List.getElem?_map, Array.getElem?_toList, Array.getElem?_modify]
      by_cases hij : j = i
      · subst hij
        simp [hj', he]
      · simp [hij]
    · rw [addKey, if_pos hja]; exact hnd
    · intro x hx
      obtain ⟨i, hi⟩ := List.mem_iff_getElem?.1 hx
      simp only [Array.getElem?_toList, Array.getElem?_modify] at hi
      by_cases hij : j = i
      · subst hij
        simp [hj'] at hi
        subst hi
        exact hborn e (List.mem_of_getElem? hj)
      · simp [hij] at hi
        exact hborn x (List.mem_of_getElem? (by simpa using hi))
    · have : (es.modify j fun e => { e with key := K a, val := .bool true }).toList.map (·.born) = es.toList.map (·.born) := by
        apply List.ext_getElem?
        intro i
        simp only [List.getElem?_map, Array.getElem?_toList, Array.getElem?_modify]
        by_cases hij : j = i
        · subst hij
          simp [hj']
        · simp [hij]
      rw [this]; exact hbn
    · intro x hx
      obtain ⟨i, hi⟩ := List.mem_iff_getElem?.1 hx
      simp only [Array.getElem?_toList, Array.getElem?_modify] at hi
      by_cases hij : j = i
      · subst hij
        simp [hj'] at hi
        subst hi
        rfl
      · simp [hij] at hi
        exact hval x (List.mem_of_getElem? (by simpa using hi))
end
end Go.Proofs.Ytpnfpdkoeednhaa
namespace Go.Proofs.Ytpnfpdkoeednhaa
open Go.RowKit
open Go.ChangeMaps (setBlock)
section
variable {α : Type} {P : Program} {K : α → Value}

/-- The elements at these places. -/
def picks (ks : List α) (js : List Nat) : List α := js.filterMap fun j => ks[j]?
theorem picks_nil (ks : List α) : picks ks [] = [] := rfl
theorem picks_snoc {ks : List α} {js : List Nat} {j : Nat} {a : α} (h : ks[j]? = some a) : picks ks (js ++ [j]) = picks ks js ++ [a] := by
  simp [picks, h]
theorem picks_cons {ks : List α} {js : List Nat} {j : Nat} {a : α} (h : ks[j]? = some a) : picks ks (j :: js) = a :: picks ks js := by
  simp [picks, h]
theorem picks_append (ks : List α) (js js' : List Nat) : picks ks (js ++ js') = picks ks js ++ picks ks js' := by simp [picks]
theorem filterMap_same {β γ : Type} {f g : β → Option γ} : ∀ {l : List β}, (∀ x ∈ l, f x = g x) → l.filterMap f = l.filterMap g
  | [], _ => rfl
  | x :: l, h => by
    simp only [List.filterMap_cons, h x (by simp), filterMap_same (l := l) fun y hy => h y (by simp [hy])]
theorem picks_all : ∀ (m : Nat) (ks : List α), ks.length = m → picks ks (List.range m) = ks
  | 0, ks, h => by
    have := List.eq_nil_of_length_eq_zero h
    subst this; rfl
  | m + 1, ks, h => by
    have hm : m < ks.length := by omega
    rw [List.range_succ, picks_append]
    have e : ks = ks.take m ++ [ks[m]] := by
      have := take_snoc (List.getElem?_eq_getElem hm)
      rw [← this, List.take_of_length_le (by omega)]
    have h1 : picks ks (List.range m) = picks (ks.take m) (List.range m) := by
      unfold picks
      refine filterMap_same fun j hj => ?_
      rw [List.getElem?_take, if_pos (List.mem_range.1 hj)]
    rw [h1, picks_all m (ks.take m) (by rw [List.length_take]; omega)]
    conv => rhs; rw [e]
    simp [picks, List.getElem?_eq_getElem hm]
theorem perm_places {n : Nat} {js : List Nat} (h : js.Nodup) (hlt : ∀ j ∈ js, j < n) : (js ++ (List.range n).filter fun j => !js.contains j).Perm (List.range n) := by
  have hn2 : (js ++ (List.range n).filter fun j => !js.contains j).Nodup := by
    rw [List.nodup_append]
    refine ⟨h, List.nodup_range.filter _, fun x hx y hy => ?_⟩
    rintro rfl
    have := (List.mem_filter.1 hy).2
    simp [hx] at this
  refine (List.perm_ext_iff_of_nodup hn2 List.nodup_range).2 fun j => ?_
  rw [List.mem_append, List.mem_filter, List.mem_range]
  constructor
  · rintro (hj | hj)
    · exact hlt j hj
    · exact hj.1
  · intro hj
    by_cases hm : j ∈ js
    · exact .inl hm
    · exact .inr ⟨hj, by simpa using hm⟩
theorem picks_perm {ks : List α} {js : List Nat} (h : js.Nodup) (hlt : ∀ j ∈ js, j < ks.length) (hall : ∀ j, j < ks.length → j ∈ js) : (picks ks js).Perm ks := by
  have hp := perm_places h hlt
  have he : ((List.range ks.length).filter fun j => !js.contains j) = [] := by
    rw [List.filter_eq_nil_iff]
    intro j hj
    simp [hall j (List.mem_range.1 hj)]
  rw [he, List.append_nil] at hp
  have h2 : (picks ks js).Perm (picks ks (List.range ks.length)) := hp.filterMap fun j => ks[j]?
  rwa [picks_all ks.length ks rfl] at h2
theorem picks_next {ks : List α} {js : List Nat} {j : Nat} {a : α} (h : js.Nodup) (hlt : ∀ i ∈ js, i < ks.length) (hj : j ∉ js) (ha : ks[j]? = some a) : ∃ suf, (picks ks js ++ a :: suf).Perm ks := by
  have hjl := (List.getElem?_eq_some_iff.1 ha).1
  have hn : (js ++ [j]).Nodup := by
    rw [List.nodup_append]
    refine ⟨h, by simp, fun x hx y hy => ?_⟩
    simp at hy
    subst hy
    rintro rfl
    exact hj hx
  have hp := perm_places (n := ks.length) hn (by
    intro i hi
    rcases List.mem_append.1 hi with hi | hi
    · exact hlt i hi
    · simp at hi; subst hi; exact hjl)
  refine ⟨picks ks ((List.range ks.length).filter fun i => !(js ++ [j]).contains i), ?_⟩
  have h2 := hp.filterMap fun i => ks[i]?
  have e1 : picks ks js ++ a :: picks ks ((List.range ks.length).filter fun i => !(js ++ [j]).contains i) = picks ks (js ++ [j] ++ (List.range ks.length).filter fun i => !(js ++ [j]).contains i) := by
    rw [picks_append, picks_append, picks_cons ha, picks_nil]
    simp
  rw [e1]
  have h3 : (picks ks (js ++ [j] ++ (List.range ks.length).filter fun i => !(js ++ [j]).contains i)).Perm (picks ks (List.range ks.length)) := h2
  rwa [picks_all ks.length ks rfl] at h3

/-- The iterator in block r over the map in block b has handed out the keys at the places js. -/
def KIt (K : α → Value) (W : World) (r b : Nat) (ks : List α) (js : List Nat) : Prop :=
  ∃ es clock, W.heap[b]? = some (.map es clock) ∧ W.heap[r]? = some (.mapIter (some b) clock (js.map fun j => (es.toList.map (·.born)).getD j 0).toArray clock) ∧
    es.toList.map (·.key) = ks.map K ∧ (∀ x ∈ es.toList, x.born < clock) ∧ (es.toList.map (·.born)).Nodup ∧ (∀ x ∈ es.toList, x.val = .bool true) ∧ js.Nodup ∧ ∀ j ∈ js, j < ks.length
theorem KIt.keep {W W' : World} {r b : Nat} {ks : List α} {js : List Nat} (h : KIt K W r b ks js) (hb : W'.heap[b]? = W.heap[b]?) (hr : W'.heap[r]? = W.heap[r]?) : KIt K W' r b ks js := by
  obtain ⟨es, clock, h1, h2, h3⟩ := h
  exact ⟨es, clock, hb.trans h1, hr.trans h2, h3⟩
theorem KIt.lt {W : World} {r b : Nat} {ks : List α} {js : List Nat} (h : KIt K W r b ks js) : b < W.heap.size ∧ r < W.heap.size := by
  obtain ⟨es, clock, h1, h2, h3⟩ := h
  exact ⟨lt_of_heap h1, lt_of_heap h2⟩
theorem KIt.js {W : World} {r b : Nat} {ks : List α} {js : List Nat} (h : KIt K W r b ks js) : js.Nodup ∧ ∀ j ∈ js, j < ks.length := by
  obtain ⟨es, clock, _, _, _, _, _, _, h1, h2⟩ := h
  exact ⟨h1, h2⟩
theorem km_range {mt kt et : TypeId} (hu : P.underlying mt = some (.map kt et)) {W : World} {b : Nat} {ks : List α} (h : KM K W b ks) :
    ∃ w', (Instr.range mt (.map (some b))).run P W = .ok (.pointer (some ⟨W.heap.size, 0, none⟩)) w' ∧ KIt K w' W.heap.size b ks [] ∧ Below W.heap.size W w' ∧ w'.heap.size = W.heap.size + 1 := by
  obtain ⟨es, clock, hh, hkeys, hnd, hborn, hbn, hval⟩ := h
  have hg : (getObj b).run P W = .ok (.map es clock) W := by simp [getObj, Sem.run, hh]
  refine ⟨W.alloc (.mapIter (some b) clock #[] clock), ?_, ⟨es, clock, (Below.heap_alloc _ _ _ (lt_of_heap hh)).trans hh, World.alloc_heap_new _ _, hkeys, hborn, hbn, hval, List.nodup_nil, by simp⟩, (Below.refl _ _).alloc (Nat.le_refl _) _, by simp⟩
  simp [Instr.range, run_underlying hu, hg]
theorem km_next {W : World} {r b : Nat} {ks : List α} {js : List Nat} (h : KIt K W r b ks js) (ty : TypeId) :
    ((∀ j, j < ks.length → j ∈ js) ∧ (Instr.next (.pointer (some ⟨r, 0, none⟩)) false ty).run P W = .ok (.tuple #[.bool false]) W) ∨
    ∃ j a w', j ∉ js ∧ ks[j]? = some a ∧ (Instr.next (.pointer (some ⟨r, 0, none⟩)) false ty).run P W = .ok (.tuple #[.bool true, K a, .bool true]) w' ∧ KIt K w' r b ks (js ++ [j]) ∧ Kept (fun q => q = r) W w' ∧ w'.heap.size = W.heap.size := by
  obtain ⟨es, clock, hb, hr, hkeys, hborn, hbn, hval, hjn, hjl⟩ := h
  have hlen : es.toList.length = ks.length := by have := congrArg List.length hkeys; simpa using this
  have hgetb : ∀ j, j < ks.length → ∃ e, es.toList[j]? = some e ∧ (es.toList.map (·.born)).getD j 0 = e.born := fun j hj => by
    have hj' : j < es.toList.length := by omega
    exact ⟨es.toList[j], List.getElem?_eq_getElem hj', by rw [List.getD_eq_getElem?_getD, List.getElem?_map, List.getElem?_eq_getElem hj']; rfl⟩
  rcases run_next_at (P := P) W ty r b clock clock _ es clock hr hb hborn (Nat.le_refl _) with ⟨hz, hrun⟩ | ⟨e, he, w1, hw1, hrun⟩
  · refine .inl ⟨fun j hj => ?_, hrun⟩
    obtain ⟨e, hje, hbe⟩ := hgetb j hj
    have hem : e ∈ es.toList := List.mem_of_getElem? hje
    have hnl : e ∉ (leftOf es (js.map fun j => (es.toList.map (·.born)).getD j 0).toArray).toList := by
      intro hm
      have := List.length_pos_of_mem hm
      rw [Array.length_toList] at this
      omega
    have hcont : (js.map fun j => (es.toList.map (·.born)).getD j 0).toArray.contains e.born = true := by
      rcases hc : (js.map fun j => (es.toList.map (·.born)).getD j 0).toArray.contains e.born with _ | _
      · exfalso
        apply hnl
        unfold leftOf
        rw [Array.toList_filter, List.mem_filter]
        exact ⟨hem, by rw [hc]; rfl⟩
      · exact hc
    have hmem : e.born ∈ js.map fun j => (es.toList.map (·.born)).getD j 0 := by simpa using hcont
    obtain ⟨i, hi, hie⟩ := List.mem_map.1 hmem
    have hil := hjl i hi
    have : i = j := by
      have h1 : i < (es.toList.map (·.born)).length := by simp at hlen ⊢; omega
      have h2 : j < (es.toList.map (·.born)).length := by simp at hlen ⊢; omega
      have e1 : (es.toList.map (·.born))[i] = (es.toList.map (·.born))[j] := by
        have a1 : (es.toList.map (·.born)).getD i 0 = (es.toList.map (·.born))[i] := by rw [List.getD_eq_getElem?_getD, List.getElem?_eq_getElem h1]; rfl
        have a2 : (es.toList.map (·.born)).getD j 0 = (es.toList.map (·.born))[j] := by rw [List.getD_eq_getElem?_getD, List.getElem?_eq_getElem h2]; rfl
        rw [← a1, ← a2, hie, hbe]
      exact (List.getElem_inj hbn).1 e1
    rw [← this]; exact hi
  · unfold leftOf at he
    rw [Array.toList_filter, List.mem_filter] at he
    obtain ⟨hem, hnc⟩ := he
    obtain ⟨j, hj⟩ := List.mem_iff_getElem?.1 hem
    have hjlt : j < ks.length := by rw [← hlen]; exact (List.getElem?_eq_some_iff.1 hj).1
    obtain ⟨e', hje', hbe'⟩ := hgetb j hjlt
    rw [hj] at hje'
    obtain rfl := Option.some.inj hje'
    have hnj : j ∉ js := by
      intro hm
      simp at hnc
      exact hnc j hm (by simpa using hbe')
    have hka : K ks[j] = e.key := by
      have := congrArg (fun l => l[j]?) hkeys
      simp only [List.getElem?_map, hj, Option.map_some, List.getElem?_eq_getElem hjlt] at this
      exact (Option.some.inj this).symm
    have hw1h : w1.heap = W.heap := by rcases hw1 with rfl | rfl <;> rfl
    have hwo : w1.os = W.os ∧ w1.tape = W.tape ∧ w1.output = W.output := by rcases hw1 with rfl | rfl <;> exact ⟨rfl, rfl, rfl⟩
    have hne : b ≠ r := by rintro rfl; rw [hb] at hr; cases hr
    have hrl := lt_of_heap hr
    refine .inr ⟨j, ks[j], setBlock w1 r (.mapIter (some b) clock ((js.map fun j => (es.toList.map (·.born)).getD j 0).toArray.push e.born) clock), hnj, List.getElem?_eq_getElem hjlt, by rw [hrun, hka, hval e hem], ⟨es, clock, ?_, ?_, hkeys, hborn, hbn, hval, ?_, ?_⟩, ⟨hwo.1, hwo.2.1, hwo.2.2, by simp [setBlock, hw1h], fun q hq hm => ?_⟩, by simp [setBlock, hw1h]⟩
    · show (w1.heap.setIfInBounds r _)[b]? = _
      rw [Array.getElem?_setIfInBounds_ne (Ne.symm hne), hw1h, hb]
    · show (w1.heap.setIfInBounds r _)[r]? = _
      rw [Array.getElem?_setIfInBounds_self, hw1h, if_pos hrl, List.map_append, List.map_cons, List.map_nil, hbe']
      simp
    · rw [List.nodup_append]
      refine ⟨hjn, by simp, fun x hx y hy => ?_⟩
      simp at hy
      subst hy
      rintro rfl
      exact hnj hx
    · intro i hi
      rcases List.mem_append.1 hi with hi | hi
      · exact hjl i hi
      · simp at hi; subst hi; exact hjlt
    · show (w1.heap.setIfInBounds r _)[q]? = _
      rw [Array.getElem?_setIfInBounds_ne (fun e => hm e.symm), hw1h]
theorem km_entry {W : World} {r b j : Nat} {a : α} {ks : List α} {js : List Nat} (h : KIt K W r b ks (js ++ [j])) (ha : ks[j]? = some a) : (Instr.entry (.pointer (some ⟨r, 0, none⟩))).run P W = .ok (.tuple #[K a, .bool true]) W := by
  obtain ⟨es, clock, hb, hr, hkeys, hborn, hbn, hval, hjn, hjl⟩ := h
  have hjlt := (List.getElem?_eq_some_iff.1 ha).1
  have hlen : es.toList.length = ks.length := by have := congrArg List.length hkeys; simpa using this
  have hj : es.toList[j]? = some es.toList[j] := List.getElem?_eq_getElem (by omega)
  have hbe : (es.toList.map (·.born)).getD j 0 = es.toList[j].born := by rw [List.getD_eq_getElem?_getD, List.getElem?_map, hj]; rfl
  have hka : es.toList[j].key = K a := by
    have := congrArg (fun l => l[j]?) hkeys
    simp only [List.getElem?_map, hj, Option.map_some, ha] at this
    exact Option.some.inj this
  have hem : es.toList[j] ∈ es.toList := List.mem_of_getElem? hj
  rw [← hka, ← hval _ hem]
  refine run_entry_at W r b clock (js.map fun j => (es.toList.map (·.born)).getD j 0).toArray es clock _ ?_ hb hem hbn
  rw [hr, List.map_append, List.map_cons, List.map_nil, hbe]
  simp
end
end Go.Proofs.Ytpnfpdkoeednhaa

end
section
/- A map over integers; how far an iterator over a map has come. Over any program. -/
namespace Go.Proofs.Ytpnfpdkoeednhaa
open Go.RowKit
section
variable {P : Program} {kt mt : TypeId}
theorem KeyOps.of_int {et : TypeId} (hm : P.underlying mt = some (.map kt et)) (hk : P.underlying kt = some (.int .i64)) : KeyOps P kt mt (fun x : Int => Value.int .i64 x) := by
  refine ⟨⟨et, hm⟩, fun a b h => by injection h, fun a em w => ?_, fun a w => ?_, fun a es w hes => ?_⟩
  · show (Instr.checkKey em (9999 + 1) kt (.int .i64 a)).run P w = .ok () w
    unfold Instr.checkKey
    simp [run_underlying hk]
  · have : Instr.sameBits 10000 (.int .i64 a) (.int .i64 a) = true := by
      show Instr.sameBits (9999 + 1) (.int .i64 a) (.int .i64 a) = true
      simp [Instr.sameBits]
    unfold Instr.keyThatStays
    rw [if_pos this]
    rfl
  · have ask : ∀ (es : List MapEntry) (i : Nat), (∀ e ∈ es, ∃ b : Int, e.key = .int .i64 b) → (Instr.findNow (.int .i64) (.int .i64 a) es i = some none ∧ ∀ e ∈ es, e.key ≠ .int .i64 a) ∨
        ∃ j e, Instr.findNow (.int .i64) (.int .i64 a) es i = some (some (i + j, e.val)) ∧ es[j]? = some e ∧ e.key = .int .i64 a := by
      intro es
      induction es with
      | nil => intro i _; exact .inl ⟨rfl, by simp⟩
      | cons e es ih =>
        intro i h
        obtain ⟨b, hb⟩ := h e (by simp)
        by_cases hab : a = b
        · subst hab
          refine .inr ⟨0, e, ?_, rfl, hb⟩
          simp [Instr.findNow, Instr.sameNow, hb]
        · have hbe : (a == b) = false := by simpa using hab
          rcases ih (i + 1) (fun e' he' => h e' (by simp [he'])) with ⟨h1, h2⟩ | ⟨j, e', h1, h2, h3⟩
          · refine .inl ⟨?_, ?_⟩
            · simp [Instr.findNow, Instr.sameNow, hb, hbe, h1]
            · intro e' he'
              rcases List.mem_cons.1 he' with rfl | he'
              · rw [hb]; intro hh; injection hh with _ hh; exact hab hh.symm
              · exact h2 e' he'
          · refine .inr ⟨j + 1, e', ?_, by simpa using h2, h3⟩
            simp [Instr.findNow, Instr.sameNow, hb, hbe, h1]
            omega
    rcases ask es 0 hes with ⟨h1, h2⟩ | ⟨j, e, h1, h2, h3⟩
    · refine .inl ⟨?_, h2⟩
      simp [Instr.findKey, run_underlying hk, h1]
    · refine .inr ⟨j, e, ?_, h2, h3⟩
      rw [Nat.zero_add] at h1
      simp [Instr.findKey, run_underlying hk, h1]
end
section
variable {α : Type} {K : α → Value}
/-- How many keys the iterator has not yet handed out. -/
def mLeft (W : World) (r n : Nat) : Nat := match W.heap[r]? with
  | some (.mapIter _ _ seen _) => n - seen.size
  | _ => 0
theorem mLeft_eq {W : World} {r b : Nat} {ks : List α} {js : List Nat} (h : KIt K W r b ks js) : mLeft W r ks.length = ks.length - js.length := by
  obtain ⟨es, clock, h1, h2, h3⟩ := h
  simp [mLeft, h2]
theorem nodup_len {n : Nat} {js : List Nat} (h : js.Nodup) (hlt : ∀ j ∈ js, j < n) : js.length ≤ n := by
  have hp := perm_places h hlt
  have := hp.length_eq
  simp at this
  omega
theorem mLeft_lt {W W2 : World} {r b j : Nat} {ks : List α} {js : List Nat} (h : KIt K W r b ks js) (h2 : KIt K W2 r b ks (js ++ [j])) : mLeft W2 r ks.length < mLeft W r ks.length := by
  rw [mLeft_eq h, mLeft_eq h2]
  have := nodup_len h2.js.1 h2.js.2
  simp at this ⊢
  omega
end
end Go.Proofs.Ytpnfpdkoeednhaa

end
