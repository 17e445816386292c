/- Facts, plainly: no program in sight. -/
import Derived.Test.YtologegkbcedhaaCore
namespace Go.Proofs.Ytologegkbcedhaa
open Go.RowKit

structure Ky where
  (kind subj obj : Int)
structure Fc where
  (key : Ky)
  (val fr to known no : Int)
theorem Ky.ext' {a b : Ky} (h1 : a.kind = b.kind) (h2 : a.subj = b.subj) (h3 : a.obj = b.obj) : a = b := by
  cases a; cases b; simp_all
theorem Fc.ext' {a b : Fc} (h0 : a.key = b.key) (h1 : a.val = b.val) (h2 : a.fr = b.fr) (h3 : a.to = b.to) (h4 : a.known = b.known) (h5 : a.no = b.no) : a = b := by
  cases a; cases b; simp_all
instance : DecidableEq Ky := fun a b => decidable_of_iff (a.kind = b.kind ∧ a.subj = b.subj ∧ a.obj = b.obj) ⟨fun ⟨h1, h2, h3⟩ => Ky.ext' h1 h2 h3, fun h => by subst h; exact ⟨rfl, rfl, rfl⟩⟩
instance : DecidableEq Fc := fun a b => decidable_of_iff (a.key = b.key ∧ a.val = b.val ∧ a.fr = b.fr ∧ a.to = b.to ∧ a.known = b.known ∧ a.no = b.no) ⟨fun ⟨h0, h1, h2, h3, h4, h5⟩ => Fc.ext' h0 h1 h2 h3 h4 h5, fun h => by subst h; exact ⟨rfl, rfl, rfl, rfl, rfl, rfl⟩⟩
instance : Inhabited Ky := ⟨⟨0, 0, 0⟩⟩
instance : Inhabited Fc := ⟨⟨⟨0, 0, 0⟩, 0, 0, 0, 0, 0⟩⟩
def kEnc (k : Ky) : List Value := [.int .i64 k.kind, .int .i64 k.subj, .int .i64 k.obj]
def fEnc (f : Fc) : List Value := [.int .i64 f.key.kind, .int .i64 f.key.subj, .int .i64 f.key.obj, .int .i64 f.val, .int .i64 f.fr, .int .i64 f.to, .int .i64 f.known, .int .i64 f.no]
theorem kEnc_len (x : Ky) : (kEnc x).length = 3 := rfl
theorem fEnc_len (x : Fc) : (fEnc x).length = 8 := rfl
theorem kEnc_one (x : Ky) : ∀ u ∈ kEnc x, u.oneCell' = true := by
  intro u hu; simp [kEnc] at hu; rcases hu with rfl | rfl | rfl <;> rfl
theorem fEnc_one (x : Fc) : ∀ u ∈ fEnc x, u.oneCell' = true := by
  intro u hu; simp [fEnc] at hu; rcases hu with rfl | rfl | rfl | rfl | rfl | rfl | rfl | rfl <;> rfl

/-- Is it valid? -/
def Fc.ok (f : Fc) : Bool := decide (1 ≤ f.key.kind) && decide (f.key.kind ≤ 12) && decide (0 ≤ f.key.subj) && decide (f.key.subj ≤ 20000) && decide (0 ≤ f.key.obj) && decide (f.key.obj ≤ 20000) && decide (-1 ≤ f.val) && decide (f.val ≤ 1099511627776) && decide (0 ≤ f.fr) && decide (f.fr < f.to) && decide (f.to ≤ 1024) && decide (1 ≤ f.known) && decide (f.known ≤ 16777216) && decide (0 ≤ f.no) && decide (f.no ≤ 65535)
/-- Does it come before? -/
def Fc.bef (a b : Fc) : Bool := decide (a.known < b.known) || (decide (a.known = b.known) && decide (a.no < b.no))
def cmpI (x y : Int) : Int := if x < y then -1 else if y < x then 1 else 0
def orI (l : List Int) : Int := (l.find? fun x => decide (x ≠ 0)).getD 0
def cmpF (a b : Fc) : Int := orI [cmpI a.known b.known, cmpI a.no b.no]
def cmpK (a b : Ky) : Int := orI [cmpI a.kind b.kind, cmpI a.subj b.subj, cmpI a.obj b.obj]
def Ky.lt (a b : Ky) : Bool := decide (a.kind < b.kind) || (decide (a.kind = b.kind) && (decide (a.subj < b.subj) || (decide (a.subj = b.subj) && decide (a.obj < b.obj))))
theorem cmpI_cases (x y : Int) : (x < y ∧ cmpI x y = -1) ∨ (x = y ∧ cmpI x y = 0) ∨ (y < x ∧ cmpI x y = 1) := by
  unfold cmpI
  rcases Int.lt_trichotomy x y with h | h | h
  · left; simp [h]
  · right; left; subst h; simp
  · right; right; have : ¬ x < y := by omega
    simp [h, this]
theorem orI_cons (x : Int) (l : List Int) : orI (x :: l) = if x = 0 then orI l else x := by
  unfold orI; by_cases h : x = 0 <;> simp [h]
theorem orI_nil : orI [] = 0 := rfl
theorem cmpF_lt (a b : Fc) : cmpF a b < 0 ↔ a.bef b = true := by
  unfold cmpF Fc.bef
  rw [orI_cons, orI_cons, orI_nil]
  rcases cmpI_cases a.known b.known with ⟨h1, e1⟩ | ⟨h1, e1⟩ | ⟨h1, e1⟩ <;> rcases cmpI_cases a.no b.no with ⟨h2, e2⟩ | ⟨h2, e2⟩ | ⟨h2, e2⟩ <;> simp [e1, e2] <;> omega
theorem cmpF_ge (a b : Fc) : (decide (0 ≤ cmpF a b)) = !a.bef b := by
  have := cmpF_lt a b
  cases h : a.bef b
  · simp; rw [h] at this; simp at this; omega
  · simp; rw [h] at this; simp at this; omega
theorem cmpK_lt (a b : Ky) : cmpK a b < 0 ↔ a.lt b = true := by
  unfold cmpK Ky.lt
  rw [orI_cons, orI_cons, orI_cons, orI_nil]
  rcases cmpI_cases a.kind b.kind with ⟨h1, e1⟩ | ⟨h1, e1⟩ | ⟨h1, e1⟩ <;> rcases cmpI_cases a.subj b.subj with ⟨h2, e2⟩ | ⟨h2, e2⟩ | ⟨h2, e2⟩ <;> rcases cmpI_cases a.obj b.obj with ⟨h3, e3⟩ | ⟨h3, e3⟩ | ⟨h3, e3⟩ <;> simp [e1, e2, e3] <;> omega

/-- Check. -/
def sortedB : List Fc → Bool
  | [] => true
  | [_] => true
  | a :: b :: l => a.bef b && sortedB (b :: l)
def checkF (l : List Fc) : Int := if l.all Fc.ok = true then (if sortedB l = true then 0 else 71) else 70
/-- Add: the error. -/
def addE (l : List Fc) (f : Fc) : Int := if checkF l = 0 then (if f.ok = true then (match l.getLast? with | some x => if x.bef f = true then 0 else 71 | none => 0) else 70) else checkF l
def addL (l : List Fc) (f : Fc) : List Fc := if addE l f = 0 then l ++ [f] else []

/-- The facts of a key that are known at a time. -/
def ofF (l : List Fc) (k : Ky) (known : Int) : List Fc := l.filter fun f => decide (f.key = k) && decide (f.known ≤ known)
def Fc.at (f : Fc) (t : Int) : Bool := decide (f.fr ≤ t) && decide (t < f.to)
def better (t : Int) (b : Option Fc) (f : Fc) : Option Fc := if f.at t = true then (match b with | none => some f | some x => if f.bef x = true then b else some f) else b
/-- The best of facts in a term. -/
def bestF (l : List Fc) (t : Int) : Option Fc := l.foldl (better t) none
theorem bestF_nil (t : Int) : bestF [] t = none := rfl
theorem bestF_snoc (l : List Fc) (f : Fc) (t : Int) : bestF (l ++ [f]) t = better t (bestF l t) f := by simp [bestF]
/-- At. -/
def atF (l : List Fc) (k : Ky) (t known : Int) : Option Int := match bestF (ofF l k known) t with | none => none | some f => if f.val < 0 then none else some f.val
def valF (l : List Fc) (k : Ky) (t known : Int) : Int := (atF l k t known).getD (-1)
def terms : List Int := (List.range 1024).map fun (n : Nat) => (n : Int)
def rowF (l : List Fc) (k : Ky) (known : Int) : List Int := terms.map fun t => valF l k t known
/-- Points. -/
def pointsTo (l : List Fc) (k : Ky) (a b known : Int) : List (Int × Int) := (List.range (b - a).toNat).flatMap fun (n : Nat) => match atF l k (a + n) known with | some v => [(a + n, v)] | none => []
def pointsF (l : List Fc) (k : Ky) (a b known : Int) : List (Int × Int) := pointsTo l k (max 0 a) (min b 1024) known
def alikeF (l : List Fc) (reads : List (Ky × Int × Int)) (before after : Int) : Bool := reads.all fun r => decide (pointsF l r.1 r.2.1 r.2.2 before = pointsF l r.1 r.2.1 r.2.2 after)
def uptoF (l : List Fc) (known : Int) : List Fc := l.filter fun f => decide (f.known ≤ known)
/-- Terms joined to spans: one more. -/
def joinT (s : List (Int × Int)) (t : Int) : List (Int × Int) := match s.getLast? with
  | some x => if x.2 = t then s.dropLast ++ [(x.1, t + 1)] else s ++ [(t, t + 1)]
  | none => [(t, t + 1)]
def diffB (l : List Fc) (k : Ky) (before after t : Int) : Bool := decide (atF l k t before ≠ atF l k t after)
def spansTo (l : List Fc) (k : Ky) (before after : Int) (n : Nat) : List (Int × Int) := (List.range n).foldl (fun s (t : Nat) => if diffB l k before after t = true then joinT s t else s) []
def spansF (l : List Fc) (k : Ky) (before after : Int) : List (Int × Int) := spansTo l k before after 1024
/-- A key laid into keys in order, once. -/
def insK (k : Ky) : List Ky → List Ky
  | [] => [k]
  | x :: l => if x.lt k = true then x :: insK k l else if x = k then x :: l else k :: x :: l
def keysF (l : List Fc) : List Ky := l.foldl (fun s f => insK f.key s) []
def changeOf (l : List Fc) (before after : Int) (k : Ky) : List (Ky × List (Int × Int)) := if spansF l k before after = [] then [] else [(k, spansF l k before after)]
def changedF (l : List Fc) (before after : Int) : List (Ky × List (Int × Int)) := (keysF l).flatMap (changeOf l before after)
theorem Ky.lt_irrefl (a : Ky) : a.lt a = false := by simp [Ky.lt]
theorem Ky.lt_iff (a b : Ky) : a.lt b = true ↔ a.kind < b.kind ∨ (a.kind = b.kind ∧ (a.subj < b.subj ∨ (a.subj = b.subj ∧ a.obj < b.obj))) := by simp [Ky.lt]
theorem Ky.lt_trans {a b c : Ky} (h1 : a.lt b = true) (h2 : b.lt c = true) : a.lt c = true := by
  rw [Ky.lt_iff] at *; omega
theorem Ky.lt_tri (a b : Ky) : a.lt b = true ∨ a = b ∨ b.lt a = true := by
  rw [Ky.lt_iff, Ky.lt_iff]
  rcases Int.lt_trichotomy a.kind b.kind with h | h | h
  · exact .inl (.inl h)
  · rcases Int.lt_trichotomy a.subj b.subj with h' | h' | h'
    · exact .inl (.inr ⟨h, .inl h'⟩)
    · rcases Int.lt_trichotomy a.obj b.obj with h'' | h'' | h''
      · exact .inl (.inr ⟨h, .inr ⟨h', h''⟩⟩)
      · exact .inr (.inl (Ky.ext' h h' h''))
      · exact .inr (.inr (.inr ⟨h.symm, .inr ⟨h'.symm, h''⟩⟩))
    · exact .inr (.inr (.inr ⟨h.symm, .inl h'⟩))
  · exact .inr (.inr (.inl h))
theorem lt_asymm {a b : Ky} (h : a.lt b = true) : b.lt a = false := by
  rcases hb : b.lt a with _ | _
  · rfl
  · have := Ky.lt_trans h hb
    rw [Ky.lt_irrefl] at this; cases this
abbrev Rd := Ky × Int × Int
def rdEnc (r : Rd) : List Value := [.int .i64 r.1.kind, .int .i64 r.1.subj, .int .i64 r.1.obj, .int .i64 r.2.1, .int .i64 r.2.2]
theorem rdEnc_len (x : Rd) : (rdEnc x).length = 5 := rfl
abbrev RdSl := Rows 5 (Rep.flat rdEnc)
theorem rdStable : (Rep.flat rdEnc).Stable := Rep.flat_stable _
theorem RdSl.get {n₀ n c k : Nat} {A : Option Addr} {l : List Rd} {W : World} (h : RdSl W n₀ A n c l) (hk : k < n) :
    ∃ b off m, A = some ⟨b, off, none⟩ ∧ b < n₀ ∧ l[k]? = some m ∧ W.cell? ⟨b, off + k * 5, none⟩ = some (.int .i64 m.1.kind) ∧ W.cell? ⟨b, off + k * 5 + 1, none⟩ = some (.int .i64 m.1.subj) ∧ W.cell? ⟨b, off + k * 5 + 2, none⟩ = some (.int .i64 m.1.obj) ∧ W.cell? ⟨b, off + k * 5 + 3, none⟩ = some (.int .i64 m.2.1) ∧ W.cell? ⟨b, off + k * 5 + 4, none⟩ = some (.int .i64 m.2.2) := by
  obtain ⟨b, off, m, cs, e, hlt, hk', rfl, hc⟩ := Rows.get h hk
  exact ⟨b, off, m, e, hlt, hk', hc 0 _ rfl, hc 1 _ rfl, hc 2 _ rfl, hc 3 _ rfl, hc 4 _ rfl⟩
end Go.Proofs.Ytologegkbcedhaa
