/- Several texts in one: F0 Ord KMap IMap. -/
import Derived.Test.YtpnfpdkoeednhaaM1
import Derived.Maps.RangeRun
import Derived.Maps.Keyed
section
/- Facts, plainly: no program in sight. -/
namespace Go.Proofs.Ytpnfpdkoeednhaa
open Go.RowKit

structure Ky where
  (kind subj obj : Int)
structure Fc where
  (key : Ky)
  (val fr to known no : Int)
theorem Ky.ext' {a b : Ky} (h1 : a.kind = b.kind) (h2 : a.subj = b.subj) (h3 : a.obj = b.obj) : a = b := by
  cases a; cases b; simp_all
theorem Fc.ext' {a b : Fc} (h0 : a.key = b.key) (h1 : a.val = b.val) (h2 : a.fr = b.fr) (h3 : a.to = b.to) (h4 : a.known = b.known) (h5 : a.no = b.no) : a = b := by
  cases a; cases b; simp_all
instance : DecidableEq Ky := fun a b => decidable_of_iff (a.kind = b.kind ∧ a.subj = b.subj ∧ a.obj = b.obj) ⟨fun ⟨h1, h2, h3⟩ => Ky.ext' h1 h2 h3, fun h => by subst h; exact ⟨rfl, rfl, rfl⟩⟩
instance : DecidableEq Fc := fun a b => decidable_of_iff (a.key = b.key ∧ a.val = b.val ∧ a.fr = b.fr ∧ a.to = b.to ∧ a.known = b.known ∧ a.no = b.no) ⟨fun ⟨h0, h1, h2, h3, h4, h5⟩ => Fc.ext' h0 h1 h2 h3 h4 h5, fun h => by subst h; exact ⟨rfl, rfl, rfl, rfl, rfl, rfl⟩⟩
instance : Inhabited Ky := ⟨⟨0, 0, 0⟩⟩
instance : Inhabited Fc := ⟨⟨⟨0, 0, 0⟩, 0, 0, 0, 0, 0⟩⟩
def kEnc (k : Ky) : List Value := [.int .i64 k.kind, .int .i64 k.subj, .int .i64 k.obj]
def fEnc (f : Fc) : List Value := [.int .i64 f.key.kind, .int .i64 f.key.subj, .int .i64 f.key.obj, .int .i64 f.val, .int .i64 f.fr, .int .i64 f.to, .int .i64 f.known, .int .i64 f.no]
theorem fEnc_len (x : Fc) : (fEnc x).length = 8 := rfl
theorem fEnc_one (x : Fc) : ∀ u ∈ fEnc x, u.oneCell' = true := by
  intro u hu; simp [fEnc] at hu; rcases hu with rfl | rfl | rfl | rfl | rfl | rfl | rfl | rfl <;> rfl

/-- Is it valid? -/
def Fc.ok (f : Fc) : Bool := decide (1 ≤ f.key.kind) && decide (f.key.kind ≤ 12) && decide (0 ≤ f.key.subj) && decide (f.key.subj ≤ 20000) && decide (0 ≤ f.key.obj) && decide (f.key.obj ≤ 20000) && decide (-1 ≤ f.val) && decide (f.val ≤ 1099511627776) && decide (0 ≤ f.fr) && decide (f.fr < f.to) && decide (f.to ≤ 1024) && decide (1 ≤ f.known) && decide (f.known ≤ 16777216) && decide (0 ≤ f.no) && decide (f.no ≤ 65535)
/-- Does it come before? -/
def Fc.bef (a b : Fc) : Bool := decide (a.known < b.known) || (decide (a.known = b.known) && decide (a.no < b.no))
def cmpI (x y : Int) : Int := if x < y then -1 else if y < x then 1 else 0
def orI (l : List Int) : Int := (l.find? fun x => decide (x ≠ 0)).getD 0
def cmpF (a b : Fc) : Int := orI [cmpI a.known b.known, cmpI a.no b.no]
def Ky.lt (a b : Ky) : Bool := decide (a.kind < b.kind) || (decide (a.kind = b.kind) && (decide (a.subj < b.subj) || (decide (a.subj = b.subj) && decide (a.obj < b.obj))))
theorem cmpI_cases (x y : Int) : (x < y ∧ cmpI x y = -1) ∨ (x = y ∧ cmpI x y = 0) ∨ (y < x ∧ cmpI x y = 1) := by
  unfold cmpI
  rcases Int.lt_trichotomy x y with h | h | h
  · left; simp [h]
  · right; left; subst h; simp
  · right; right; have : ¬ x < y := by omega
    simp [h, this]
theorem orI_cons (x : Int) (l : List Int) : orI (x :: l) = if x = 0 then orI l else x := by
  unfold orI; by_cases h : x = 0 <;> simp [h]
theorem orI_nil : orI [] = 0 := rfl
theorem cmpF_lt (a b : Fc) : cmpF a b < 0 ↔ a.bef b = true := by
  unfold cmpF Fc.bef
  rw [orI_cons, orI_cons, orI_nil]
  rcases cmpI_cases a.known b.known with ⟨h1, e1⟩ | ⟨h1, e1⟩ | ⟨h1, e1⟩ <;> rcases cmpI_cases a.no b.no with ⟨h2, e2⟩ | ⟨h2, e2⟩ | ⟨h2, e2⟩ <;> simp [e1, e2] <;> omega
theorem cmpF_ge (a b : Fc) : (decide (0 ≤ cmpF a b)) = !a.bef b := by
  have := cmpF_lt a b
  cases h : a.bef b
  · simp; rw [h] at this; simp at this; omega
  · simp; rw [h] at this; simp at this; omega
/-- Check. -/
def sortedB : List Fc → Bool
  | [] => true
  | [_] => true
  | a :: b :: l => a.bef b && sortedB (b :: l)
def checkF (l : List Fc) : Int := if l.all Fc.ok = true then (if sortedB l = true then 0 else 71) else 70
/-- The facts of a key that are known at a time. -/
def ofF (l : List Fc) (k : Ky) (known : Int) : List Fc := l.filter fun f => decide (f.key = k) && decide (f.known ≤ known)
def Fc.at (f : Fc) (t : Int) : Bool := decide (f.fr ≤ t) && decide (t < f.to)
def better (t : Int) (b : Option Fc) (f : Fc) : Option Fc := if f.at t = true then (match b with | none => some f | some x => if f.bef x = true then b else some f) else b
/-- The best of facts in a term. -/
def bestF (l : List Fc) (t : Int) : Option Fc := l.foldl (better t) none
theorem bestF_snoc (l : List Fc) (f : Fc) (t : Int) : bestF (l ++ [f]) t = better t (bestF l t) f := by simp [bestF]
/-- At. -/
def atF (l : List Fc) (k : Ky) (t known : Int) : Option Int := match bestF (ofF l k known) t with | none => none | some f => if f.val < 0 then none else some f.val
/-- A key laid into keys in order, once. -/
def insK (k : Ky) : List Ky → List Ky
  | [] => [k]
  | x :: l => if x.lt k = true then x :: insK k l else if x = k then x :: l else k :: x :: l
end Go.Proofs.Ytpnfpdkoeednhaa

end
section
/- Lists in strict order: a value laid in once, neighbours alike struck out. Plain. -/
namespace Go.Proofs.Ytpnfpdkoeednhaa

section ord
variable {α : Type} (lt : α → α → Bool)
variable [DecidableEq α]
def ins (x : α) : List α → List α
  | [] => [x]
  | y :: l => if lt y x = true then y :: ins x l else if y = x then y :: l else x :: y :: l
variable {lt}
end ord
section ord2
variable {α : Type}
end ord2
end Go.Proofs.Ytpnfpdkoeednhaa

end
section
/- A map that the call itself has made, all of whose values are true, read as a list of its keys. Over any program. -/
namespace Go.Proofs.Ytpnfpdkoeednhaa
open Go.RowKit
open Go.ChangeMaps (setBlock)

section
variable {α : Type} {P : Program} {kt mt : TypeId} {K : α → Value}

end
end Go.Proofs.Ytpnfpdkoeednhaa
namespace Go.Proofs.Ytpnfpdkoeednhaa
open Go.RowKit
open Go.ChangeMaps (setBlock)
section
variable {α : Type} {P : Program} {K : α → Value}

end
end Go.Proofs.Ytpnfpdkoeednhaa

end
section
/- A map over integers; how far an iterator over a map has come. Over any program. -/
namespace Go.Proofs.Ytpnfpdkoeednhaa
open Go.RowKit
section
variable {P : Program} {kt mt : TypeId}
end
section
variable {α : Type} {K : α → Value}
end
end Go.Proofs.Ytpnfpdkoeednhaa

end

