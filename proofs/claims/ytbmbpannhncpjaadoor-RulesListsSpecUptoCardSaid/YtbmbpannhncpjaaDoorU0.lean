/- Rules and situations, plainly; how they lie in memory. -/
import Derived.Test.YtbmbpannhncpjaaDoorCore
namespace Go.Proofs.YtbmbpannhncpjaaDoor
open Go.RowKit

/-- A rule as its cells, and its kids. -/
inductive Ru where
  | mk (op course : Int) (name : ByteArray) (n d : Int) (kA : Option Addr) (kn kc : Nat) (kids : List Ru)
namespace Ru
def op : Ru → Int | mk op _ _ _ _ _ _ _ _ => op
def course : Ru → Int | mk _ c _ _ _ _ _ _ _ => c
def name : Ru → ByteArray | mk _ _ nm _ _ _ _ _ _ => nm
def n : Ru → Int | mk _ _ _ n _ _ _ _ _ => n
def d : Ru → Int | mk _ _ _ _ d _ _ _ _ => d
def kA : Ru → Option Addr | mk _ _ _ _ _ A _ _ _ => A
def kn : Ru → Nat | mk _ _ _ _ _ _ k _ _ => k
def kc : Ru → Nat | mk _ _ _ _ _ _ _ k _ => k
def kids : Ru → List Ru | mk _ _ _ _ _ _ _ _ ks => ks
def enc (x : Ru) : List Value := [.int .i64 x.op, .int .i64 x.course, .string x.name, .int .i64 x.n, .int .i64 x.d, .slice x.kA x.kn x.kc]
end Ru

/-- An element of a situation. -/
structure Sn where
  (course tries best : Int) (now : Bool)
def Sn.enc (x : Sn) : List Value := [.int .i64 x.course, .int .i64 x.tries, .int .i64 x.best, .bool x.now]
theorem Sn.enc_len (x : Sn) : x.enc.length = 4 := rfl
theorem Sn.enc_one (x : Sn) : ∀ u ∈ x.enc, u.oneCell' = true := by
  intro u hu; simp [Sn.enc] at hu; rcases hu with rfl | rfl | rfl | rfl <;> rfl
/-- A situation as its cells, and its elements. -/
structure Si where
  (sA : Option Addr) (sn sc : Nat) (earned num den : Int) (seen : List Sn)
def Si.enc (s : Si) : List Value := [.slice s.sA s.sn s.sc, .int .i64 s.earned, .int .i64 s.num, .int .i64 s.den]

/-- Rules of at most this height, in memory. -/
def ruRep : Nat → Rep Ru
  | 0 => fun _ _ _ _ => False
  | h + 1 => fun W n₀ x cs => cs = x.enc ∧ Rows 6 (ruRep h) W n₀ x.kA x.kn x.kc x.kids
theorem ruStable : ∀ h, (ruRep h).Stable
  | 0 => fun _ _ _ _ _ _ h _ _ => h
  | h + 1 => fun _ _ _ _ _ _ k hn hb => ⟨k.1, k.2.keep (ruStable h) hn hb⟩
/-- The kids of a rule in memory. -/
def RuIn (h : Nat) (W : World) (n₀ : Nat) (x : Ru) : Prop := Rows 6 (ruRep h) W n₀ x.kA x.kn x.kc x.kids
theorem RuIn.keep {h : Nat} {W W' : World} {n₀ n₁ : Nat} {x : Ru} (k : RuIn h W n₀ x) (hn : n₀ ≤ n₁) (hb : ∀ b, b < n₀ → W'.heap[b]? = W.heap[b]?) : RuIn h W' n₁ x := Rows.keep (ruStable h) k hn hb
theorem RuIn.below {h : Nat} {W W' : World} {n₀ : Nat} {x : Ru} (k : RuIn h W n₀ x) (hb : Below n₀ W W') : RuIn h W' n₀ x := Rows.below (ruStable h) k hb
theorem RuIn.len {h : Nat} {W : World} {n₀ : Nat} {x : Ru} (k : RuIn h W n₀ x) : x.kn = x.kids.length := k.1
theorem RuIn.get {h : Nat} {W : World} {n₀ : Nat} {x : Ru} (k : RuIn h W n₀ x) {i : Nat} (hi : i < x.kn) :
    ∃ h' b off y, h = h' + 1 ∧ x.kA = some ⟨b, off, none⟩ ∧ b < n₀ ∧ x.kids[i]? = some y ∧ RuIn h' W n₀ y ∧ W.cell? ⟨b, off + i * 6, none⟩ = some (.int .i64 y.op) ∧ W.cell? ⟨b, off + i * 6 + 1, none⟩ = some (.int .i64 y.course) ∧
      W.cell? ⟨b, off + i * 6 + 2, none⟩ = some (.string y.name) ∧ W.cell? ⟨b, off + i * 6 + 3, none⟩ = some (.int .i64 y.n) ∧ W.cell? ⟨b, off + i * 6 + 4, none⟩ = some (.int .i64 y.d) ∧ W.cell? ⟨b, off + i * 6 + 5, none⟩ = some (.slice y.kA y.kn y.kc) := by
  obtain ⟨b, off, y, cs, e, hlt, hk', hr, hc⟩ := Rows.get k hi
  cases h with
  | zero => exact hr.elim
  | succ h' =>
    obtain ⟨rfl, hr⟩ := hr
    exact ⟨h', b, off, y, rfl, e, hlt, hk', hr, hc 0 _ rfl, hc 1 _ rfl, hc 2 _ rfl, hc 3 _ rfl, hc 4 _ rfl, hc 5 _ rfl⟩
abbrev ruSl (h : Nat) := Rows 6 (ruRep h)
theorem ruSl.get {h : Nat} {W : World} {n₀ n c i : Nat} {A : Option Addr} {l : List Ru} (k : ruSl h W n₀ A n c l) (hi : i < n) :
    ∃ h' b off y, h = h' + 1 ∧ A = some ⟨b, off, none⟩ ∧ b < n₀ ∧ l[i]? = some y ∧ RuIn h' W n₀ y ∧ W.cell? ⟨b, off + i * 6, none⟩ = some (.int .i64 y.op) ∧ W.cell? ⟨b, off + i * 6 + 1, none⟩ = some (.int .i64 y.course) ∧
      W.cell? ⟨b, off + i * 6 + 2, none⟩ = some (.string y.name) ∧ W.cell? ⟨b, off + i * 6 + 3, none⟩ = some (.int .i64 y.n) ∧ W.cell? ⟨b, off + i * 6 + 4, none⟩ = some (.int .i64 y.d) ∧ W.cell? ⟨b, off + i * 6 + 5, none⟩ = some (.slice y.kA y.kn y.kc) := by
  obtain ⟨b, off, y, cs, e, hlt, hk', hr, hc⟩ := Rows.get k hi
  cases h with
  | zero => exact hr.elim
  | succ h' =>
    obtain ⟨rfl, hr⟩ := hr
    exact ⟨h', b, off, y, rfl, e, hlt, hk', hr, hc 0 _ rfl, hc 1 _ rfl, hc 2 _ rfl, hc 3 _ rfl, hc 4 _ rfl, hc 5 _ rfl⟩

abbrev snSl := Rows 4 (Rep.flat Sn.enc)
theorem snStable : (Rep.flat Sn.enc).Stable := Rep.flat_stable _
def SiIn (W : World) (n₀ : Nat) (s : Si) : Prop := snSl W n₀ s.sA s.sn s.sc s.seen
theorem SiIn.keep {W W' : World} {n₀ n₁ : Nat} {s : Si} (k : SiIn W n₀ s) (hn : n₀ ≤ n₁) (hb : ∀ b, b < n₀ → W'.heap[b]? = W.heap[b]?) : SiIn W' n₁ s := Rows.keep snStable k hn hb
theorem SiIn.below {W W' : World} {n₀ : Nat} {s : Si} (k : SiIn W n₀ s) (hb : Below n₀ W W') : SiIn W' n₀ s := Rows.below snStable k hb
theorem snSl.get {W : World} {n₀ n c i : Nat} {A : Option Addr} {l : List Sn} (k : snSl W n₀ A n c l) (hi : i < n) :
    ∃ b off y, A = some ⟨b, off, none⟩ ∧ b < n₀ ∧ l[i]? = some y ∧ W.cell? ⟨b, off + i * 4, none⟩ = some (.int .i64 y.course) ∧ W.cell? ⟨b, off + i * 4 + 1, none⟩ = some (.int .i64 y.tries) ∧ W.cell? ⟨b, off + i * 4 + 2, none⟩ = some (.int .i64 y.best) ∧ W.cell? ⟨b, off + i * 4 + 3, none⟩ = some (.bool y.now) := by
  obtain ⟨b, off, y, cs, e, hlt, hk', rfl, hc⟩ := Rows.get k hi
  exact ⟨b, off, y, e, hlt, hk', hc 0 _ rfl, hc 1 _ rfl, hc 2 _ rfl, hc 3 _ rfl⟩

/-- OK, or an error. -/
def okOr (b : Bool) (e : Int) : Int := match b with | true => 0 | false => e
/-- A valid fraction. -/
def ratB (a b : Int) : Bool := decide (1 ≤ b ∧ b ≤ 1073741824 ∧ -1073741824 ≤ a ∧ a ≤ 1073741824) && decide (Nat.gcd a.natAbs b.natAbs = 1)
def meanB (a b : Int) : Bool := ratB a b && decide (0 ≤ a) && decide (a ≤ 12 * b)
def withinB (n a b : Int) : Bool := decide (a ≤ n) && decide (n ≤ b)
def courseB (c : Int) : Bool := withinB c 0 4095
/-- What is asked of a part's numbers by its operation. -/
def rightB (op c n d : Int) (k : Nat) : Bool :=
  if op = 1 ∨ op = 2 then true else if op = 3 then withinB n 0 200 else if op = 4 then decide (k = 1) else if op = 5 then courseB c && withinB n 0 12 else if op = 6 then courseB c && withinB n 1 100
  else if op = 7 then withinB n 0 10000 else if op = 8 then meanB n d else courseB c
def useC (op : Int) : Bool := decide (op = 5 ∨ op = 6 ∨ op = 9)
def useN (op : Int) : Bool := decide (op = 3 ∨ op = 5 ∨ op = 6 ∨ op = 7 ∨ op = 8)
def useD (op : Int) : Bool := decide (op = 8)
def useK (op : Int) : Bool := decide (op = 1 ∨ op = 2 ∨ op = 3 ∨ op = 4)
def formedB (x : Ru) : Bool := withinB x.op 1 9 && (useC x.op || decide (x.course = 0)) && (useN x.op || decide (x.n = 0)) && (useD x.op || decide (x.d = 0)) && (useK x.op || decide (x.kids.length = 0)) && rightB x.op x.course x.n x.d x.kids.length

def aboutS : List Sn → Int → Sn
  | [], c => ⟨c, 0, -1, false⟩
  | x :: l, c => if x.course = c then x else aboutS l c
/-- Is a fraction at least another one? -/
def atLeast (num den n d : Int) : Bool := decide (n * den ≤ num * d)
def holdsK (s : Si) (op c n d : Int) (k cnt : Nat) : Bool :=
  if op = 1 then decide (cnt = k) else if op = 2 then decide (0 < cnt) else if op = 3 then decide (n ≤ cnt) else if op = 4 then decide (cnt = 0) else if op = 5 then decide (n ≤ (aboutS s.seen c).best)
  else if op = 6 then decide (n ≤ (aboutS s.seen c).tries) else if op = 7 then decide (n ≤ s.earned) else if op = 8 then atLeast s.num s.den n d else (aboutS s.seen c).now
mutual
def valR (s : Si) : Ru → Bool
  | .mk op c _ n d _ _ _ ks => holdsK s op c n d ks.length (cntR s ks)
def cntR (s : Si) : List Ru → Nat
  | [] => 0
  | x :: l => (if valR s x = true then 1 else 0) + cntR s l
end
theorem cntR_append (s : Si) (l m : List Ru) : cntR s (l ++ m) = cntR s l + cntR s m := by
  induction l with
  | nil => simp [cntR]
  | cons x l ih => simp [cntR, ih, Nat.add_assoc]
theorem cntR_step {s : Si} {l : List Ru} {i : Nat} {x : Ru} (h : l[i]? = some x) : cntR s (l.take (i + 1)) = cntR s (l.take i) + if valR s x = true then 1 else 0 := by
  rw [take_snoc h, cntR_append]; simp [cntR]
theorem cntR_le (s : Si) : ∀ l : List Ru, cntR s l ≤ l.length
  | [] => by simp [cntR]
  | x :: l => by
    have := cntR_le s l
    simp only [cntR, List.length_cons]
    split <;> omega
theorem valR_eq (s : Si) (x : Ru) : valR s x = holdsK s x.op x.course x.n x.d x.kids.length (cntR s x.kids) := by
  cases x; rfl

/-- The parts of a rule with their depths. -/
abbrev DRu := Int × Ru
mutual
def partsD (dep : Int) : Ru → List DRu
  | .mk op c nm n d A k m ks => (dep, .mk op c nm n d A k m ks) :: partsL (wrap64 (dep + 1)) ks
def partsL (dep : Int) : List Ru → List DRu
  | [] => []
  | x :: l => partsD dep x ++ partsL dep l
end
theorem partsL_append (dep : Int) (l m : List Ru) : partsL dep (l ++ m) = partsL dep l ++ partsL dep m := by
  induction l with
  | nil => simp [partsL]
  | cons x l ih => simp [partsL, ih]
theorem partsL_step {dep : Int} {l : List Ru} {i : Nat} {x : Ru} (h : l[i]? = some x) : partsL dep (l.take (i + 1)) = partsL dep (l.take i) ++ partsD dep x := by
  rw [take_snoc h, partsL_append]; simp [partsL]
theorem partsD_eq (dep : Int) (x : Ru) : partsD dep x = (dep, x) :: partsL (wrap64 (dep + 1)) x.kids := by
  cases x; rfl
theorem partsL_split {dep : Int} {l : List Ru} {i : Nat} {x : Ru} (h : l[i]? = some x) : partsL dep l = partsL dep (l.take i) ++ partsD dep x ++ partsL dep (l.drop (i + 1)) := by
  conv => lhs; rw [split_at h]
  rw [partsL_append]
  simp [partsL]

/-- Are all parts right, and so many and so deep? -/
def checkL : Nat → List DRu → Bool
  | _, [] => true
  | k, x :: l => decide (k + 1 ≤ 200) && decide (x.1 ≤ 16) && formedB x.2 && checkL (k + 1) l
def checkB (x : Ru) : Bool := checkL 0 (partsD 1 x)
def errRule : Int := 120
def fitsL : Int → List Sn → Bool
  | _, [] => true
  | last, x :: l => withinB x.course (last + 1) 4095 && withinB x.tries 0 100 && withinB x.best (-1) 12 && (decide (0 ≤ x.best) == decide (1 ≤ x.tries)) && fitsL x.course l
def fitsB (s : Si) : Bool := fitsL (-1) s.seen && withinB s.earned 0 10000 && meanB s.num s.den
end Go.Proofs.YtbmbpannhncpjaaDoor
