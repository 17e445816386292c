/- Several texts in one: A0 A1 A2. -/
import Derived.Test.YtpnfpdkoeednhaaM2
import Derived.Test.YtpnfpdkoeednhaaF1
import Derived.Recover
import Derived.Laws.Pointers
section
/- Pages, plainly: no program in sight. -/
namespace Go.Proofs.Ytpnfpdkoeednhaa
open Go.RowKit

/-- A page: its facts, and the pages below it. -/
structure Pv where
  (facts : List Fc)
  (kids : List Int)
instance : DecidableEq Pv := fun a b => decidable_of_iff (a.facts = b.facts ∧ a.kids = b.kids) ⟨fun ⟨h1, h2⟩ => by cases a; cases b; simp_all, fun h => by subst h; exact ⟨rfl, rfl⟩⟩
instance : Inhabited Pv := ⟨⟨[], []⟩⟩
/-- The order of the index. -/
def ltP (a b : Fc) : Bool := a.key.lt b.key || (decide (a.key = b.key) && a.bef b)
def cmpP (a b : Fc) : Int := orI [cmpI a.key.kind b.key.kind, cmpI a.key.subj b.key.subj, cmpI a.key.obj b.key.obj, cmpI a.known b.known, cmpI a.no b.no]
theorem keyP_eq (a b : Fc) : a.key = b.key ↔ a.key.kind = b.key.kind ∧ a.key.subj = b.key.subj ∧ a.key.obj = b.key.obj :=
  ⟨fun h => by rw [h]; exact ⟨rfl, rfl, rfl⟩, fun ⟨h1, h2, h3⟩ => Ky.ext' h1 h2 h3⟩
theorem ltP_iff (a b : Fc) : ltP a b = true ↔ a.key.kind < b.key.kind ∨ (a.key.kind = b.key.kind ∧ (a.key.subj < b.key.subj ∨ (a.key.subj = b.key.subj ∧ (a.key.obj < b.key.obj ∨ (a.key.obj = b.key.obj ∧ (a.known < b.known ∨ (a.known = b.known ∧ a.no < b.no))))))) := by
  unfold ltP Ky.lt Fc.bef
  simp only [Bool.or_eq_true, Bool.and_eq_true, decide_eq_true_eq, keyP_eq]
  omega
theorem cmpP_cases (a b : Fc) : (cmpP a b = -1 ∧ ltP a b = true) ∨ (cmpP a b = 0 ∧ ltP a b = false ∧ ltP b a = false) ∨ (cmpP a b = 1 ∧ ltP b a = true) := by
  have ha := ltP_iff a b
  have hb := ltP_iff b a
  unfold cmpP
  rw [orI_cons, orI_cons, orI_cons, orI_cons, orI_cons, orI_nil]
  have fa : ∀ {x : Bool}, x = false ↔ ¬ x = true := fun {x} => by cases x <;> simp
  rw [fa, fa]
  rcases cmpI_cases a.key.kind b.key.kind with ⟨h1, e1⟩ | ⟨h1, e1⟩ | ⟨h1, e1⟩ <;> rw [e1] <;> simp <;> try (first | exact .inl (ha.2 (by omega)) | exact hb.2 (by omega) | exact ha.2 (by omega))
  rcases cmpI_cases a.key.subj b.key.subj with ⟨h2, e2⟩ | ⟨h2, e2⟩ | ⟨h2, e2⟩ <;> rw [e2] <;> simp <;> try (first | exact .inl (ha.2 (by omega)) | exact hb.2 (by omega) | exact ha.2 (by omega))
  rcases cmpI_cases a.key.obj b.key.obj with ⟨h3, e3⟩ | ⟨h3, e3⟩ | ⟨h3, e3⟩ <;> rw [e3] <;> simp <;> try (first | exact .inl (ha.2 (by omega)) | exact hb.2 (by omega) | exact ha.2 (by omega))
  rcases cmpI_cases a.known b.known with ⟨h4, e4⟩ | ⟨h4, e4⟩ | ⟨h4, e4⟩ <;> rw [e4] <;> simp <;> try (first | exact .inl (ha.2 (by omega)) | exact hb.2 (by omega) | exact ha.2 (by omega))
  rcases cmpI_cases a.no b.no with ⟨h5, e5⟩ | ⟨h5, e5⟩ | ⟨h5, e5⟩ <;> rw [e5] <;> simp <;> try (first | exact .inl (ha.2 (by omega)) | exact hb.2 (by omega) | exact ha.2 (by omega))
  have h1' : ¬ ltP a b = true := fun h => by have := ha.1 h; omega
  have h2' : ¬ ltP b a = true := fun h => by have := hb.1 h; omega
  simp at h1' h2'
  exact ⟨h1', h2'⟩
theorem ltP_irr (a : Fc) : ltP a a = false := by
  rw [Bool.eq_false_iff]; intro h; have := (ltP_iff a a).1 h; omega
theorem ltP_tr (a b c : Fc) (h1 : ltP a b = true) (h2 : ltP b c = true) : ltP a c = true := by
  have h1 := (ltP_iff a b).1 h1
  have h2 := (ltP_iff b c).1 h2
  exact (ltP_iff a c).2 (by omega)
theorem cmpP_neg {a b : Fc} : decide (cmpP a b < 0) = ltP a b := by
  rcases cmpP_cases a b with ⟨h1, h2⟩ | ⟨h1, h2, _⟩ | ⟨h1, h2⟩
  · rw [h1, h2]; rfl
  · rw [h1, h2]; rfl
  · rw [h1]
    have : ltP a b = false := by
      rw [Bool.eq_false_iff]; intro h
      have := ltP_tr _ _ _ h h2
      rw [ltP_irr] at this; cases this
    rw [this]; rfl
/-- The fact can stand behind the last one. -/
def lastLt : Option Fc → Fc → Bool
  | none, _ => true
  | some a, f => ltP a f
def nextOk (last : Option Fc) (f : Fc) : Bool := f.ok && lastLt last f
/-- A page by itself. -/
def pgOk (root : Bool) (g : Pv) : Bool := decide (g.facts.length ≤ 4) && (root || decide (2 ≤ g.facts.length)) && (decide (g.kids.length = 0) || (decide (g.kids.length = g.facts.length + 1) && decide (1 ≤ g.facts.length)))
/-- One step of the walk below a page: the page below, then the fact. -/
def subW (sub : Int → List Fc → Option (List Fc × Nat)) (g : Pv) (i : Nat) (s : List Fc × Nat) : Option (List Fc × Nat) :=
  if g.kids.length = 0 then some s else (sub (g.kids.getD i 0) s.1).bind fun r => if i = 0 ∨ r.2 = s.2 then some r else none
def factW (g : Pv) (i : Nat) (s : List Fc × Nat) : Option (List Fc × Nat) :=
  match g.facts[i]? with
  | none => some s
  | some f => if nextOk s.1.getLast? f = true then some (s.1 ++ [f], s.2) else none
def stepW (sub : Int → List Fc → Option (List Fc × Nat)) (g : Pv) (s : Option (List Fc × Nat)) (i : Nat) : Option (List Fc × Nat) := s.bind fun s => (subW sub g i s).bind (factW g i)
def loopW (sub : Int → List Fc → Option (List Fc × Nat)) (g : Pv) (l : List Fc) (n : Nat) : Option (List Fc × Nat) := (List.range n).foldl (stepW sub g) (some (l, 0))
theorem loopW_zero (sub : Int → List Fc → Option (List Fc × Nat)) (g : Pv) (l : List Fc) : loopW sub g l 0 = some (l, 0) := rfl
theorem loopW_succ (sub : Int → List Fc → Option (List Fc × Nat)) (g : Pv) (l : List Fc) (n : Nat) : loopW sub g l (n + 1) = stepW sub g (loopW sub g l n) n := by
  unfold loopW; rw [List.range_succ, List.foldl_append]; rfl
theorem loopW_none {sub : Int → List Fc → Option (List Fc × Nat)} {g : Pv} {l : List Fc} {n : Nat} (h : loopW sub g l n = none) : ∀ m, n ≤ m → loopW sub g l m = none := by
  intro m hm
  induction m with
  | zero => obtain rfl : n = 0 := by omega
            exact h
  | succ m ih =>
    rcases Nat.lt_or_ge m n with h1 | h1
    · obtain rfl : n = m + 1 := by omega
      exact h
    · rw [loopW_succ, ih h1]; rfl
/-- The walk below a page: the facts, and the levels; none if the page cannot stand there. -/
def walkW (ps : List Pv) : Nat → Nat → Bool → List Fc → Option (List Fc × Nat)
  | 0, _, _, _ => none
  | n + 1, p, root, l =>
    match ps[p]? with
    | none => none
    | some g => if pgOk root g = true then (loopW (fun kid m => if 0 ≤ kid ∧ kid < p then walkW ps n kid.toNat false m else none) g l (g.facts.length + 1)).map fun s => (s.1, s.2 + 1) else none
theorem loopW_congr {sub sub' : Int → List Fc → Option (List Fc × Nat)} (h : ∀ k m, sub k m = sub' k m) (g : Pv) (l : List Fc) (n : Nat) : loopW sub g l n = loopW sub' g l n := by
  have : sub = sub' := by funext k m; exact h k m
  rw [this]
theorem walkW_fuel (ps : List Pv) : ∀ (n m p : Nat) (root : Bool) (l : List Fc), p < n → p < m → walkW ps n p root l = walkW ps m p root l
  | 0, _, _, _, _, h, _ => by omega
  | _ + 1, 0, _, _, _, _, h => by omega
  | n + 1, m + 1, p, root, l, _, _ => by
    unfold walkW
    split
    · rfl
    · rename_i g _
      split
      · rw [loopW_congr (fun kid l' => ?_) g l (g.facts.length + 1)]
        split
        · rename_i hk
          exact walkW_fuel ps n m kid.toNat false l' (by omega) (by omega)
        · rfl
      · rfl
/-- The walk, with what is enough. -/
def walkP (ps : List Pv) (p : Nat) (root : Bool) (l : List Fc) : Option (List Fc × Nat) := walkW ps (p + 1) p root l
def kidW (ps : List Pv) (p : Nat) (kid : Int) (l : List Fc) : Option (List Fc × Nat) := if 0 ≤ kid ∧ kid < p then walkP ps kid.toNat false l else none
theorem walkP_eq {ps : List Pv} {p : Nat} {g : Pv} (hg : ps[p]? = some g) (root : Bool) (l : List Fc) :
    walkP ps p root l = if pgOk root g = true then (loopW (kidW ps p) g l (g.facts.length + 1)).map fun s => (s.1, s.2 + 1) else none := by
  unfold walkP walkW
  rw [hg]
  dsimp only
  split
  · rw [loopW_congr (fun kid l' => ?_) g l (g.facts.length + 1)]
    unfold kidW
    split
    · rename_i hk
      exact walkW_fuel ps p (kid.toNat + 1) kid.toNat false l' (by omega) (by omega)
    · rfl
  · rfl
theorem walkP_no {ps : List Pv} {p : Nat} (h : ps[p]? = none) (root : Bool) (l : List Fc) : walkP ps p root l = none := by
  unfold walkP walkW; rw [h]
/-- A good root; good pages. -/
def rootP (ps : List Pv) (r : Int) : Bool := decide (0 ≤ r) && decide (r < ps.length) && (walkP ps r.toNat true []).isSome
def checkP (ps : List Pv) (roots : List Int) : Bool := decide (0 < roots.length) && roots.all (rootP ps)
/-- How many facts of a page come before another one. -/
def placeP (l : List Fc) (f : Fc) : Nat := (l.takeWhile fun x => ltP x f).length
def insAt {α : Type} (l : List α) (k : Nat) (a : α) : List α := l.take k ++ a :: l.drop k
/-- What a page becomes: one page, or two with a fact between them; all pages. -/
def splitP (ps : List Pv) (g : Pv) : List Pv × Nat × Option (Fc × Nat) :=
  if g.facts.length ≤ 4 then (ps ++ [g], ps.length, none)
  else (ps ++ [⟨g.facts.take 2, g.kids.take 3⟩, ⟨g.facts.drop 3, g.kids.drop 3⟩], ps.length, some (g.facts.getD 2 default, ps.length + 1))
def insW (f : Fc) : Nat → List Pv → Nat → List Pv × Nat × Option (Fc × Nat)
  | 0, ps, _ => (ps, 0, none)
  | n + 1, ps, p =>
    let g := ps.getD p default
    let k := placeP g.facts f
    if g.kids.length = 0 then splitP ps ⟨insAt g.facts k f, []⟩
    else
      let r := insW f n ps (g.kids.getD k 0).toNat
      match r.2.2 with
      | none => splitP r.1 ⟨g.facts, g.kids.set k r.2.1⟩
      | some (m, b) => splitP r.1 ⟨insAt g.facts k m, insAt (g.kids.set k r.2.1) (k + 1) b⟩
/-- What Put answers: all pages, and the new root. -/
def putW (ps : List Pv) (root : Nat) (f : Fc) : List Pv × Nat :=
  let r := insW f (root + 1) ps root
  match r.2.2 with
  | none => (r.1, r.2.1)
  | some (m, b) => (r.1 ++ [⟨[m], [(r.2.1 : Int), (b : Int)]⟩], r.1.length)
/-- The answers. -/
def errP (b : Bool) : Int := if b = true then 0 else 470
def lastR (roots : List Int) : Nat := (roots.getLast?.getD 0).toNat
end Go.Proofs.Ytpnfpdkoeednhaa

end
section
/- pages.compare, demand, try, caught (the first printed by gencmp.py). -/
namespace Go.Proofs.Ytpnfpdkoeednhaa
open Go.RowKit Go.Sort RelD

set_option maxRecDepth 100000 in
set_option maxHeartbeats 4000000 in
theorem pgcmp_any (a b : Fc) (w : World) : Calls Try.prog 39 #[.agg (fEnc a).toArray, .agg (fEnc b).toArray] w fun e w' => e = .returned (.int .i64 (cmpP a b)) ∧ BelowD w.heap.size w w' := by
  show Calls Try.prog 39 #[.agg #[.int .i64 a.key.kind, .int .i64 a.key.subj, .int .i64 a.key.obj, .int .i64 a.val, .int .i64 a.fr, .int .i64 a.to, .int .i64 a.known, .int .i64 a.no], .agg #[.int .i64 b.key.kind, .int .i64 b.key.subj, .int .i64 b.key.obj, .int .i64 b.val, .int .i64 b.fr, .int .i64 b.to, .int .i64 b.known, .int .i64 b.no]] w _
  have hB : BelowD w.heap.size w ((w.alloc (.cells (fEnc a).toArray 31)).alloc (.cells (fEnc b).toArray 31)) := ((BelowD.refl _ w).alloc (Nat.le_refl _) _).alloc (by simp) _
  have h1 : ((w.alloc (.cells (fEnc a).toArray 31)).alloc (.cells (fEnc b).toArray 31)).heap[w.heap.size]? = some (.cells (fEnc a).toArray 31 (0, 0)) := (Below.heap_alloc _ _ _ (by simp)).trans (World.alloc_heap_new _ _)
  have h2 : ((w.alloc (.cells (fEnc a).toArray 31)).alloc (.cells (fEnc b).toArray 31)).heap[w.heap.size + 1]? = some (.cells (fEnc b).toArray 31 (0, 0)) := by
    have := World.alloc_heap_new (w.alloc (.cells (fEnc a).toArray 31)) (.cells (fEnc b).toArray 31)
    rwa [World.size_alloc] at this
  have hB' := hidp hB
  have h1' := hidp h1
  have h2' := hidp h2
  clear hB h1 h2
  go_enter Try.func39, Try.ntmps39
  go_wp2_with fail
  generalize hwr : (w.alloc (.cells #[.int .i64 a.key.kind, .int .i64 a.key.subj, .int .i64 a.key.obj, .int .i64 a.val, .int .i64 a.fr, .int .i64 a.to, .int .i64 a.known, .int .i64 a.no] 31)).alloc (.cells #[.int .i64 b.key.kind, .int .i64 b.key.subj, .int .i64 b.key.obj, .int .i64 b.val, .int .i64 b.fr, .int .i64 b.to, .int .i64 b.known, .int .i64 b.no] 31) = wr
  have hBr : BelowD w.heap.size w wr := hwr ▸ hB'.out
  have g1 : wr.heap[w.heap.size]? = some (.cells (fEnc a).toArray 31 (0, 0)) := hwr ▸ h1'.out
  have g2 : wr.heap[w.heap.size + 1]? = some (.cells (fEnc b).toArray 31 (0, 0)) := hwr ▸ h2'.out
  clear hwr hB' h1' h2'
  have hcell : ∀ w9, BelowD wr.heap.size wr w9 → w9.cell? ⟨w.heap.size, 0, none⟩ = some (.int .i64 a.key.kind) ∧ w9.cell? ⟨w.heap.size + 1, 0, none⟩ = some (.int .i64 b.key.kind) ∧ w9.cell? ⟨w.heap.size, 1, none⟩ = some (.int .i64 a.key.subj) ∧ w9.cell? ⟨w.heap.size + 1, 1, none⟩ = some (.int .i64 b.key.subj) ∧ w9.cell? ⟨w.heap.size, 2, none⟩ = some (.int .i64 a.key.obj) ∧ w9.cell? ⟨w.heap.size + 1, 2, none⟩ = some (.int .i64 b.key.obj) ∧ w9.cell? ⟨w.heap.size, 6, none⟩ = some (.int .i64 a.known) ∧ w9.cell? ⟨w.heap.size + 1, 6, none⟩ = some (.int .i64 b.known) ∧ w9.cell? ⟨w.heap.size, 7, none⟩ = some (.int .i64 a.no) ∧ w9.cell? ⟨w.heap.size + 1, 7, none⟩ = some (.int .i64 b.no) := by
    intro w9 h9
    have i1 := (h9.block _ (lt_of_heap g1)).trans g1
    have i2 := (h9.block _ (lt_of_heap g2)).trans g2
    exact ⟨cell_of_heap i1, cell_of_heap i2, cell_of_heap i1, cell_of_heap i2, cell_of_heap i1, cell_of_heap i2, cell_of_heap i1, cell_of_heap i2, cell_of_heap i1, cell_of_heap i2⟩
  have HC := hidp hcell
  clear hcell g1 g2
  refine RelD.wp_region_rel wr.heap.size (fun _ => false) (fun _ => true) (Nat.le_refl _) (by kernel_rfl) (by kernel_rfl) (by kernel_rfl) ?_
  iterate 6
    try dsimp only [List.nil_append, List.cons_append]
    apply RelD.rel_det
    · repeat (first | refine RelD.obl_skip (by rfl) ?_ | refine RelD.obl_det (by rfl) ?_ | refine RelD.obl_var (by rfl) fun _ => ?_)
      intro w9 hw9
      refine RelD.relAt_wanted (by rfl) ?_
      obtain ⟨c0a, c0b, c1a, c1b, c2a, c2b, c3a, c3b, c4a, c4b⟩ := HC.out w9 hw9
      go_simp
      exact ⟨BelowD.refl _ _, rfl⟩
  try dsimp only [List.nil_append, List.cons_append]
  refine RelD.rel_det (x := .int .i64 (cmpI (a.key.kind) (b.key.kind))) ?_ ?_
  · repeat (first | refine RelD.obl_skip (by rfl) ?_ | refine RelD.obl_det (by rfl) ?_ | refine RelD.obl_var (by rfl) fun _ => ?_)
    intro w9 hw9
    refine RelD.relAt_wanted (by rfl) ?_
    go_simp
    refine (cmp_any _ _ _).mono ?_
    rintro e w1 ⟨rfl, rfl⟩
    exact ⟨_, rfl, BelowD.refl _ _, rfl⟩
  iterate 6
    try dsimp only [List.nil_append, List.cons_append]
    apply RelD.rel_det
    · repeat (first | refine RelD.obl_skip (by rfl) ?_ | refine RelD.obl_det (by rfl) ?_ | refine RelD.obl_var (by rfl) fun _ => ?_)
      intro w9 hw9
      refine RelD.relAt_wanted (by rfl) ?_
      obtain ⟨c0a, c0b, c1a, c1b, c2a, c2b, c3a, c3b, c4a, c4b⟩ := HC.out w9 hw9
      go_simp
      exact ⟨BelowD.refl _ _, rfl⟩
  try dsimp only [List.nil_append, List.cons_append]
  refine RelD.rel_det (x := .int .i64 (cmpI (a.key.subj) (b.key.subj))) ?_ ?_
  · repeat (first | refine RelD.obl_skip (by rfl) ?_ | refine RelD.obl_det (by rfl) ?_ | refine RelD.obl_var (by rfl) fun _ => ?_)
    intro w9 hw9
    refine RelD.relAt_wanted (by rfl) ?_
    go_simp
    refine (cmp_any _ _ _).mono ?_
    rintro e w1 ⟨rfl, rfl⟩
    exact ⟨_, rfl, BelowD.refl _ _, rfl⟩
  iterate 6
    try dsimp only [List.nil_append, List.cons_append]
    apply RelD.rel_det
    · repeat (first | refine RelD.obl_skip (by rfl) ?_ | refine RelD.obl_det (by rfl) ?_ | refine RelD.obl_var (by rfl) fun _ => ?_)
      intro w9 hw9
      refine RelD.relAt_wanted (by rfl) ?_
      obtain ⟨c0a, c0b, c1a, c1b, c2a, c2b, c3a, c3b, c4a, c4b⟩ := HC.out w9 hw9
      go_simp
      exact ⟨BelowD.refl _ _, rfl⟩
  try dsimp only [List.nil_append, List.cons_append]
  refine RelD.rel_det (x := .int .i64 (cmpI (a.key.obj) (b.key.obj))) ?_ ?_
  · repeat (first | refine RelD.obl_skip (by rfl) ?_ | refine RelD.obl_det (by rfl) ?_ | refine RelD.obl_var (by rfl) fun _ => ?_)
    intro w9 hw9
    refine RelD.relAt_wanted (by rfl) ?_
    go_simp
    refine (cmp_any _ _ _).mono ?_
    rintro e w1 ⟨rfl, rfl⟩
    exact ⟨_, rfl, BelowD.refl _ _, rfl⟩
  iterate 4
    try dsimp only [List.nil_append, List.cons_append]
    apply RelD.rel_det
    · repeat (first | refine RelD.obl_skip (by rfl) ?_ | refine RelD.obl_det (by rfl) ?_ | refine RelD.obl_var (by rfl) fun _ => ?_)
      intro w9 hw9
      refine RelD.relAt_wanted (by rfl) ?_
      obtain ⟨c0a, c0b, c1a, c1b, c2a, c2b, c3a, c3b, c4a, c4b⟩ := HC.out w9 hw9
      go_simp
      exact ⟨BelowD.refl _ _, rfl⟩
  try dsimp only [List.nil_append, List.cons_append]
  refine RelD.rel_det (x := .int .i64 (cmpI (a.known) (b.known))) ?_ ?_
  · repeat (first | refine RelD.obl_skip (by rfl) ?_ | refine RelD.obl_det (by rfl) ?_ | refine RelD.obl_var (by rfl) fun _ => ?_)
    intro w9 hw9
    refine RelD.relAt_wanted (by rfl) ?_
    go_simp
    refine (cmp_any _ _ _).mono ?_
    rintro e w1 ⟨rfl, rfl⟩
    exact ⟨_, rfl, BelowD.refl _ _, rfl⟩
  iterate 4
    try dsimp only [List.nil_append, List.cons_append]
    apply RelD.rel_det
    · repeat (first | refine RelD.obl_skip (by rfl) ?_ | refine RelD.obl_det (by rfl) ?_ | refine RelD.obl_var (by rfl) fun _ => ?_)
      intro w9 hw9
      refine RelD.relAt_wanted (by rfl) ?_
      obtain ⟨c0a, c0b, c1a, c1b, c2a, c2b, c3a, c3b, c4a, c4b⟩ := HC.out w9 hw9
      go_simp
      exact ⟨BelowD.refl _ _, rfl⟩
  try dsimp only [List.nil_append, List.cons_append]
  refine RelD.rel_det (x := .int .i64 (cmpI (a.no) (b.no))) ?_ ?_
  · repeat (first | refine RelD.obl_skip (by rfl) ?_ | refine RelD.obl_det (by rfl) ?_ | refine RelD.obl_var (by rfl) fun _ => ?_)
    intro w9 hw9
    refine RelD.relAt_wanted (by rfl) ?_
    go_simp
    refine (cmp_any _ _ _).mono ?_
    rintro e w1 ⟨rfl, rfl⟩
    exact ⟨_, rfl, BelowD.refl _ _, rfl⟩
  try dsimp only [List.nil_append, List.cons_append]
  refine RelD.rel_any (fun v w => ∃ A c, v = .slice A 5 c ∧ ISl w w.heap.size A 5 c [cmpI (a.key.kind) (b.key.kind), cmpI (a.key.subj) (b.key.subj), cmpI (a.key.obj) (b.key.obj), cmpI (a.known) (b.known), cmpI (a.no) (b.no)]) rfl (rows_stableD iStable _ _) ?_ ?_
  · repeat (first | refine RelD.obl_skip (by rfl) ?_ | refine RelD.obl_det (by rfl) ?_ | refine RelD.obl_var (by rfl) fun _ => ?_)
    intro w9 hw9
    refine RelD.relAt_cps (by rfl) fun T' hT' => ?_
    go_simp
    exact ⟨(BelowD.refl _ w9).alloc (Nat.le_refl _) _, hT' _ _ ⟨_, _, rfl, rows_of_heap (l := [_, _, _, _, _]) iEnc_len (World.alloc_heap_new w9 _) (Nat.le_refl _) (by decide) rfl⟩⟩
  try dsimp only [List.nil_append, List.cons_append]
  refine RelD.rel_det (x := .int .i64 (cmpP a b)) ?_ ?_
  · repeat (first | refine RelD.obl_skip (by rfl) ?_ | refine RelD.obl_det (by rfl) ?_ | refine RelD.obl_var (by rfl) fun _ => ?_)
    rintro w9 ⟨hw9, A, c, rfl, hr⟩
    refine RelD.relAt_wanted (by rfl) ?_
    go_simp
    refine (or_any _ _ _ _ _ hr).mono ?_
    rintro e w1 ⟨rfl, rfl⟩
    exact ⟨_, rfl, BelowD.refl _ _, rfl⟩
  try dsimp only [List.nil_append, List.cons_append]
  apply RelD.rel_det
  · repeat (first | refine RelD.obl_skip (by rfl) ?_ | refine RelD.obl_det (by rfl) ?_ | refine RelD.obl_var (by rfl) fun _ => ?_)
    intro w9 hw9
    refine RelD.relAt_wanted (by rfl) ?_
    go_simp
    exact ⟨BelowD.refl _ _, rfl⟩
  try dsimp only [List.nil_append, List.cons_append]
  iterate 33 refine RelD.fin_dead fun _ => ?_
  refine RelD.fin_det rfl ?_
  rintro w4 hb4
  go_frame
  go_wp2_with fail
  go_ret
  exact ⟨rfl, hBr.trans (hb4.mono hBr.size)⟩
end Go.Proofs.Ytpnfpdkoeednhaa

end
section
/- pages.demand, try, caught; what Check and Put defer. -/
namespace Go.Proofs.Ytpnfpdkoeednhaa
open Go.RowKit

/-- What the package panics with. -/
def failV (e : Int) : PanicEntry := { v := .iface 101 (.agg #[.int .i64 e]), recovered := false }
def demandE (ok : Bool) (e : Int) : Ending := if ok = true then .returned (.tuple #[]) else .panicked [failV e]
set_option maxHeartbeats 1000000 in
theorem demand_any (ok : Bool) (e : Int) (w : World) : Calls Try.prog 38 #[.bool ok, .int .i64 e] w fun en w' => en = demandE ok e ∧ w = w' := by
  cases ok
  · go_enter Try.func38, Try.ntmps38
    go_wp2_with fail
    exact ⟨rfl, rfl, rfl⟩
  · go_enter Try.func38, Try.ntmps38
    go_wp2_with fail
    go_end0
    exact ⟨rfl, rfl⟩
set_option maxHeartbeats 1000000 in
theorem try_any (e : Int) (w : World) : Calls Try.prog 36 #[.int .i64 e] w fun en w' => en = demandE (e == 0) e ∧ w = w' := by
  obtain ⟨b, hb⟩ : ∃ b, (e == 0) = b := ⟨_, rfl⟩
  go_enter Try.func36, Try.ntmps36
  have HB := hidp hb
  go_wp2_with fail
  refine (demand_any b e w).mono ?_
  rintro en w1 ⟨rfl, rfl⟩
  cases b
  · exact ⟨rfl, by rw [HB.out]; rfl, rfl⟩
  · simp only [demandE, if_true]
    clear hb
    go_wp2_with fail
    go_end0
    exact ⟨by rw [HB.out]; rfl, rfl⟩
set_option maxHeartbeats 1000000 in
theorem caught_nil (p : Addr) (w : World) : Calls Try.prog 35 #[.nilIface, .pointer (some p)] w fun en w' => en = .returned (.tuple #[]) ∧ w = w' := by
  go_enter Try.func35, Try.ntmps35
  go_wp2_with fail
  go_end0
  exact ⟨rfl, rfl⟩
set_option maxRecDepth 100000 in
set_option maxHeartbeats 1000000 in
theorem caught_fail (b : Nat) (x e : Int) (w : World) (hb : w.heap[b]? = some (.cells #[.int .i64 x] 34 (0, 0))) :
    Calls Try.prog 35 #[.iface 101 (.agg #[.int .i64 e]), .pointer (some ⟨b, 0, none⟩)] w fun en w' => en = .returned (.tuple #[]) ∧ w'.heap[b]? = some (.cells #[.int .i64 e] 34 (0, 0)) ∧ Kept (fun k => k = b) w w' := by
  have hc := cell_of_heap (o := 0) hb
  have hz := frozen_of_heap (o := 0) hb
  have hl := lt_of_heap hb
  simp only [List.getElem?_toArray, List.getElem?_cons_zero] at hc
  have hta : ∀ W : World, (Instr.typeAssert (.iface 101 (.agg #[.int .i64 e])) 20 101 true).run Try.prog W = .ok (.tuple #[.agg #[.int .i64 e], .bool true]) W := fun _ => by kernel_rfl
  go_enter Try.func35, Try.ntmps35
  go_wp2_with fail
  go_end0
  exact ⟨rfl, (Below.heap_alloc _ _ b (by simpa [World.setCell] using hl)).trans (heap_set1 hb _), ((Kept.refl (fun k => k = b) w).setCell (p := ⟨b, 0, none⟩) (.inl rfl) _).alloc _⟩
set_option maxHeartbeats 1000000 in
theorem catchC_panicking (b : Nat) (x e : Int) (older : List PanicEntry) (w : World) (hb : w.heap[b]? = some (.cells #[.int .i64 x] 34 (0, 0))) :
    CallsD Try.prog 47 #[.pointer (some ⟨b, 0, none⟩)] (.panicking (failV e :: older)) w fun en u' w' =>
      en = .returned (.tuple #[]) ∧ u' = .panicking ({ v := .iface 101 (.agg #[.int .i64 e]), recovered := true } :: older) ∧ w'.heap[b]? = some (.cells #[.int .i64 e] 34 (0, 0)) ∧ Kept (fun k => k = b) w w' := by
  refine callsD_of_wpS Try.func47 rfl fun c₀ cs hu => ?_
  have hfail : failV e = { v := .iface 101 (.agg #[.int .i64 e]), recovered := false } := rfl
  rw [hfail] at hu
  apply wpS_region
  simp [wpOpsS, go_sem, recoverD, hu, Try.ntmps47, Oper.upon]
  refine (caught_fail b x e w hb).mono ?_
  rintro en w1 ⟨rfl, h1, h2⟩
  simp [bodyPostS, results, Try.f47, go_sem]
  exact ⟨h1, h2⟩
set_option maxHeartbeats 1000000 in
theorem catchC_idle (b : Nat) (w : World) :
    CallsD Try.prog 47 #[.pointer (some ⟨b, 0, none⟩)] .returning w fun en u' w' => en = .returned (.tuple #[]) ∧ u' = .returning ∧ w' = w := by
  refine callsD_of_wpS Try.func47 rfl fun c₀ cs hu => ?_
  apply wpS_region
  simp [wpOpsS, go_sem, recoverD, hu, Try.ntmps47, Oper.upon]
  refine (caught_nil ⟨b, 0, none⟩ w).mono ?_
  rintro en w1 ⟨rfl, rfl⟩
  cases c₀
  simp_all [bodyPostS, results, Try.f47, go_sem]
end Go.Proofs.Ytpnfpdkoeednhaa

end

