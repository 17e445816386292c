/- What join.levels makes: closures, in lists by level. -/
import Derived.Test.YtbegdcjofnfkiaaGreatDoorJ9
import Derived.Test.YtbegdcjofnfkiaaGreatDoorRelQ
namespace Go.Proofs.YtbegdcjofnfkiaaGreatDoor
open Go.RowKit Go.Shelf Go.Sort

inductive Clo where
  | atom (Ba Bl : Nat)
  | test (Bt : Nat)
instance : Inhabited Clo := ⟨.test 0⟩
def cloV : Clo → Value
  | .atom Ba Bl => .func (.func 105) #[] #[.pointer (some ⟨Ba, 0, none⟩), .pointer (some ⟨Bl, 0, none⟩)]
  | .test Bt => .func (.func 106) #[] #[.pointer (some ⟨Bt, 0, none⟩)]
def cloEnc (x : Clo) : List Value := [cloV x]
theorem cloEnc_len (x : Clo) : (cloEnc x).length = 1 := rfl
theorem cloEnc_one (x : Clo) : ∀ u ∈ cloEnc x, u.oneCell' = true := by
  intro u hu; simp [cloEnc] at hu; subst hu; cases x <;> rfl
/-- A closure stands for a condition. -/
def CloFor (FA : Option Addr) (fn fc : Nat) (W : World) : Cnd → Clo → Prop
  | .atom a, .atom Ba Bl => W.heap[Ba]? = some (.cells #[.int .i64 a.kind, .bool a.s.var, .int .i64 a.s.n, .bool a.o.var, .int .i64 a.o.n, .bool a.v.var, .int .i64 a.v.n, .int .i64 a.term, .int .i64 a.known] 64 (0, 0)) ∧ W.heap[Bl]? = some (.cells #[.slice FA fn fc] 28 (0, 0))
  | .test t, .test Bt => W.heap[Bt]? = some (.cells #[.int .i64 t.op, .bool t.a.var, .int .i64 t.a.n, .bool t.b.var, .int .i64 t.b.n] 67 (0, 0))
  | _, _ => False
theorem CloFor.keep {FA : Option Addr} {fn fc : Nat} {W W' : World} {c : Cnd} {x : Clo} (h : CloFor FA fn fc W c x) (hb : ∀ b, b < W.heap.size → (∀ cs, W.heap[b]? ≠ some (.cells cs 135 (0, 0))) → (∀ cs, W.heap[b]? ≠ some (.cells cs 138 (0, 0))) → W'.heap[b]? = W.heap[b]?) : CloFor FA fn fc W' c x := by
  have key : ∀ (b : Nat) (cs : Array Value) (t : TypeId), W.heap[b]? = some (.cells cs t (0, 0)) → t ≠ 135 → t ≠ 138 → W'.heap[b]? = some (.cells cs t (0, 0)) := fun b cs t hh h1 h2 =>
    (hb b (lt_of_heap hh) (fun cs' he => by rw [hh] at he; injection he with he; injection he with _ he; exact h1 he) (fun cs' he => by rw [hh] at he; injection he with he; injection he with _ he; exact h2 he)).trans hh
  cases c <;> cases x <;> simp only [CloFor] at h ⊢
  · exact ⟨key _ _ _ h.1 (by decide) (by decide), key _ _ _ h.2 (by decide) (by decide)⟩
  · exact key _ _ _ h (by decide) (by decide)
set_option maxRecDepth 100000 in
set_option maxHeartbeats 2000000 in
/-- A condition asked through its closure. -/
theorem clo_any {FA : Option Addr} {fn fc : Nat} {l : List Fc} {A : Option Addr} {n c : Nat} {vs : List Int} {cd : Cnd} {x : Clo} (w : World) (hc : CloFor FA fn fc w cd x) (hl : fSl w w.heap.size FA fn fc l) (hv : iSl w w.heap.size A n c vs)
    (hb : ∀ a, (∃ y, cd = .atom y ∧ (a = y.s ∨ a = y.o ∨ a = y.v)) ∨ (∃ y, cd = .test y ∧ (a = y.a ∨ a = y.b)) → VarIn a n) :
    (∀ Ba Bl, x = .atom Ba Bl → Calls Tryz.prog 105 #[.slice A n c, .pointer (some ⟨Ba, 0, none⟩), .pointer (some ⟨Bl, 0, none⟩)] w fun e w' => e = .returned (.bool (cndJ l vs cd)) ∧ Below w.heap.size w w') ∧
    (∀ Bt, x = .test Bt → Calls Tryz.prog 106 #[.slice A n c, .pointer (some ⟨Bt, 0, none⟩)] w fun e w' => e = .returned (.bool (cndJ l vs cd)) ∧ Below w.heap.size w w') := by
  constructor
  · rintro Ba Bl rfl
    cases cd with
    | test t => exact hc.elim
    | atom a =>
      obtain ⟨h1, h2⟩ := hc
      have x0 := cell_of_heap (o := 0) h1
      have x1 := cell_of_heap (o := 1) h1
      have x2 := cell_of_heap (o := 2) h1
      have x3 := cell_of_heap (o := 3) h1
      have x4 := cell_of_heap (o := 4) h1
      have x5 := cell_of_heap (o := 5) h1
      have x6 := cell_of_heap (o := 6) h1
      have x7 := cell_of_heap (o := 7) h1
      have x8 := cell_of_heap (o := 8) h1
      have y0 := cell_of_heap (o := 0) h2
      simp only [List.getElem?_toArray, List.getElem?_cons_zero, List.getElem?_cons_succ] at x0 x1 x2 x3 x4 x5 x6 x7 x8 y0
      have l1 := lt_of_heap h1
      have l2 := lt_of_heap h2
      have HB1 := hidp (hb a.s (.inl ⟨a, rfl, .inl rfl⟩))
      have HB2 := hidp (hb a.o (.inl ⟨a, rfl, .inr (.inl rfl)⟩))
      have HB3 := hidp (hb a.v (.inl ⟨a, rfl, .inr (.inr rfl)⟩))
      have HFa := hidp hl
      have HV := hidp hv
      clear h1 h2 hb hl hv
      go_enter Tryz.func105, Tryz.ntmps105
      go_wp2_with fail
      refine (atom_any a FA fn fc l A n c vs w HFa.out HV.out HB1.out HB2.out HB3.out).mono ?_
      rintro e w1 ⟨rfl, hk⟩
      go_wp2_with fail
      go_ret
      exact ⟨rfl, hk⟩
  · rintro Bt rfl
    cases cd with
    | atom a => exact hc.elim
    | test t =>
      have h1 : w.heap[Bt]? = some (.cells #[.int .i64 t.op, .bool t.a.var, .int .i64 t.a.n, .bool t.b.var, .int .i64 t.b.n] 67 (0, 0)) := hc
      have x0 := cell_of_heap (o := 0) h1
      have x1 := cell_of_heap (o := 1) h1
      have x2 := cell_of_heap (o := 2) h1
      have x3 := cell_of_heap (o := 3) h1
      have x4 := cell_of_heap (o := 4) h1
      simp only [List.getElem?_toArray, List.getElem?_cons_zero, List.getElem?_cons_succ] at x0 x1 x2 x3 x4
      have l1 := lt_of_heap h1
      have HB1 := hidp (hb t.a (.inr ⟨t, rfl, .inl rfl⟩))
      have HB2 := hidp (hb t.b (.inr ⟨t, rfl, .inr rfl⟩))
      have HV := hidp hv
      clear h1 hb hl hv hc
      go_enter Tryz.func106, Tryz.ntmps106
      go_wp2_with fail
      refine (test_any t A n c vs w HV.out HB1.out HB2.out).mono ?_
      rintro e w1 ⟨rfl, hk⟩
      go_wp2_with fail
      go_ret
      exact ⟨rfl, hk⟩
/-- The conditions in lists by level: the list of lists v, level i with the conditions dn i. -/
structure LvSt (FA : Option Addr) (fn fc N base G cap : Nat) (sl : Nat → Value) (dn : Nat → List Cnd) (xs : Nat → List Clo) (W : World) : Prop where
  big : N + 1 ≤ cap
  low : base ≤ G
  row : ∃ cs, W.heap[G]? = some (.cells cs 138 (0, 0)) ∧ ∀ i, i ≤ N → cs[i]? = some (sl i)
  own : ∀ i, i ≤ N → W.ownsRow base 135 1 (sl i) (xs i).length ((xs i).flatMap cloEnc)
  clo : ∀ i, i ≤ N → (xs i).length = (dn i).length ∧ ∀ (j : Nat) x c, (xs i)[j]? = some x → (dn i)[j]? = some c → CloFor FA fn fc W c x
  apart : ∀ i, i ≤ N → ∀ g, (sl i).ownBlock = some g → g ≠ G ∧ ∀ j, j ≤ N → j ≠ i → (sl j).ownBlock ≠ some g
  slices : ∀ i, i ≤ N → ∃ A c, sl i = .slice A (xs i).length c
theorem LvSt.later {FA : Option Addr} {fn fc N base G cap : Nat} {sl : Nat → Value} {dn : Nat → List Cnd} {xs : Nat → List Clo} {W W' : World} (h : LvSt FA fn fc N base G cap sl dn xs W) (hb : Below W.heap.size W W') : LvSt FA fn fc N base G cap sl dn xs W' := by
  obtain ⟨cs, h1, h2⟩ := h.row
  refine ⟨h.big, h.low, ⟨cs, (hb.block _ (lt_of_heap h1)).trans h1, h2⟩, fun i hi => own_keepB (h.own i hi) fun g hg => hb.block g ((h.own i hi).lt g hg).2, fun i hi => ⟨(h.clo i hi).1, fun j x c hx hc => ((h.clo i hi).2 j x c hx hc).keep fun b hb' _ _ => hb.block b hb'⟩, h.apart, h.slices⟩
/-- A closure laid behind a level's list; the list of lists is not yet turned. -/
structure AppSt (FA : Option Addr) (fn fc N base G : Nat) (sl : Nat → Value) (dn : Nat → List Cnd) (xs : Nat → List Clo) (m : Nat) (cd : Cnd) (x : Clo) (v' : Value) (W : World) : Prop where
  row : ∃ cs, W.heap[G]? = some (.cells cs 138 (0, 0)) ∧ ∀ i, i ≤ N → cs[i]? = some (sl i)
  own : ∀ i, i ≤ N → i ≠ m → W.ownsRow base 135 1 (sl i) (xs i).length ((xs i).flatMap cloEnc)
  own' : W.ownsRow base 135 1 v' ((xs m).length + 1) ((xs m ++ [x]).flatMap cloEnc)
  clo : ∀ i, i ≤ N → (xs i).length = (dn i).length ∧ ∀ (j : Nat) x c, (xs i)[j]? = some x → (dn i)[j]? = some c → CloFor FA fn fc W c x
  clo' : CloFor FA fn fc W cd x
  apart' : ∀ g, v'.ownBlock = some g → g ≠ G ∧ ∀ j, j ≤ N → j ≠ m → (sl j).ownBlock ≠ some g
  slice' : ∃ A c, v' = .slice A ((xs m).length + 1) c
theorem AppSt.later {FA : Option Addr} {fn fc N base G m : Nat} {sl : Nat → Value} {dn : Nat → List Cnd} {xs : Nat → List Clo} {cd : Cnd} {x : Clo} {v' : Value} {W W' : World} (h : AppSt FA fn fc N base G sl dn xs m cd x v' W) (hb : Below W.heap.size W W') : AppSt FA fn fc N base G sl dn xs m cd x v' W' := by
  obtain ⟨cs, h1, h2⟩ := h.row
  exact ⟨⟨cs, (hb.block _ (lt_of_heap h1)).trans h1, h2⟩, fun i hi hne => own_keepB (h.own i hi hne) fun g hg => hb.block g ((h.own i hi hne).lt g hg).2, own_keepB h.own' fun g hg => hb.block g (h.own'.lt g hg).2, fun i hi => ⟨(h.clo i hi).1, fun j x c hx hc => ((h.clo i hi).2 j x c hx hc).keep fun b hb' _ _ => hb.block b hb'⟩, h.clo'.keep fun b hb' _ _ => hb.block b hb', h.apart', h.slice'⟩
theorem fnInfo : (Tryz.prog.info? 135).map (fun i => (i.zero, i.size, i.bytes)) = some (some .nilFunc, 1, 8) := by kernel_rfl
/-- The append. -/
theorem LvSt.app {FA : Option Addr} {fn fc N base G cap m : Nat} {sl : Nat → Value} {dn : Nat → List Cnd} {xs : Nat → List Clo} {cd : Cnd} {x : Clo} {W w8 : World} (h : LvSt FA fn fc N base G cap sl dn xs W) (hb : Below W.heap.size W w8) (hm : m ≤ N) (hlen : (xs m).length ≤ 100000) (hbase : base ≤ W.heap.size)
    {A : Option Addr} {c : Nat} (hx : Rows 1 (Rep.flat cloEnc) w8 w8.heap.size A 1 c [x]) (hc : CloFor FA fn fc w8 cd x) :
    ∃ v' w', (Builtin.append_ #[138, 138] 138 #[sl m, .slice A 1 c]).run Tryz.prog w8 = .ok v' w' ∧ Below base w8 w' ∧ AppSt FA fn fc N base G sl dn xs m cd x v' w' := by
  obtain ⟨i0, hi, hz, hs, hbb⟩ := info_parts fnInfo
  have h8 := h.later hb
  obtain ⟨cs, g1, g2⟩ := h8.row
  obtain ⟨v', w', hrun, hown', hg, hat⟩ := run_append_rows (P := Tryz.prog) (ty := 138) (enc := cloEnc) Tryz.underlying138 hi hz hs hbb rfl cloEnc_len (by decide) cloEnc_one (h8.own m hm) hx (by omega) (by omega) (by have := hb.size; omega)
  have hbl : ∀ g, (sl m).ownBlock = some g → base ≤ g := fun g hg => ((h8.own m hm).lt g hg).1
  have hkeep : ∀ b, b < w8.heap.size → (sl m).ownBlock ≠ some b → w'.heap[b]? = w8.heap[b]? := fun b hb' hne => hg.block b hb' (fun e => hne e.symm)
  have hty : ∀ b, (sl m).ownBlock = some b → ∃ cs, w8.heap[b]? = some (.cells cs 135 (0, 0)) := fun b hb' => by
    rcases (h8.own m hm).2 with ⟨e1, _⟩ | ⟨g, cap', cs', hv, hg', hh, _⟩
    · rw [e1] at hb'; cases hb'
    · rw [hv] at hb'
      injection hb' with hb'
      subst hb'
      exact ⟨cs', hh⟩
  have hclo : ∀ {c : Cnd} {y : Clo}, CloFor FA fn fc w8 c y → CloFor FA fn fc w' c y := fun hcy => hcy.keep fun b hb' hn1 _ => hkeep b hb' fun e => by
    obtain ⟨cs', hh⟩ := hty b e
    exact hn1 cs' hh
  refine ⟨v', w', hrun, (Below.refl _ _).grown hg (by have := hb.size; omega) (fun g e => hbl g e), ⟨⟨cs, (hkeep G (lt_of_heap g1) (fun e => (h8.apart m hm G e).1 rfl)).trans g1, g2⟩, fun i hi hne => own_keepB (h8.own i hi) fun g hg' => hkeep g ((h8.own i hi).lt g hg').2 (fun e => (h8.apart m hm g e).2 i hi hne hg'), hown', fun i hi => ⟨(h8.clo i hi).1, fun j y c hy hcc => hclo ((h8.clo i hi).2 j y c hy hcc)⟩, hclo hc, fun g hg' => ?_, ?_⟩⟩
  · rcases hat with h2 | h2
    · rw [h2] at hg'; exact h8.apart m hm g hg'
    · rw [h2] at hg'
      injection hg' with hg'
      subst hg'
      refine ⟨fun e => ?_, fun j hj hne e => ?_⟩
      · have := lt_of_heap g1; omega
      · have := ((h8.own j hj).lt _ e).2; omega
  · obtain ⟨A', c', rfl, _⟩ := own_rows cloEnc_len (by decide) hown'
    exact ⟨A', c', rfl⟩
theorem heap_setR {w : World} {b : Nat} {cs : Array Value} {t : TypeId} {fr : Nat × Nat} (h : w.heap[b]? = some (.cells cs t fr)) (o : Nat) (u : Value) : (w.setCell ⟨b, o, none⟩ u).heap[b]? = some (.cells (cs.setIfInBounds o u) t fr) := by
  simp [World.setCell, Array.getElem?_modify, h]
def upd {α : Type} (f : Nat → α) (m : Nat) (a : α) : Nat → α := fun i => if i = m then a else f i
theorem upd_same {α : Type} (f : Nat → α) (m : Nat) (a : α) : upd f m a m = a := if_pos rfl
theorem upd_ne {α : Type} (f : Nat → α) {m i : Nat} (a : α) (h : i ≠ m) : upd f m a i = f i := if_neg h
/-- The store into the list of lists. -/
theorem AppSt.store {FA : Option Addr} {fn fc N base G cap m : Nat} {sl : Nat → Value} {dn : Nat → List Cnd} {xs : Nat → List Clo} {cd : Cnd} {x : Clo} {v' : Value} {W : World} (h : AppSt FA fn fc N base G sl dn xs m cd x v' W) (hm : m ≤ N) (hcap : N + 1 ≤ cap) (hG : base ≤ G)
    (hap : ∀ i, i ≤ N → ∀ g, (sl i).ownBlock = some g → g ≠ G ∧ ∀ j, j ≤ N → j ≠ i → (sl j).ownBlock ≠ some g) (hsl : ∀ i, i ≤ N → ∃ A c, sl i = .slice A (xs i).length c) :
    LvSt FA fn fc N base G cap (upd sl m v') (upd dn m (dn m ++ [cd])) (upd xs m (xs m ++ [x])) (W.setCell ⟨G, m, none⟩ v') := by
  obtain ⟨cs, h1, h2⟩ := h.row
  have hGW := lt_of_heap h1
  have hnew : (W.setCell ⟨G, m, none⟩ v').heap[G]? = some (.cells (cs.setIfInBounds m v') 138 (0, 0)) := heap_setR h1 m v'
  have hother : ∀ b, b ≠ G → (W.setCell ⟨G, m, none⟩ v').heap[b]? = W.heap[b]? := fun b hne => heap_set_ne rfl hne m v'
  have hclo : ∀ {c : Cnd} {y : Clo}, CloFor FA fn fc W c y → CloFor FA fn fc (W.setCell ⟨G, m, none⟩ v') c y := fun hcy => hcy.keep fun b _ _ hn2 => hother b fun e => by subst e; exact hn2 cs h1
  refine ⟨hcap, hG, ⟨_, hnew, fun i hi => ?_⟩, fun i hi => ?_, fun i hi => ?_, fun i hi g hg => ?_, fun i hi => ?_⟩
  · by_cases him : i = m
    · subst him
      rw [upd_same]
      have := (Array.getElem?_eq_some_iff.1 (h2 i hi)).1
      simp [this]
    · rw [upd_ne _ _ him, Array.getElem?_setIfInBounds_ne (Ne.symm him)]
      exact h2 i hi
  · by_cases him : i = m
    · subst him
      rw [upd_same, upd_same]
      have := own_keepB h.own' fun g hg => hother g (h.apart' g hg).1
      simpa using this
    · rw [upd_ne _ _ him, upd_ne _ _ him]
      exact own_keepB (h.own i hi him) fun g hg => hother g (hap i hi g hg).1
  · by_cases him : i = m
    · subst him
      rw [upd_same, upd_same]
      refine ⟨by simp [(h.clo i hi).1], fun j y c hy hc => ?_⟩
      have hl := (h.clo i hi).1
      rcases Nat.lt_or_ge j (xs i).length with hj | hj
      · rw [List.getElem?_append_left hj] at hy
        rw [List.getElem?_append_left (by omega)] at hc
        exact hclo ((h.clo i hi).2 j y c hy hc)
      · rw [List.getElem?_append_right hj] at hy
        rw [List.getElem?_append_right (by omega), ← hl] at hc
        rcases hjj : j - (xs i).length with _ | z
        · rw [hjj] at hy hc
          obtain rfl := Option.some.inj hy
          obtain rfl := Option.some.inj hc
          exact hclo h.clo'
        · rw [hjj] at hy; simp at hy
    · rw [upd_ne _ _ him, upd_ne _ _ him]
      exact ⟨(h.clo i hi).1, fun j y c hy hc => hclo ((h.clo i hi).2 j y c hy hc)⟩
  · by_cases him : i = m
    · subst him
      rw [upd_same] at hg
      obtain ⟨h3, h4⟩ := h.apart' g hg
      exact ⟨h3, fun j hj hne => by rw [upd_ne _ _ hne]; exact h4 j hj hne⟩
    · rw [upd_ne _ _ him] at hg
      obtain ⟨h3, h4⟩ := hap i hi g hg
      refine ⟨h3, fun j hj hne => ?_⟩
      by_cases hjm : j = m
      · subst hjm
        rw [upd_same]
        intro e
        exact (h.apart' g e).2 i hi him hg
      · rw [upd_ne _ _ hjm]; exact h4 j hj hne
  · by_cases him : i = m
    · subst him
      rw [upd_same, upd_same]
      obtain ⟨A, c, e⟩ := h.slice'
      exact ⟨A, c, by rw [e]; simp⟩
    · rw [upd_ne _ _ him, upd_ne _ _ him]; exact hsl i hi
end Go.Proofs.YtbegdcjofnfkiaaGreatDoor
