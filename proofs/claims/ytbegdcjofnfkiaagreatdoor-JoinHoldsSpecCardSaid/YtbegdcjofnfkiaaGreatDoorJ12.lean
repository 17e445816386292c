/- join.fulfilling: its closure try walked (printed by tools/gen106.py). -/
import Derived.Test.YtbegdcjofnfkiaaGreatDoorJ11
import Derived.Test.YtbegdcjofnfkiaaGreatDoorIterT
import Derived.OwnWalkIn
import Derived.TacticsInMore
import Derived.LoopNIn
import Derived.LoopIn
namespace Go.Proofs.YtbegdcjofnfkiaaGreatDoor
open Go.RowKit Go.Shelf Go.Sort
attribute [local go_sem] Oper.semAt_some

/-- The slice of values that is handed to a round. -/
def TVals (n : Nat) (x : List Int) (V : Array Value) (C : Nat → Prop) (W : World) : Prop := ∃ v, V = #[v] ∧ W.ownsRow n 3 1 v x.length (x.flatMap iEnc) ∧ ∀ g, v.ownBlock = some g → ¬ C g
/-- The values so far, in memory. -/
structure FulSt (St : Nat → Prop) (n₀ Bv : Nat) (vs : List Int) (C : Nat → Prop) (W : World) : Prop where
  box : ∃ v, W.heap[Bv]? = some (.cells #[v] 23 (0, 0)) ∧ W.ownsRow n₀ 3 1 v vs.length (vs.flatMap iEnc) ∧ ∀ g, v.ownBlock = some g → ¬ C g ∧ ¬ St g ∧ g ≠ Bv
  notC : ¬ C Bv
theorem FulSt.later {St : Nat → Prop} {n₀ Bv : Nat} {vs : List Int} {C : Nat → Prop} {W W' : World} (h : FulSt St n₀ Bv vs C W) (hb : Below W.heap.size W W') : FulSt St n₀ Bv vs C W' := by
  obtain ⟨v, h1, h2, h3⟩ := h.box
  exact ⟨⟨v, (hb.block _ (lt_of_heap h1)).trans h1, own_keepB h2 fun g hg => hb.block g (h2.lt g hg).2, h3⟩, h.notC⟩
theorem FulSt.round {St : Nat → Prop} {n₀ Bv : Nat} {vs : List Int} {C C2 : Nat → Prop} {W W' : World} (h : FulSt St n₀ Bv vs C W) (hk : Kept C W W') (hC : ∀ b, C2 b → b < W'.heap.size ∧ (C b ∨ W.heap.size ≤ b)) : FulSt St n₀ Bv vs C2 W' := by
  obtain ⟨v, h1, h2, h3⟩ := h.box
  have hn : ∀ b, b < W.heap.size → ¬ C b → ¬ C2 b := fun b hb hnc hc => by
    rcases (hC b hc).2 with h | h
    · exact hnc h
    · omega
  exact ⟨⟨v, (hk.block _ (lt_of_heap h1) h.notC).trans h1, own_keepB h2 fun g hg => hk.block g (h2.lt g hg).2 (h3 g hg).1, fun g hg => ⟨hn g (h2.lt g hg).2 (h3 g hg).1, (h3 g hg).2⟩⟩, hn _ (lt_of_heap h1) h.notC⟩
/-- What a walk of try leaves. -/
def TryPost (St : Nat → Prop) (ws : World) (n₀ Bv : Nat) (J : List (List Int) → (Nat → Prop) → World → Prop) (Jx : (Nat → Prop) → World → Prop) (ys : List (List Int)) (vs : List Int) (e : Ending) (W : World) : Prop :=
  ∃ C2, SeqSt St ws ws C2 W ∧ FulSt St n₀ Bv vs C2 W ∧ ((e = .returned (.bool true) ∧ J ys C2 W) ∨ (e = .returned (.bool false) ∧ Jx C2 W))
theorem ix_fnRow {A : Option Addr} {n c k b off : Nat} (hA : A = some ⟨b, off, none⟩) (hk : k < n) (W : World) : (Instr.indexAt 138 (.slice A n c) (.int .i64 k)).run Tryz.prog W = .ok (.pointer (some ⟨b, off + k * 1, none⟩)) W := by
  subst hA
  have hk' : (k : Int) < n := by omega
  simp [go_sem, hk']
theorem ix_Ints {A : Option Addr} {n c k b off : Nat} (hA : A = some ⟨b, off, none⟩) (hk : k < n) (W : World) : (Instr.indexAt 23 (.slice A n c) (.int .i64 k)).run Tryz.prog W = .ok (.pointer (some ⟨b, off + k * 1, none⟩)) W := by
  subst hA
  have hk' : (k : Int) < n := by omega
  simp [go_sem, hk']
theorem cnd_varin {q : Qu} (hv : VarsOk q) {i : Nat} {cd : Cnd} (h : cd ∈ cndsJ q i) : ∀ a, (∃ y, cd = .atom y ∧ (a = y.s ∨ a = y.o ∨ a = y.v)) ∨ (∃ y, cd = .test y ∧ (a = y.a ∨ a = y.b)) → VarIn a i := by
  intro a ha hvar
  rcases List.mem_append.1 h with h | h
  · obtain ⟨y, hy, rfl⟩ := List.mem_map.1 h
    obtain ⟨hy1, hy2⟩ := List.mem_filter.1 hy
    have hlv : lvlA y = i := by simpa using hy2
    rcases ha with ⟨z, hz, hc⟩ | ⟨z, hz, _⟩
    · injection hz with hz
      subst hz
      have hm : a ∈ [y.s, y.o, y.v] := by rcases hc with h | h | h <;> simp [h]
      have h1 := (lvlL_le [y.s, y.o, y.v] 0).2 a hm hvar
      have h2 := hv.2.1 a (args_atom hy1 hm) hvar
      have h3 : [y.s, y.o, y.v].foldl lvlStep 0 = i := hlv
      omega
    · cases hz
  · obtain ⟨y, hy, rfl⟩ := List.mem_map.1 h
    obtain ⟨hy1, hy2⟩ := List.mem_filter.1 hy
    have hlv : lvlT y = i := by simpa using hy2
    rcases ha with ⟨z, hz, _⟩ | ⟨z, hz, hc⟩
    · cases hz
    · injection hz with hz
      subst hz
      have hm : a ∈ [y.a, y.b] := by rcases hc with h | h <;> simp [h]
      have h1 := (lvlL_le [y.a, y.b] 0).2 a hm hvar
      have h2 := hv.2.1 a (args_test hy1 hm) hvar
      have h3 : [y.a, y.b].foldl lvlStep 0 = i := hlv
      omega
theorem fulF_not {l : List Fc} {D : List Int} {cs : Nat → List Cnd} {vs : List Int} (h : (cs vs.length).all (cndJ l vs) = false) : ∀ k, fulF l D cs k vs = []
  | 0 => by simp [fulF, h]
  | k + 1 => by simp [fulF, h]
theorem fulF_zero {l : List Fc} {D : List Int} {cs : Nat → List Cnd} {vs : List Int} (h : (cs vs.length).all (cndJ l vs) = true) : fulF l D cs 0 vs = [vs] := by simp [fulF, h]
theorem fulF_succ {l : List Fc} {D : List Int} {cs : Nat → List Cnd} {vs : List Int} (h : (cs vs.length).all (cndJ l vs) = true) (k : Nat) : fulF l D cs (k + 1) vs = D.flatMap fun n => fulF l D cs k (vs ++ [n]) := by simp [fulF, h]
theorem flatMap_split {α β : Type} {D : List α} {j : Nat} {x : α} (h : D[j]? = some x) (f : α → List β) : D.flatMap f = (D.take j).flatMap f ++ (f x ++ (D.drop (j + 1)).flatMap f) := by
  have h1 : D = D.take j ++ x :: D.drop (j + 1) := by rw [← drop_cons h, List.take_append_drop]
  have h2 : D.flatMap f = (D.take j ++ x :: D.drop (j + 1)).flatMap f := congrArg (fun l => l.flatMap f) h1
  rw [h2, List.flatMap_append, List.flatMap_cons]
theorem st_below {St : Nat → Prop} {ws W W' : World} {C : Nat → Prop} (h : SeqSt St ws ws C W) (hb : Below W.heap.size W W') : SeqSt St ws ws C W' := h.own (M := fun _ => False) (kept_of_below hb fun b h1 h2 => by omega) fun b h => h.elim
theorem kept_bel {M : Nat → Prop} {W W' : World} (hb : Below W.heap.size W W') : Kept M W W' := kept_of_below hb fun b h1 h2 => by omega

theorem st_own {St M : Nat → Prop} {ws W W' : World} {C : Nat → Prop} (h : SeqSt St ws ws C W) (hk : Kept M W W') (hM : ∀ b, M b → ¬ St b) : SeqSt St ws ws C W' :=
  ⟨fun b hb => ⟨(h.reads b hb).1, (hk.block b (Nat.lt_of_lt_of_le (h.reads b hb).1 h.size) (fun e => hM b e hb)).trans (h.reads b hb).2.1, (h.reads b hb).2.2⟩, fun b hb => Nat.lt_of_lt_of_le (h.lt b hb) hk.size, Nat.le_trans h.size hk.size⟩
theorem iEnc_len1 (x : Int) : (iEnc x).length = 1 := rfl
set_option maxRecDepth 100000 in
/-- A value laid behind the values. -/
theorem ful_push {St : Nat → Prop} {ws W : World} {n₀ Bv : Nat} {vs : List Int} {C : Nat → Prop} (hs : SeqSt St ws ws C W) (h : FulSt St n₀ Bv vs C W) (hBv : n₀ ≤ Bv ∧ ¬ St Bv) (hlen : vs.length ≤ 1000) (x : Int) :
    ∃ A c A' c' w9, W.heap[Bv]? = some (.cells #[.slice A vs.length c] 23 (0, 0)) ∧ (Builtin.append_ #[23, 23] 23 #[.slice A vs.length c, .slice (some ⟨W.heap.size, 0, none⟩) 1 1]).run Tryz.prog (W.alloc (.cells #[.int .i64 x] 3)) = .ok (.slice A' (vs.length + 1) c') w9 ∧
      w9.heap[Bv]? = some (.cells #[.slice A vs.length c] 23 (0, 0)) ∧ SeqSt St ws ws C (w9.setCell ⟨Bv, 0, none⟩ (.slice A' (vs.length + 1) c')) ∧ FulSt St n₀ Bv (vs ++ [x]) C (w9.setCell ⟨Bv, 0, none⟩ (.slice A' (vs.length + 1) c')) ∧ Kept (fun b => n₀ ≤ b ∧ ¬ C b) W (w9.setCell ⟨Bv, 0, none⟩ (.slice A' (vs.length + 1) c')) := by
  obtain ⟨i0, hi, hz, hss, hbb⟩ := info_parts iInfo
  obtain ⟨v, h1, h2, h3⟩ := h.box
  obtain ⟨A, c, rfl, hrow⟩ := own_rows iEnc_len1 (by decide) h2
  obtain ⟨W8, hW8⟩ : ∃ W8, W.alloc (.cells #[.int .i64 x] 3) = W8 := ⟨_, rfl⟩
  have hg8 : W8.heap[W.heap.size]? = some (.cells #[.int .i64 x] 3 (0, 0)) := by rw [← hW8]; exact World.alloc_heap_new _ _
  have hb8 : Below W.heap.size W W8 := hW8 ▸ (Below.refl _ _).alloc (Nat.le_refl _) _
  have hB := lt_of_heap h1
  have hx8 : Rows 1 (Rep.flat iEnc) W8 W8.heap.size (some ⟨W.heap.size, 0, none⟩) 1 1 [x] := rows_of_heap (l := [x]) (c := 1) iEnc_len1 hg8 (by simp) (by omega) rfl
  have hown8 := own_keepB h2 fun g hg => hb8.block g (h2.lt g hg).2
  obtain ⟨v', w9, hrun, hown', hg, hat⟩ := run_append_rows (P := Tryz.prog) (ty := 23) (enc := iEnc) Tryz.underlying23 hi hz hss hbb rfl iEnc_len1 (by decide) iEnc_one hown8 hx8 (by omega) (by omega) (by have := hb8.size; omega)
  obtain ⟨A', c', rfl, _⟩ := own_rows iEnc_len1 (by decide) hown'
  have h9 : w9.heap[Bv]? = some (.cells #[.slice A vs.length c] 23 (0, 0)) := (hg.block Bv (by have := hb8.size; omega) (fun e => (h3 Bv e.symm).2.2 rfl)).trans ((hb8.block Bv hB).trans h1)
  have hnew : ∀ g, (Value.slice A' (vs.length + 1) c').ownBlock = some g → ¬ C g ∧ ¬ St g ∧ g ≠ Bv := fun g hg' => by
    rcases hat with e | e
    · rw [e] at hg'; exact h3 g hg'
    · rw [e] at hg'
      injection hg' with hg'
      subst hg'
      refine ⟨fun hc => ?_, fun hc => ?_, fun hc => ?_⟩
      · have := hs.lt _ hc; have := hb8.size; omega
      · have := (hs.reads _ hc).1; have := hs.size; have := hb8.size; omega
      · have := hb8.size; omega
  have hk : Kept (fun b => b = Bv ∨ (Value.slice A vs.length c).ownBlock = some b) W (w9.setCell ⟨Bv, 0, none⟩ (.slice A' (vs.length + 1) c')) :=
    (((kept_bel hb8).grown hg (fun r hr => .inl (.inr hr)))).setCell (.inl (.inl rfl)) _
  refine ⟨A, c, A', c', w9, h1, by rw [hW8]; exact hrun, h9, st_own hs hk (fun b hb => ?_), ⟨⟨_, heap_set1 h9 _, ?_, hnew⟩, h.notC⟩, hk.mono fun b _ hb => ?_⟩
  · rcases hb with rfl | hb
    · exact hBv.2
    · exact (h3 b hb).2.1
  · have := own_keepB hown' fun g hg' => heap_set_ne (o := 0) (u := .slice A' (vs.length + 1) c') rfl (hnew g hg').2.2
    simpa using this
  · rcases hb with rfl | hb
    · exact ⟨hBv.1, h.notC⟩
    · exact ⟨(h2.lt b hb).1, (h3 b hb).1⟩
/-- The last value taken off. -/
theorem ful_pop {St : Nat → Prop} {ws W : World} {n₀ Bv : Nat} {vs : List Int} {x : Int} {C : Nat → Prop} (hs : SeqSt St ws ws C W) (h : FulSt St n₀ Bv (vs ++ [x]) C W) (hBv : n₀ ≤ Bv ∧ ¬ St Bv) :
    ∃ g c, W.heap[Bv]? = some (.cells #[.slice (some ⟨g, 0, none⟩) (vs.length + 1) c] 23 (0, 0)) ∧ vs.length + 1 ≤ c ∧ c ≤ 9223372036854775807 ∧ SeqSt St ws ws C (W.setCell ⟨Bv, 0, none⟩ (.slice (some ⟨g, 0, none⟩) vs.length c)) ∧ FulSt St n₀ Bv vs C (W.setCell ⟨Bv, 0, none⟩ (.slice (some ⟨g, 0, none⟩) vs.length c)) ∧ Kept (fun b => n₀ ≤ b ∧ ¬ C b) W (W.setCell ⟨Bv, 0, none⟩ (.slice (some ⟨g, 0, none⟩) vs.length c)) := by
  obtain ⟨v, h1, h2, h3⟩ := h.box
  rw [List.length_append, List.length_singleton, List.flatMap_append] at h2
  obtain ⟨g, c, rfl⟩ := ownsRow_succ h2
  have hrow : vs.length + 1 ≤ c ∧ c ≤ 9223372036854775807 := by
    rcases h2.2 with ⟨e, _⟩ | ⟨g', cap, cur, hv, _, _, hn, hm, _⟩
    · cases e
    · injection hv with _ _ hv
      subst hv
      exact ⟨hn, hm⟩
  have h4 := ownsRow_pop (by rw [flat_len iEnc_len1]) h2
  have hk : Kept (fun b => b = Bv) W (W.setCell ⟨Bv, 0, none⟩ (.slice (some ⟨g, 0, none⟩) vs.length c)) := Kept.setCell (M := fun b => b = Bv) (Kept.refl _ W) (p := ⟨Bv, 0, none⟩) (.inl rfl) _
  refine ⟨g, c, h1, hrow.1, hrow.2, st_own hs hk (fun b hb => by rw [hb]; exact hBv.2), ⟨⟨_, heap_set1 h1 _, own_keepB h4 fun g' hg' => heap_set_ne rfl (h3 g' hg').2.2 _ _, h3⟩, h.notC⟩, hk.mono fun b _ hb => ?_⟩
  rw [hb]
  exact ⟨hBv.1, h.notC⟩

section
variable (q : Qu) (FA : Option Addr) (fn fc : Nat) (l : List Fc) (G capG base Bl Bv Bq By Bd Bt li n₀ : Nat) (DA : Option Addr) (dn dc : Nat) (D : List Int) (ws : World) (St : Nat → Prop) (slv : Nat → Value) (xsc : Nat → List Clo)
  (J : List (List Int) → (Nat → Prop) → World → Prop) (Jx : (Nat → Prop) → World → Prop) (xs : List (List Int))
def capsT : Array Value := #[.pointer (some ⟨Bl, 0, none⟩), .pointer (some ⟨Bv, 0, none⟩), .pointer (some ⟨Bq, 0, none⟩), .pointer (some ⟨By, 0, none⟩), .pointer (some ⟨Bd, 0, none⟩), .pointer (some ⟨Bt, 0, none⟩)]
set_option maxRecDepth 100000 in
set_option maxHeartbeats 4000000 in
theorem try_any (hvo : VarsOk q) (hlen : q.nn = q.names.length ∧ q.nn ≤ 8)
    (sBl : St Bl) (gBl : ws.heap[Bl]? = some (.cells #[.slice (some ⟨G, 0, none⟩) (q.nn + 1) capG] 136 (0, 0)))
    (sBq : St Bq) (gBq : QBox q Bq ws)
    (sBy : St By) (gBy : ws.heap[By]? = some (.cells #[.func (.yield li) #[] #[]] 135 (0, 0)))
    (sBd : St Bd) (gBd : ws.heap[Bd]? = some (.cells #[.slice DA dn dc] 23 (0, 0)))
    (sBt : St Bt) (gBt : ws.heap[Bt]? = some (.cells #[.func (.func 78) #[] (capsT Bl Bv Bq By Bd Bt)] 29 (0, 0)))
    (hLv : ∀ wr, (∀ b, St b → wr.heap[b]? = ws.heap[b]?) → ws.heap.size ≤ wr.heap.size → LvSt FA fn fc q.nn base G capG slv (cndsJ q) xsc wr)
    (hFa : ∀ wr, (∀ b, St b → wr.heap[b]? = ws.heap[b]?) → ws.heap.size ≤ wr.heap.size → fSl wr wr.heap.size FA fn fc l)
    (hDm : ∀ wr, (∀ b, St b → wr.heap[b]? = ws.heap[b]?) → ws.heap.size ≤ wr.heap.size → iSl wr wr.heap.size DA dn dc D)
    (hBv : n₀ ≤ Bv ∧ ¬ St Bv)
    (hJ : ∀ pre C1 W1 W2, J pre C1 W1 → Kept (fun b => n₀ ≤ b ∧ ¬ C1 b) W1 W2 → J pre C1 W2)
    (hJx : ∀ C1 W1 W2, Jx C1 W1 → Kept (fun b => n₀ ≤ b ∧ ¬ C1 b) W1 W2 → Jx C1 W2)
    (hY : ∀ m pre x suf C1 W1 V, xs = pre ++ x :: suf → V.size = 1 → TVals n₀ x V C1 W1 → J pre C1 W1 → YieldAt Fence.wide m Tryz.prog li V W1 fun e W2 =>
      ∃ C2, Kept C1 W1 W2 ∧ (∀ b, C2 b → b < W2.heap.size ∧ (C1 b ∨ W1.heap.size ≤ b)) ∧ ((e = .returned (.bool true) ∧ J (pre ++ [x]) C2 W2) ∨ (e = .returned (.bool false) ∧ Jx C2 W2))) :
    ∀ (k : Nat) (vs : List Int) (pre suf : List (List Int)) (C1 : Nat → Prop) (wa : World), vs.length + k = q.nn → xs = pre ++ fulF l D (cndsJ q) k vs ++ suf → J pre C1 wa → SeqSt St ws ws C1 wa → FulSt St n₀ Bv vs C1 wa →
      Calls Tryz.prog 78 (capsT Bl Bv Bq By Bd Bt) wa (TryPost St ws n₀ Bv J Jx (pre ++ fulF l D (cndsJ q) k vs) vs) := by
  intro k
  induction k using Nat.strongRecOn with
  | _ k ih =>
    intro vs pre suf C1 wa hk hxs hj hst hful
    have HJ := hidp hJ
    have HJx := hidp hJx
    have HY := hidp hY
    have HI := hidp ih
    have HXs := hidp hxs
    have HJ0 := hidp hj
    have HSt := hidp hst
    have HFul := hidp hful
    have HLv := hidp hLv
    have HFa := hidp hFa
    have HDm := hidp hDm
    have HVo := hidp hvo
    have HK := hidp hk
    have HLen := hidp hlen
    obtain ⟨v0, hv0, hown0, hblk0⟩ := hful.box
    obtain ⟨A0, cc0, rfl, hrow0⟩ := own_rows iEnc_len (by decide) hown0
    have hlv := hLv wa (fun b hb => (hst.reads b hb).2.1) hst.size
    have hn8 := hlen.2
    have hvl : vs.length ≤ q.nn := by omega
    obtain ⟨csr, hr1, hr2⟩ := hlv.row
    obtain ⟨As, cs', hsl⟩ := hlv.slices vs.length hvl
    have hrowc := (own_rows cloEnc_len (by decide) (hlv.own vs.length hvl))
    obtain ⟨As2, cs2, hsl2, hrowc⟩ := hrowc
    obtain ⟨rfl, rfl⟩ : As = As2 ∧ cs' = cs2 := by rw [hsl] at hsl2; injection hsl2 with e1 e2 e3; exact ⟨e1, e3⟩
    have xl := (hst.cell (o := 0) sBl).trans (cell_of_heap gBl)
    have xy := (hst.cell (o := 0) sBy).trans (cell_of_heap gBy)
    have xd := (hst.cell (o := 0) sBd).trans (cell_of_heap gBd)
    have xt := (hst.cell (o := 0) sBt).trans (cell_of_heap gBt)
    have xv := cell_of_heap (o := 0) hv0
    have xg : wa.cell? ⟨G, vs.length, none⟩ = some (.slice As (xsc vs.length).length cs') := by rw [cell_of_heap hr1, hr2 _ hvl, hsl]
    have xn := (hst.cell (o := 0) sBq).trans gBq.cells.1
    simp only [List.getElem?_toArray, List.getElem?_cons_zero, capsT] at xl xy xd xt xv
    have gBy' := cell_of_heap (o := 0) gBy
    have gBd' := cell_of_heap (o := 0) gBd
    have gBt' := cell_of_heap (o := 0) gBt
    simp only [List.getElem?_toArray, List.getElem?_cons_zero, capsT] at gBy' gBd' gBt'
    have ll := lt_of_cell xl
    have lg := lt_of_cell xg
    have lv := lt_of_cell xv
    have lq := lt_of_cell xn
    have hix := ix_fnRows (G := G) (n := q.nn + 1) (c := capG) (k := vs.length) (by omega)
    have hcl := hrowc.2.1
    have hcc := hrowc.2.2.1
    have HRc := hidp hrowc
    have HOwn0 := hidp hown0
    have HBlk0 := hidp hblk0
    have HR0 := hidp hrow0
    clear hJ hJx hY ih hxs hj hst hful hLv hFa hDm hvo hk hlen hown0 hblk0 hrow0 hlv hr1 hr2 hsl hsl2 hrowc hv0 gBl gBy gBd gBt gBq
    refine (callsIn_wide (n := 0)).1 (callsIn_of_wp Tryz.func78 rfl trivial ?_ rfl)
    simp only [capsT, Tryz.ntmps78, List.size_toArray, List.length_cons, List.length_nil, Nat.reduceAdd, Nat.reduceSub, Array.replicate_succ, Array.replicate_zero, List.push_toArray, List.append_toArray, List.nil_append, List.cons_append]
    gi_wp2_with fail

    have HB00 : Hid (Below wa.heap.size wa wa) := Below.refl _ _
    gi_loopw [18] (fun i wr => ∃ j : Nat, j ≤ (xsc vs.length).length ∧ i = .int .i64 j ∧ Below wa.heap.size wa wr ∧ ∀ (z : Nat) cd, z < j → (cndsJ q vs.length)[z]? = some cd → cndJ l vs cd = true) (fun i _ => (xsc vs.length).length - (intOf i).toNat)
    case atStart => exact ⟨0, by omega, rfl, Below.refl _ _, fun z cd h => by omega⟩
    case round =>
      obtain ⟨j, hj, rfl, hbe, hok⟩ := hrel
      have HBe := hidp hbe
      have HOK := hidp hok
      have hstw := st_below HSt.out hbe
      have HStw := hidp hstw
      have hlvw := HLv.out wr (fun b hb => (hstw.reads b hb).2.1) hstw.size
      have HFw := hidp (HFul.out.later hbe)
      have HJw := hidp (HJ.out _ _ _ _ HJ0.out (kept_bel hbe))
      have xv := (bcell hbe).1 _ 0 lv |>.trans xv
      have lv := Nat.lt_of_lt_of_le lv hbe.size
      have HClo := hidp (hlvw.clo vs.length (by have := HK.out; omega))
      by_cases hjn : j < (xsc vs.length).length
      · have hjn' : (j : Int) < (xsc vs.length).length := by omega
        obtain ⟨b, off, x, cs, hA, hb, hs, hr, hc⟩ := Rows.get (HRc.out.keep (Rep.flat_stable _) hbe.size hbe.block) hjn
        obtain rfl := hr
        have c0 := hc 0 _ rfl
        rw [Nat.add_zero, Nat.mul_one] at c0
        have lb := lt_of_cell c0
        obtain ⟨cd, hcd⟩ : ∃ cd, (cndsJ q vs.length)[j]? = some cd := ⟨_, List.getElem?_eq_getElem (by have := HClo.out.1; omega)⟩
        have hclo := clo_any wr (HClo.out.2 j x cd hs hcd) (HFa.out wr (fun b hb => (hstw.reads b hb).2.1) hstw.size) (HR0.out.keep (Rep.flat_stable _) hbe.size hbe.block) (cnd_varin HVo.out (List.mem_of_getElem? hcd))
        have hixc := ix_fnRow (c := cs') hA hjn
        have HCd := hidp hcd
        have HCl1 := hidp hclo.1
        have HCl2 := hidp hclo.2
        clear hs hA hc hcd hclo hbe hok hstw hlvw hb
        obtain ⟨p1, hp1⟩ : ∃ p, cndJ l vs cd = p := ⟨_, rfl⟩
        rw [hp1] at HCl1 HCl2
        have HP1 := hidp hp1
        clear hp1
        cases x
        · simp only [cloV] at c0
          gi_wp2_with fail
          refine ⟨trivial, rfl, callsIn_wide.2 ((HCl1.out _ _ rfl).mono ?_)⟩
          rintro e w7 ⟨rfl, hb7⟩
          have hb17 := HBe.out.trans (hb7.mono HBe.out.size)
          have HB17 := hidp hb17
          clear hb7 hb17 c0 lb hixc
          cases p1
          · have HF : Hid (fulF l D (cndsJ q) k vs = []) := fulF_not (by
              rw [Bool.eq_false_iff]
              intro h
              have := List.all_eq_true.1 h cd (List.mem_of_getElem? HCd.out)
              rw [HP1.out] at this; cases this) k
            gi_wp2_with fail
            go_ret
            exact ⟨C1, st_below HSt.out HB17.out, HFul.out.later HB17.out, .inl ⟨rfl, by rw [HF.out, List.append_nil]; exact HJ.out _ _ _ _ HJ0.out (kept_bel HB17.out)⟩⟩
          · gi_wp2_with fail
            refine ⟨⟨j + 1, by omega, by go_num, HB17.out, fun z cd' hz hcd' => ?_⟩, by simp [intOf]; omega⟩
            rcases Nat.lt_or_ge z j with h | h
            · exact HOK.out z cd' h hcd'
            · obtain rfl : z = j := by omega
              rw [HCd.out] at hcd'
              obtain rfl := Option.some.inj hcd'
              exact HP1.out
        · simp only [cloV] at c0
          gi_wp2_with fail
          refine ⟨trivial, rfl, callsIn_wide.2 ((HCl2.out _ rfl).mono ?_)⟩
          rintro e w7 ⟨rfl, hb7⟩
          have hb17 := HBe.out.trans (hb7.mono HBe.out.size)
          have HB17 := hidp hb17
          clear hb7 hb17 c0 lb hixc
          cases p1
          · have HF : Hid (fulF l D (cndsJ q) k vs = []) := fulF_not (by
              rw [Bool.eq_false_iff]
              intro h
              have := List.all_eq_true.1 h cd (List.mem_of_getElem? HCd.out)
              rw [HP1.out] at this; cases this) k
            gi_wp2_with fail
            go_ret
            exact ⟨C1, st_below HSt.out HB17.out, HFul.out.later HB17.out, .inl ⟨rfl, by rw [HF.out, List.append_nil]; exact HJ.out _ _ _ _ HJ0.out (kept_bel HB17.out)⟩⟩
          · gi_wp2_with fail
            refine ⟨⟨j + 1, by omega, by go_num, HB17.out, fun z cd' hz hcd' => ?_⟩, by simp [intOf]; omega⟩
            rcases Nat.lt_or_ge z j with h | h
            · exact HOK.out z cd' h hcd'
            · obtain rfl : z = j := by omega
              rw [HCd.out] at hcd'
              obtain rfl := Option.some.inj hcd'
              exact HP1.out
      · obtain rfl : j = (xsc vs.length).length := by omega
        have hkk : ¬ (((xsc vs.length).length : Int) < (xsc vs.length).length) := by omega
        have HAll : Hid ((cndsJ q vs.length).all (cndJ l vs) = true) := List.all_eq_true.2 fun cd hcd => by
          obtain ⟨z, hz⟩ := List.mem_iff_getElem?.1 hcd
          exact HOK.out z cd (by have := (List.getElem?_eq_some_iff.1 hz).1; have := HClo.out.1; omega) hz
        have xn := (bcell hbe).1 _ 0 lq |>.trans xn
        have xy := (hstw.cell (o := 0) sBy).trans gBy'
        have xd := (hstw.cell (o := 0) sBd).trans gBd'
        clear HOK hbe hok hlvw
        rcases k with _ | k
        · have HVn : Hid (vs.length = q.nn) := by show _ = _; have := HK.out; omega
          have heq : (((vs.length : Nat) : Int) == (q.nn : Int)) = true := by have := HVn.out; simp; omega
          obtain ⟨fn', tmps', assign, body, hy, hR⟩ := HY.out 0 pre vs suf C1 wr #[.slice A0 vs.length cc0] (by rw [HXs.out, fulF_zero HAll.out]; simp) rfl ⟨_, rfl, own_keepB HOwn0.out fun g hg => HBe.out.block g (HOwn0.out.lt g hg).2, fun g hg => (HBlk0.out g hg).1⟩ HJw.out
          have HR := hidp hR
          clear hR
          gi_wp2_with fail
          refine ⟨rfl, HR.out.mono ?_⟩
          rintro e W3 ⟨C3, hk3, hC3, (⟨rfl, hJ3⟩ | ⟨rfl, hJx3⟩)⟩
          · have HP : Hid (TryPost St ws n₀ Bv J Jx (pre ++ fulF l D (cndsJ q) 0 vs) vs (.returned (.bool true)) W3) := ⟨C3, HStw.out.round hk3 hC3, HFw.out.round hk3 hC3, .inl ⟨rfl, by rw [fulF_zero HAll.out]; exact hJ3⟩⟩
            clear hk3 hC3 hJ3 hy
            gi_wp2_with fail
            go_ret
            exact HP.out
          · have HP : Hid (TryPost St ws n₀ Bv J Jx (pre ++ fulF l D (cndsJ q) 0 vs) vs (.returned (.bool false)) W3) := ⟨C3, HStw.out.round hk3 hC3, HFw.out.round hk3 hC3, .inr ⟨rfl, hJx3⟩⟩
            clear hk3 hC3 hJx3 hy
            gi_wp2_with fail
            go_ret
            exact HP.out
        · have heq : (((vs.length : Nat) : Int) == (q.nn : Int)) = false := by have := HK.out; simp; omega
          have HFS : Hid (fulF l D (cndsJ q) (k + 1) vs = D.flatMap fun n => fulF l D (cndsJ q) k (vs ++ [n])) := fulF_succ HAll.out k
          have HDl := hidp (HDm.out wr (fun b hb => (hstw.reads b hb).2.1) hstw.size).1
          have hdc := (HDm.out wr (fun b hb => (hstw.reads b hb).2.1) hstw.size).2.1
          have hdc2 := (HDm.out wr (fun b hb => (hstw.reads b hb).2.1) hstw.size).2.2.1
          have ldd := lt_of_cell xd
          clear hstw
          gi_wp2_with fail
          gi_loopw [38] (fun i wq => ∃ (j : Nat) (Cq : Nat → Prop), j ≤ dn ∧ i = .int .i64 j ∧ SeqSt St ws ws Cq wq ∧ FulSt St n₀ Bv vs Cq wq ∧ J (pre ++ (D.take j).flatMap fun n => fulF l D (cndsJ q) k (vs ++ [n])) Cq wq) (fun i _ => dn - (intOf i).toNat)
          case atStart => exact ⟨0, C1, by omega, rfl, HStw.out, HFw.out, by simpa using HJw.out⟩
          case round =>
            rename World => wq
            obtain ⟨j, Cq, hj, rfl, hsq, hfq, hjq⟩ := hrel
            have HSq := hidp hsq
            have HFq := hidp hfq
            have HJq := hidp hjq
            clear xv xn xy xd hsq hfq hjq
            by_cases hjn : j < dn
            · have hjn' : (j : Int) < dn := by omega
              obtain ⟨b, off, x, cs, hA, hb, hs, hr, hc⟩ := Rows.get (HDm.out wq (fun b hb => (HSq.out.reads b hb).2.1) HSq.out.size) hjn
              obtain rfl := hr
              have c0 := hc 0 _ rfl
              rw [Nat.add_zero, Nat.mul_one] at c0
              have lb := lt_of_cell c0
              have hixc := ix_Ints (c := dc) hA hjn
              have HX := hidp hs
              obtain ⟨A1, c1, A2, c2, w9, hv1, hrun, hv9, hs10, hf10, hk10⟩ := ful_push HSq.out HFq.out hBv (by have := HK.out; omega) x
              have xv := cell_of_heap (o := 0) hv1
              have xv9 := cell_of_heap (o := 0) hv9
              have f9 := frozen_of_heap (o := 0) hv9
              simp only [List.getElem?_toArray, List.getElem?_cons_zero] at xv xv9
              have l1 := lt_of_cell xv
              have l9 := lt_of_cell xv9
              have hj10 := HJ.out _ _ _ _ HJq.out hk10
              obtain ⟨W10, hW10⟩ : ∃ W10, w9.setCell ⟨Bv, 0, none⟩ (.slice A2 (vs.length + 1) c2) = W10 := ⟨_, rfl⟩
              rw [hW10] at hs10 hf10 hj10
              have HC := hidp (HI.out k (Nat.lt_succ_self _) (vs ++ [x]) _ ((D.drop (j + 1)).flatMap (fun n => fulF l D (cndsJ q) k (vs ++ [n])) ++ suf) Cq W10 (by have := HK.out; simp; omega) (by
                rw [HXs.out, HFS.out]
                rw [flatMap_split HX.out]
                simp) hj10 hs10 hf10)
              have xt := (hs10.cell (o := 0) sBt).trans gBt'
              have hne : Bt ≠ Bv := fun e => hBv.2 (e ▸ sBt)
              rw [← hW10] at xt
              have xt9 : w9.cell? ⟨Bt, 0, none⟩ = w9.cell? ⟨Bt, 0, none⟩ := rfl
              conv at xt9 => rhs; rw [← World.cell?_of_block (w := w9) (a := ⟨Bt, 0, none⟩) (Below.heap_setCell w9 ⟨Bv, 0, none⟩ (.slice A2 (vs.length + 1) c2) Bt hne)]
              rw [xt] at xt9
              have lt9 := lt_of_cell xt9
              have HRun := hidp hrun
              have HW10 := hidp hW10
              clear hs hA hc hv1 hrun hv9 hs10 hf10 hk10 hj10 hW10 hb
              gi_wp2_with (gi_at_builtin; refine wpListIn_append_known rfl (.tmp 42) (.tmp 44) 23 rfl rfl rfl HRun.out ?_)
              rw [HW10.out]
              refine ⟨trivial, rfl, callsIn_wide.2 (HC.out.mono ?_)⟩
              rintro e W11 ⟨C5, hs5, hf5, hcase⟩
              obtain ⟨g, c3, hv11, hc3, hc3b, hs12, hf12, hk12⟩ := ful_pop hs5 hf5 hBv
              have xv11 := cell_of_heap (o := 0) hv11
              have f11 := frozen_of_heap (o := 0) hv11
              simp only [List.getElem?_toArray, List.getElem?_cons_zero] at xv11
              have l11 := lt_of_cell xv11
              have HS12 := hidp hs12
              have HF12 := hidp hf12
              have HK12 := hidp hk12
              clear hv11 hs12 hf12 hk12 hs5 hf5 xt xt9 xv xv9 f9 c0 lb l1 l9 lt9 hixc
              rcases hcase with ⟨rfl, hj5⟩ | ⟨rfl, hjx5⟩
              · have HJ12 := hidp (HJ.out _ _ _ _ hj5 HK12.out)
                clear hj5
                gi_wp2_with fail
                refine ⟨⟨j + 1, C5, by omega, by go_num, HS12.out, HF12.out, ?_⟩, by simp [intOf]; omega⟩
                rw [take_snoc HX.out, List.flatMap_append]
                simpa using HJ12.out
              · have HJ12 := hidp (HJx.out _ _ _ hjx5 HK12.out)
                clear hjx5
                gi_wp2_with fail
                go_ret
                exact ⟨C5, HS12.out, HF12.out, .inr ⟨rfl, HJ12.out⟩⟩
            · obtain rfl : j = dn := by omega
              have HDn : Hid (D.take j = D) := List.take_of_length_le (by have := HDl.out; omega)
              have hkk : ¬ ((j : Int) < j) := by omega
              gi_wp2_with fail
              go_ret
              refine ⟨Cq, HSq.out, HFq.out, .inl ⟨rfl, ?_⟩⟩
              rw [HFS.out]
              have := HJq.out
              rw [HDn.out] at this
              exact this
end
end Go.Proofs.YtbegdcjofnfkiaaGreatDoor
