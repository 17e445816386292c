/- Several texts in one: J12 J13 J14 J15 J16. -/
import Derived.Test.YtbegdcjofnfkiaaGreatDoorQ12
import Derived.OwnWalkIn
import Derived.TacticsInMore
import Derived.LoopNIn
import Derived.LoopIn
import Derived.Test.YtbegdcjofnfkiaaGreatDoorQ7
import Derived.Test.YtbegdcjofnfkiaaGreatDoorQ3
import Derived.Test.YtbegdcjofnfkiaaGreatDoorSortOne
import Derived.Test.YtbegdcjofnfkiaaGreatDoorShelfJ
namespace Go.Proofs.YtbegdcjofnfkiaaGreatDoor
section
open Go.RowKit Go.Shelf Go.Sort
attribute [local go_sem] Oper.semAt_some
def TVals (n : Nat) (x : List Int) (V : Array Value) (C : Nat → Prop) (W : World) : Prop := ∃ v, V = #[v] ∧ W.ownsRow n 3 1 v x.length (x.flatMap iEnc) ∧ ∀ g, v.ownBlock = some g → ¬ C g
structure FulSt (St : Nat → Prop) (n₀ Bv : Nat) (vs : List Int) (C : Nat → Prop) (W : World) : Prop where
 box : ∃ v, W.heap[Bv]? = some (.cells #[v] 23 (0, 0)) ∧ W.ownsRow n₀ 3 1 v vs.length (vs.flatMap iEnc) ∧ ∀ g, v.ownBlock = some g → ¬ C g ∧ ¬ St g ∧ g ≠ Bv
 notC : ¬ C Bv
theorem FulSt.later {St : Nat → Prop} {n₀ Bv : Nat} {vs : List Int} {C : Nat → Prop} {W W' : World} (h : FulSt St n₀ Bv vs C W) (hb : Below W.heap.size W W') : FulSt St n₀ Bv vs C W' := by
 obtain ⟨v, h1, h2, h3⟩ := h.box
 exact ⟨⟨v, (hb.block _ (lt_of_heap h1)).trans h1, own_keepB h2 fun g hg => hb.block g (h2.lt g hg).2, h3⟩, h.notC⟩
theorem FulSt.round {St : Nat → Prop} {n₀ Bv : Nat} {vs : List Int} {C C2 : Nat → Prop} {W W' : World} (h : FulSt St n₀ Bv vs C W) (hk : Kept C W W') (hC : ∀ b, C2 b → b < W'.heap.size ∧ (C b ∨ W.heap.size ≤ b)) : FulSt St n₀ Bv vs C2 W' := by
 obtain ⟨v, h1, h2, h3⟩ := h.box
 have hn : ∀ b, b < W.heap.size → ¬ C b → ¬ C2 b := fun b hb hnc hc => by
  rcases (hC b hc).2 with h | h
  ·exact hnc h
  ·omega
 exact ⟨⟨v, (hk.block _ (lt_of_heap h1) h.notC).trans h1, own_keepB h2 fun g hg => hk.block g (h2.lt g hg).2 (h3 g hg).1, fun g hg => ⟨hn g (h2.lt g hg).2 (h3 g hg).1, (h3 g hg).2⟩⟩, hn _ (lt_of_heap h1) h.notC⟩
def TryPost (St : Nat → Prop) (ws : World) (n₀ Bv : Nat) (J : List (List Int) → (Nat → Prop) → World → Prop) (Jx : (Nat → Prop) → World → Prop) (ys : List (List Int)) (vs : List Int) (e : Ending) (W : World) : Prop :=
 ∃ C2, SeqSt St ws ws C2 W ∧ FulSt St n₀ Bv vs C2 W ∧ ((e = .returned (.bool true) ∧ J ys C2 W) ∨ (e = .returned (.bool false) ∧ Jx C2 W))
theorem ix_fnRow {A : Option Addr} {n c k b off : Nat} (hA : A = some ⟨b, off, none⟩) (hk : k < n) (W : World) : (Instr.indexAt 138 (.slice A n c) (.int .i64 k)).run Tryz.prog W = .ok (.pointer (some ⟨b, off + k * 1, none⟩)) W := by
 subst hA
 have hk' : (k : Int) < n := by omega
 simp [go_sem, hk']
theorem ix_Ints {A : Option Addr} {n c k b off : Nat} (hA : A = some ⟨b, off, none⟩) (hk : k < n) (W : World) : (Instr.indexAt 23 (.slice A n c) (.int .i64 k)).run Tryz.prog W = .ok (.pointer (some ⟨b, off + k * 1, none⟩)) W := by
 subst hA
 have hk' : (k : Int) < n := by omega
 simp [go_sem, hk']
theorem cnd_varin {q : Qu} (hv : VarsOk q) {i : Nat} {cd : Cnd} (h : cd ∈ cndsJ q i) : ∀ a, (∃ y, cd = .atom y ∧ (a = y.s ∨ a = y.o ∨ a = y.v)) ∨ (∃ y, cd = .test y ∧ (a = y.a ∨ a = y.b)) → VarIn a i := by
 intro a ha hvar
 rcases List.mem_append.1 h with h | h
 ·obtain ⟨y, hy, rfl⟩ := List.mem_map.1 h
  obtain ⟨hy1, hy2⟩ := List.mem_filter.1 hy
  have hlv : lvlA y = i := by simpa using hy2
  rcases ha with ⟨z, hz, hc⟩ | ⟨z, hz, _⟩
  ·injection hz with hz
   subst hz
   have hm : a ∈ [y.s, y.o, y.v] := by rcases hc with h | h | h <;> simp [h]
   have h1 := (lvlL_le [y.s, y.o, y.v] 0).2 a hm hvar
   have h2 := hv.2.1 a (args_atom hy1 hm) hvar
   have h3 : [y.s, y.o, y.v].foldl lvlStep 0 = i := hlv
   omega
  ·cases hz
 ·obtain ⟨y, hy, rfl⟩ := List.mem_map.1 h
  obtain ⟨hy1, hy2⟩ := List.mem_filter.1 hy
  have hlv : lvlT y = i := by simpa using hy2
  rcases ha with ⟨z, hz, _⟩ | ⟨z, hz, hc⟩
  ·cases hz
  ·injection hz with hz
   subst hz
   have hm : a ∈ [y.a, y.b] := by rcases hc with h | h <;> simp [h]
   have h1 := (lvlL_le [y.a, y.b] 0).2 a hm hvar
   have h2 := hv.2.1 a (args_test hy1 hm) hvar
   have h3 : [y.a, y.b].foldl lvlStep 0 = i := hlv
   omega
theorem fulF_not {l : List Fc} {D : List Int} {cs : Nat → List Cnd} {vs : List Int} (h : (cs vs.length).all (cndJ l vs) = false) : ∀ k, fulF l D cs k vs = []
 | 0 => by simp [fulF, h]
 | k + 1 => by simp [fulF, h]
theorem fulF_zero {l : List Fc} {D : List Int} {cs : Nat → List Cnd} {vs : List Int} (h : (cs vs.length).all (cndJ l vs) = true) : fulF l D cs 0 vs = [vs] := by simp [fulF, h]
theorem fulF_succ {l : List Fc} {D : List Int} {cs : Nat → List Cnd} {vs : List Int} (h : (cs vs.length).all (cndJ l vs) = true) (k : Nat) : fulF l D cs (k + 1) vs = D.flatMap fun n => fulF l D cs k (vs ++ [n]) := by simp [fulF, h]
theorem flatMap_split {α β : Type} {D : List α} {j : Nat} {x : α} (h : D[j]? = some x) (f : α → List β) : D.flatMap f = (D.take j).flatMap f ++ (f x ++ (D.drop (j + 1)).flatMap f) := by
 have h1 : D = D.take j ++ x :: D.drop (j + 1) := by rw [← drop_cons h, List.take_append_drop]
 have h2 : D.flatMap f = (D.take j ++ x :: D.drop (j + 1)).flatMap f := congrArg (fun l => l.flatMap f) h1
 rw [h2, List.flatMap_append, List.flatMap_cons]
theorem st_below {St : Nat → Prop} {ws W W' : World} {C : Nat → Prop} (h : SeqSt St ws ws C W) (hb : Below W.heap.size W W') : SeqSt St ws ws C W' := h.own (M := fun _ => False) (kept_of_below hb fun b h1 h2 => by omega) fun b h => h.elim
theorem kept_bel {M : Nat → Prop} {W W' : World} (hb : Below W.heap.size W W') : Kept M W W' := kept_of_below hb fun b h1 h2 => by omega
theorem st_own {St M : Nat → Prop} {ws W W' : World} {C : Nat → Prop} (h : SeqSt St ws ws C W) (hk : Kept M W W') (hM : ∀ b, M b → ¬ St b) : SeqSt St ws ws C W' :=
 ⟨fun b hb => ⟨(h.reads b hb).1, (hk.block b (Nat.lt_of_lt_of_le (h.reads b hb).1 h.size) (fun e => hM b e hb)).trans (h.reads b hb).2.1, (h.reads b hb).2.2⟩, fun b hb => Nat.lt_of_lt_of_le (h.lt b hb) hk.size, Nat.le_trans h.size hk.size⟩
theorem iEnc_len1 (x : Int) : (iEnc x).length = 1 := rfl
set_option maxRecDepth 100000 in
theorem ful_push {St : Nat → Prop} {ws W : World} {n₀ Bv : Nat} {vs : List Int} {C : Nat → Prop} (hs : SeqSt St ws ws C W) (h : FulSt St n₀ Bv vs C W) (hBv : n₀ ≤ Bv ∧ ¬ St Bv) (hlen : vs.length ≤ 1000) (x : Int) :
  ∃ A c A' c' w9, W.heap[Bv]? = some (.cells #[.slice A vs.length c] 23 (0, 0)) ∧ (Builtin.append_ #[23, 23] 23 #[.slice A vs.length c, .slice (some ⟨W.heap.size, 0, none⟩) 1 1]).run Tryz.prog (W.alloc (.cells #[.int .i64 x] 3)) = .ok (.slice A' (vs.length + 1) c') w9 ∧
   w9.heap[Bv]? = some (.cells #[.slice A vs.length c] 23 (0, 0)) ∧ SeqSt St ws ws C (w9.setCell ⟨Bv, 0, none⟩ (.slice A' (vs.length + 1) c')) ∧ FulSt St n₀ Bv (vs ++ [x]) C (w9.setCell ⟨Bv, 0, none⟩ (.slice A' (vs.length + 1) c')) ∧ Kept (fun b => n₀ ≤ b ∧ ¬ C b) W (w9.setCell ⟨Bv, 0, none⟩ (.slice A' (vs.length + 1) c')) := by
 obtain ⟨i0, hi, hz, hss, hbb⟩ := info_parts iInfo
 obtain ⟨v, h1, h2, h3⟩ := h.box
 obtain ⟨A, c, rfl, hrow⟩ := own_rows iEnc_len1 (by decide) h2
 obtain ⟨W8, hW8⟩ : ∃ W8, W.alloc (.cells #[.int .i64 x] 3) = W8 := ⟨_, rfl⟩
 have hg8 : W8.heap[W.heap.size]? = some (.cells #[.int .i64 x] 3 (0, 0)) := by rw [← hW8]; exact World.alloc_heap_new _ _
 have hb8 : Below W.heap.size W W8 := hW8 ▸ (Below.refl _ _).alloc (Nat.le_refl _) _
 have hB := lt_of_heap h1
 have hx8 : Rows 1 (Rep.flat iEnc) W8 W8.heap.size (some ⟨W.heap.size, 0, none⟩) 1 1 [x] := rows_of_heap (l := [x]) (c := 1) iEnc_len1 hg8 (by simp) (by omega) rfl
 have hown8 := own_keepB h2 fun g hg => hb8.block g (h2.lt g hg).2
 obtain ⟨v', w9, hrun, hown', hg, hat⟩ := run_append_rows (P := Tryz.prog) (ty := 23) (enc := iEnc) Tryz.underlying23 hi hz hss hbb rfl iEnc_len1 (by decide) iEnc_one hown8 hx8 (by omega) (by omega) (by have := hb8.size; omega)
 obtain ⟨A', c', rfl, _⟩ := own_rows iEnc_len1 (by decide) hown'
 have h9 : w9.heap[Bv]? = some (.cells #[.slice A vs.length c] 23 (0, 0)) := (hg.block Bv (by have := hb8.size; omega) (fun e => (h3 Bv e.symm).2.2 rfl)).trans ((hb8.block Bv hB).trans h1)
 have hnew : ∀ g, (Value.slice A' (vs.length + 1) c').ownBlock = some g → ¬ C g ∧ ¬ St g ∧ g ≠ Bv := fun g hg' => by
  rcases hat with e | e
  ·rw [e] at hg'; exact h3 g hg'
  ·rw [e] at hg'
   injection hg' with hg'
   subst hg'
   refine ⟨fun hc => ?_, fun hc => ?_, fun hc => ?_⟩
   ·have := hs.lt _ hc; have := hb8.size; omega
   ·have := (hs.reads _ hc).1; have := hs.size; have := hb8.size; omega
   ·have := hb8.size; omega
 have hk : Kept (fun b => b = Bv ∨ (Value.slice A vs.length c).ownBlock = some b) W (w9.setCell ⟨Bv, 0, none⟩ (.slice A' (vs.length + 1) c')) :=
  (((kept_bel hb8).grown hg (fun r hr => .inl (.inr hr)))).setCell (.inl (.inl rfl)) _
 refine ⟨A, c, A', c', w9, h1, by rw [hW8]; exact hrun, h9, st_own hs hk (fun b hb => ?_), ⟨⟨_, heap_set1 h9 _, ?_, hnew⟩, h.notC⟩, hk.mono fun b _ hb => ?_⟩
 ·rcases hb with rfl | hb
  ·exact hBv.2
  ·exact (h3 b hb).2.1
 ·have := own_keepB hown' fun g hg' => heap_set_ne (o := 0) (u := .slice A' (vs.length + 1) c') rfl (hnew g hg').2.2
  simpa using this
 ·rcases hb with rfl | hb
  ·exact ⟨hBv.1, h.notC⟩
  ·exact ⟨(h2.lt b hb).1, (h3 b hb).1⟩
theorem ful_pop {St : Nat → Prop} {ws W : World} {n₀ Bv : Nat} {vs : List Int} {x : Int} {C : Nat → Prop} (hs : SeqSt St ws ws C W) (h : FulSt St n₀ Bv (vs ++ [x]) C W) (hBv : n₀ ≤ Bv ∧ ¬ St Bv) :
  ∃ g c, W.heap[Bv]? = some (.cells #[.slice (some ⟨g, 0, none⟩) (vs.length + 1) c] 23 (0, 0)) ∧ vs.length + 1 ≤ c ∧ c ≤ 9223372036854775807 ∧ SeqSt St ws ws C (W.setCell ⟨Bv, 0, none⟩ (.slice (some ⟨g, 0, none⟩) vs.length c)) ∧ FulSt St n₀ Bv vs C (W.setCell ⟨Bv, 0, none⟩ (.slice (some ⟨g, 0, none⟩) vs.length c)) ∧ Kept (fun b => n₀ ≤ b ∧ ¬ C b) W (W.setCell ⟨Bv, 0, none⟩ (.slice (some ⟨g, 0, none⟩) vs.length c)) := by
 obtain ⟨v, h1, h2, h3⟩ := h.box
 rw [List.length_append, List.length_singleton, List.flatMap_append] at h2
 obtain ⟨g, c, rfl⟩ := ownsRow_succ h2
 have hrow : vs.length + 1 ≤ c ∧ c ≤ 9223372036854775807 := by
  rcases h2.2 with ⟨e, _⟩ | ⟨g', cap, cur, hv, _, _, hn, hm, _⟩
  ·cases e
  ·injection hv with _ _ hv
   subst hv
   exact ⟨hn, hm⟩
 have h4 := ownsRow_pop (by rw [flat_len iEnc_len1]) h2
 have hk : Kept (fun b => b = Bv) W (W.setCell ⟨Bv, 0, none⟩ (.slice (some ⟨g, 0, none⟩) vs.length c)) := Kept.setCell (M := fun b => b = Bv) (Kept.refl _ W) (p := ⟨Bv, 0, none⟩) (.inl rfl) _
 refine ⟨g, c, h1, hrow.1, hrow.2, st_own hs hk (fun b hb => by rw [hb]; exact hBv.2), ⟨⟨_, heap_set1 h1 _, own_keepB h4 fun g' hg' => heap_set_ne rfl (h3 g' hg').2.2 _ _, h3⟩, h.notC⟩, hk.mono fun b _ hb => ?_⟩
 rw [hb]
 exact ⟨hBv.1, h.notC⟩
section
variable (q : Qu) (FA : Option Addr) (fn fc : Nat) (l : List Fc) (G capG base Bl Bv Bq By Bd Bt li n₀ : Nat) (DA : Option Addr) (dn dc : Nat) (D : List Int) (ws : World) (St : Nat → Prop) (slv : Nat → Value) (xsc : Nat → List Clo)
 (J : List (List Int) → (Nat → Prop) → World → Prop) (Jx : (Nat → Prop) → World → Prop) (xs : List (List Int))
def capsT : Array Value := #[.pointer (some ⟨Bl, 0, none⟩), .pointer (some ⟨Bv, 0, none⟩), .pointer (some ⟨Bq, 0, none⟩), .pointer (some ⟨By, 0, none⟩), .pointer (some ⟨Bd, 0, none⟩), .pointer (some ⟨Bt, 0, none⟩)]
set_option maxRecDepth 100000 in
set_option maxHeartbeats 4000000 in
theorem try_any (hvo : VarsOk q) (hlen : q.nn = q.names.length ∧ q.nn ≤ 8)
    (sBl : St Bl) (gBl : ws.heap[Bl]? = some (.cells #[.slice (some ⟨G, 0, none⟩) (q.nn + 1) capG] 136 (0, 0)))
    (sBq : St Bq) (gBq : QBox q Bq ws)
    (sBy : St By) (gBy : ws.heap[By]? = some (.cells #[.func (.yield li) #[] #[]] 135 (0, 0)))
    (sBd : St Bd) (gBd : ws.heap[Bd]? = some (.cells #[.slice DA dn dc] 23 (0, 0)))
    (sBt : St Bt) (gBt : ws.heap[Bt]? = some (.cells #[.func (.func 78) #[] (capsT Bl Bv Bq By Bd Bt)] 29 (0, 0)))
    (hLv : ∀ wr, (∀ b, St b → wr.heap[b]? = ws.heap[b]?) → ws.heap.size ≤ wr.heap.size → LvSt FA fn fc q.nn base G capG slv (cndsJ q) xsc wr)
    (hFa : ∀ wr, (∀ b, St b → wr.heap[b]? = ws.heap[b]?) → ws.heap.size ≤ wr.heap.size → fSl wr wr.heap.size FA fn fc l)
    (hDm : ∀ wr, (∀ b, St b → wr.heap[b]? = ws.heap[b]?) → ws.heap.size ≤ wr.heap.size → iSl wr wr.heap.size DA dn dc D)
    (hBv : n₀ ≤ Bv ∧ ¬ St Bv)
    (hJ : ∀ pre C1 W1 W2, J pre C1 W1 → Kept (fun b => n₀ ≤ b ∧ ¬ C1 b) W1 W2 → J pre C1 W2)
    (hJx : ∀ C1 W1 W2, Jx C1 W1 → Kept (fun b => n₀ ≤ b ∧ ¬ C1 b) W1 W2 → Jx C1 W2)
    (hY : ∀ m pre x suf C1 W1 V, xs = pre ++ x :: suf → V.size = 1 → TVals n₀ x V C1 W1 → J pre C1 W1 → YieldAt Fence.wide m Tryz.prog li V W1 fun e W2 =>
      ∃ C2, Kept C1 W1 W2 ∧ (∀ b, C2 b → b < W2.heap.size ∧ (C1 b ∨ W1.heap.size ≤ b)) ∧ ((e = .returned (.bool true) ∧ J (pre ++ [x]) C2 W2) ∨ (e = .returned (.bool false) ∧ Jx C2 W2))) :
    ∀ (k : Nat) (vs : List Int) (pre suf : List (List Int)) (C1 : Nat → Prop) (wa : World), vs.length + k = q.nn → xs = pre ++ fulF l D (cndsJ q) k vs ++ suf → J pre C1 wa → SeqSt St ws ws C1 wa → FulSt St n₀ Bv vs C1 wa →
      Calls Tryz.prog 78 (capsT Bl Bv Bq By Bd Bt) wa (TryPost St ws n₀ Bv J Jx (pre ++ fulF l D (cndsJ q) k vs) vs) := by
  intro k
  induction k using Nat.strongRecOn with
  | _ k ih =>
    intro vs pre suf C1 wa hk hxs hj hst hful
    have HJ := hidp hJ
    have HJx := hidp hJx
    have HY := hidp hY
    have HI := hidp ih
    have HXs := hidp hxs
    have HJ0 := hidp hj
    have HSt := hidp hst
    have HFul := hidp hful
    have HLv := hidp hLv
    have HFa := hidp hFa
    have HDm := hidp hDm
    have HVo := hidp hvo
    have HK := hidp hk
    have HLen := hidp hlen
    obtain ⟨v0, hv0, hown0, hblk0⟩ := hful.box
    obtain ⟨A0, cc0, rfl, hrow0⟩ := own_rows iEnc_len (by decide) hown0
    have hlv := hLv wa (fun b hb => (hst.reads b hb).2.1) hst.size
    have hn8 := hlen.2
    have hvl : vs.length ≤ q.nn := by omega
    obtain ⟨csr, hr1, hr2⟩ := hlv.row
    obtain ⟨As, cs', hsl⟩ := hlv.slices vs.length hvl
    have hrowc := (own_rows cloEnc_len (by decide) (hlv.own vs.length hvl))
    obtain ⟨As2, cs2, hsl2, hrowc⟩ := hrowc
    obtain ⟨rfl, rfl⟩ : As = As2 ∧ cs' = cs2 := by rw [hsl] at hsl2; injection hsl2 with e1 e2 e3; exact ⟨e1, e3⟩
    have xl := (hst.cell (o := 0) sBl).trans (cell_of_heap gBl)
    have xy := (hst.cell (o := 0) sBy).trans (cell_of_heap gBy)
    have xd := (hst.cell (o := 0) sBd).trans (cell_of_heap gBd)
    have xt := (hst.cell (o := 0) sBt).trans (cell_of_heap gBt)
    have xv := cell_of_heap (o := 0) hv0
    have xg : wa.cell? ⟨G, vs.length, none⟩ = some (.slice As (xsc vs.length).length cs') := by rw [cell_of_heap hr1, hr2 _ hvl, hsl]
    have xn := (hst.cell (o := 0) sBq).trans gBq.cells.1
    simp only [List.getElem?_toArray, List.getElem?_cons_zero, capsT] at xl xy xd xt xv
    have gBy' := cell_of_heap (o := 0) gBy
    have gBd' := cell_of_heap (o := 0) gBd
    have gBt' := cell_of_heap (o := 0) gBt
    simp only [List.getElem?_toArray, List.getElem?_cons_zero, capsT] at gBy' gBd' gBt'
    have ll := lt_of_cell xl
    have lg := lt_of_cell xg
    have lv := lt_of_cell xv
    have lq := lt_of_cell xn
    have hix := ix_fnRows (G := G) (n := q.nn + 1) (c := capG) (k := vs.length) (by omega)
    have hcl := hrowc.2.1
    have hcc := hrowc.2.2.1
    have HRc := hidp hrowc
    have HOwn0 := hidp hown0
    have HBlk0 := hidp hblk0
    have HR0 := hidp hrow0
    clear hJ hJx hY ih hxs hj hst hful hLv hFa hDm hvo hk hlen hown0 hblk0 hrow0 hlv hr1 hr2 hsl hsl2 hrowc hv0 gBl gBy gBd gBt gBq
    refine (callsIn_wide (n := 0)).1 (callsIn_of_wp Tryz.func78 rfl trivial ?_ rfl)
    simp only [capsT, Tryz.ntmps78, List.size_toArray, List.length_cons, List.length_nil, Nat.reduceAdd, Nat.reduceSub, Array.replicate_succ, Array.replicate_zero, List.push_toArray, List.append_toArray, List.nil_append, List.cons_append]
    gi_wp2_with fail
    have HB00 : Hid (Below wa.heap.size wa wa) := Below.refl _ _
    gi_loopw [18] (fun i wr => ∃ j : Nat, j ≤ (xsc vs.length).length ∧ i = .int .i64 j ∧ Below wa.heap.size wa wr ∧ ∀ (z : Nat) cd, z < j → (cndsJ q vs.length)[z]? = some cd → cndJ l vs cd = true) (fun i _ => (xsc vs.length).length - (intOf i).toNat)
    case atStart => exact ⟨0, by omega, rfl, Below.refl _ _, fun z cd h => by omega⟩
    case round =>
      obtain ⟨j, hj, rfl, hbe, hok⟩ := hrel
      have HBe := hidp hbe
      have HOK := hidp hok
      have hstw := st_below HSt.out hbe
      have HStw := hidp hstw
      have hlvw := HLv.out wr (fun b hb => (hstw.reads b hb).2.1) hstw.size
      have HFw := hidp (HFul.out.later hbe)
      have HJw := hidp (HJ.out _ _ _ _ HJ0.out (kept_bel hbe))
      have xv := (bcell hbe).1 _ 0 lv |>.trans xv
      have lv := Nat.lt_of_lt_of_le lv hbe.size
      have HClo := hidp (hlvw.clo vs.length (by have := HK.out; omega))
      by_cases hjn : j < (xsc vs.length).length
      · have hjn' : (j : Int) < (xsc vs.length).length := by omega
        obtain ⟨b, off, x, cs, hA, hb, hs, hr, hc⟩ := Rows.get (HRc.out.keep (Rep.flat_stable _) hbe.size hbe.block) hjn
        obtain rfl := hr
        have c0 := hc 0 _ rfl
        rw [Nat.add_zero, Nat.mul_one] at c0
        have lb := lt_of_cell c0
        obtain ⟨cd, hcd⟩ : ∃ cd, (cndsJ q vs.length)[j]? = some cd := ⟨_, List.getElem?_eq_getElem (by have := HClo.out.1; omega)⟩
        have hclo := clo_any wr (HClo.out.2 j x cd hs hcd) (HFa.out wr (fun b hb => (hstw.reads b hb).2.1) hstw.size) (HR0.out.keep (Rep.flat_stable _) hbe.size hbe.block) (cnd_varin HVo.out (List.mem_of_getElem? hcd))
        have hixc := ix_fnRow (c := cs') hA hjn
        have HCd := hidp hcd
        have HCl1 := hidp hclo.1
        have HCl2 := hidp hclo.2
        clear hs hA hc hcd hclo hbe hok hstw hlvw hb
        obtain ⟨p1, hp1⟩ : ∃ p, cndJ l vs cd = p := ⟨_, rfl⟩
        rw [hp1] at HCl1 HCl2
        have HP1 := hidp hp1
        clear hp1
        cases x
        · simp only [cloV] at c0
          gi_wp2_with fail
          refine ⟨trivial, rfl, callsIn_wide.2 ((HCl1.out _ _ rfl).mono ?_)⟩
          rintro e w7 ⟨rfl, hb7⟩
          have hb17 := HBe.out.trans (hb7.mono HBe.out.size)
          have HB17 := hidp hb17
          clear hb7 hb17 c0 lb hixc
          cases p1
          · have HF : Hid (fulF l D (cndsJ q) k vs = []) := fulF_not (by
              rw [Bool.eq_false_iff]
              intro h
              have := List.all_eq_true.1 h cd (List.mem_of_getElem? HCd.out)
              rw [HP1.out] at this; cases this) k
            gi_wp2_with fail
            go_ret
            exact ⟨C1, st_below HSt.out HB17.out, HFul.out.later HB17.out, .inl ⟨rfl, by rw [HF.out, List.append_nil]; exact HJ.out _ _ _ _ HJ0.out (kept_bel HB17.out)⟩⟩
          · gi_wp2_with fail
            refine ⟨⟨j + 1, by omega, by go_num, HB17.out, fun z cd' hz hcd' => ?_⟩, by simp [intOf]; omega⟩
            rcases Nat.lt_or_ge z j with h | h
            · exact HOK.out z cd' h hcd'
            · obtain rfl : z = j := by omega
              rw [HCd.out] at hcd'
              obtain rfl := Option.some.inj hcd'
              exact HP1.out
        · simp only [cloV] at c0
          gi_wp2_with fail
          refine ⟨trivial, rfl, callsIn_wide.2 ((HCl2.out _ rfl).mono ?_)⟩
          rintro e w7 ⟨rfl, hb7⟩
          have hb17 := HBe.out.trans (hb7.mono HBe.out.size)
          have HB17 := hidp hb17
          clear hb7 hb17 c0 lb hixc
          cases p1
          · have HF : Hid (fulF l D (cndsJ q) k vs = []) := fulF_not (by
              rw [Bool.eq_false_iff]
              intro h
              have := List.all_eq_true.1 h cd (List.mem_of_getElem? HCd.out)
              rw [HP1.out] at this; cases this) k
            gi_wp2_with fail
            go_ret
            exact ⟨C1, st_below HSt.out HB17.out, HFul.out.later HB17.out, .inl ⟨rfl, by rw [HF.out, List.append_nil]; exact HJ.out _ _ _ _ HJ0.out (kept_bel HB17.out)⟩⟩
          · gi_wp2_with fail
            refine ⟨⟨j + 1, by omega, by go_num, HB17.out, fun z cd' hz hcd' => ?_⟩, by simp [intOf]; omega⟩
            rcases Nat.lt_or_ge z j with h | h
            · exact HOK.out z cd' h hcd'
            · obtain rfl : z = j := by omega
              rw [HCd.out] at hcd'
              obtain rfl := Option.some.inj hcd'
              exact HP1.out
      · obtain rfl : j = (xsc vs.length).length := by omega
        have hkk : ¬ (((xsc vs.length).length : Int) < (xsc vs.length).length) := by omega
        have HAll : Hid ((cndsJ q vs.length).all (cndJ l vs) = true) := List.all_eq_true.2 fun cd hcd => by
          obtain ⟨z, hz⟩ := List.mem_iff_getElem?.1 hcd
          exact HOK.out z cd (by have := (List.getElem?_eq_some_iff.1 hz).1; have := HClo.out.1; omega) hz
        have xn := (bcell hbe).1 _ 0 lq |>.trans xn
        have xy := (hstw.cell (o := 0) sBy).trans gBy'
        have xd := (hstw.cell (o := 0) sBd).trans gBd'
        clear HOK hbe hok hlvw
        rcases k with _ | k
        · have HVn : Hid (vs.length = q.nn) := by show _ = _; have := HK.out; omega
          have heq : (((vs.length : Nat) : Int) == (q.nn : Int)) = true := by have := HVn.out; simp; omega
          obtain ⟨fn', tmps', assign, body, hy, hR⟩ := HY.out 0 pre vs suf C1 wr #[.slice A0 vs.length cc0] (by rw [HXs.out, fulF_zero HAll.out]; simp) rfl ⟨_, rfl, own_keepB HOwn0.out fun g hg => HBe.out.block g (HOwn0.out.lt g hg).2, fun g hg => (HBlk0.out g hg).1⟩ HJw.out
          have HR := hidp hR
          clear hR
          gi_wp2_with fail
          refine ⟨rfl, HR.out.mono ?_⟩
          rintro e W3 ⟨C3, hk3, hC3, (⟨rfl, hJ3⟩ | ⟨rfl, hJx3⟩)⟩
          · have HP : Hid (TryPost St ws n₀ Bv J Jx (pre ++ fulF l D (cndsJ q) 0 vs) vs (.returned (.bool true)) W3) := ⟨C3, HStw.out.round hk3 hC3, HFw.out.round hk3 hC3, .inl ⟨rfl, by rw [fulF_zero HAll.out]; exact hJ3⟩⟩
            clear hk3 hC3 hJ3 hy
            gi_wp2_with fail
            go_ret
            exact HP.out
          · have HP : Hid (TryPost St ws n₀ Bv J Jx (pre ++ fulF l D (cndsJ q) 0 vs) vs (.returned (.bool false)) W3) := ⟨C3, HStw.out.round hk3 hC3, HFw.out.round hk3 hC3, .inr ⟨rfl, hJx3⟩⟩
            clear hk3 hC3 hJx3 hy
            gi_wp2_with fail
            go_ret
            exact HP.out
        · have heq : (((vs.length : Nat) : Int) == (q.nn : Int)) = false := by have := HK.out; simp; omega
          have HFS : Hid (fulF l D (cndsJ q) (k + 1) vs = D.flatMap fun n => fulF l D (cndsJ q) k (vs ++ [n])) := fulF_succ HAll.out k
          have HDl := hidp (HDm.out wr (fun b hb => (hstw.reads b hb).2.1) hstw.size).1
          have hdc := (HDm.out wr (fun b hb => (hstw.reads b hb).2.1) hstw.size).2.1
          have hdc2 := (HDm.out wr (fun b hb => (hstw.reads b hb).2.1) hstw.size).2.2.1
          have ldd := lt_of_cell xd
          clear hstw
          gi_wp2_with fail
          gi_loopw [38] (fun i wq => ∃ (j : Nat) (Cq : Nat → Prop), j ≤ dn ∧ i = .int .i64 j ∧ SeqSt St ws ws Cq wq ∧ FulSt St n₀ Bv vs Cq wq ∧ J (pre ++ (D.take j).flatMap fun n => fulF l D (cndsJ q) k (vs ++ [n])) Cq wq) (fun i _ => dn - (intOf i).toNat)
          case atStart => exact ⟨0, C1, by omega, rfl, HStw.out, HFw.out, by simpa using HJw.out⟩
          case round =>
            rename World => wq
            obtain ⟨j, Cq, hj, rfl, hsq, hfq, hjq⟩ := hrel
            have HSq := hidp hsq
            have HFq := hidp hfq
            have HJq := hidp hjq
            clear xv xn xy xd hsq hfq hjq
            by_cases hjn : j < dn
            · have hjn' : (j : Int) < dn := by omega
              obtain ⟨b, off, x, cs, hA, hb, hs, hr, hc⟩ := Rows.get (HDm.out wq (fun b hb => (HSq.out.reads b hb).2.1) HSq.out.size) hjn
              obtain rfl := hr
              have c0 := hc 0 _ rfl
              rw [Nat.add_zero, Nat.mul_one] at c0
              have lb := lt_of_cell c0
              have hixc := ix_Ints (c := dc) hA hjn
              have HX := hidp hs
              obtain ⟨A1, c1, A2, c2, w9, hv1, hrun, hv9, hs10, hf10, hk10⟩ := ful_push HSq.out HFq.out hBv (by have := HK.out; omega) x
              have xv := cell_of_heap (o := 0) hv1
              have xv9 := cell_of_heap (o := 0) hv9
              have f9 := frozen_of_heap (o := 0) hv9
              simp only [List.getElem?_toArray, List.getElem?_cons_zero] at xv xv9
              have l1 := lt_of_cell xv
              have l9 := lt_of_cell xv9
              have hj10 := HJ.out _ _ _ _ HJq.out hk10
              obtain ⟨W10, hW10⟩ : ∃ W10, w9.setCell ⟨Bv, 0, none⟩ (.slice A2 (vs.length + 1) c2) = W10 := ⟨_, rfl⟩
              rw [hW10] at hs10 hf10 hj10
              have HC := hidp (HI.out k (Nat.lt_succ_self _) (vs ++ [x]) _ ((D.drop (j + 1)).flatMap (fun n => fulF l D (cndsJ q) k (vs ++ [n])) ++ suf) Cq W10 (by have := HK.out; simp; omega) (by
                rw [HXs.out, HFS.out]
                rw [flatMap_split HX.out]
                simp) hj10 hs10 hf10)
              have xt := (hs10.cell (o := 0) sBt).trans gBt'
              have hne : Bt ≠ Bv := fun e => hBv.2 (e ▸ sBt)
              rw [← hW10] at xt
              have xt9 : w9.cell? ⟨Bt, 0, none⟩ = w9.cell? ⟨Bt, 0, none⟩ := rfl
              conv at xt9 => rhs; rw [← World.cell?_of_block (w := w9) (a := ⟨Bt, 0, none⟩) (Below.heap_setCell w9 ⟨Bv, 0, none⟩ (.slice A2 (vs.length + 1) c2) Bt hne)]
              rw [xt] at xt9
              have lt9 := lt_of_cell xt9
              have HRun := hidp hrun
              have HW10 := hidp hW10
              clear hs hA hc hv1 hrun hv9 hs10 hf10 hk10 hj10 hW10 hb
              gi_wp2_with (gi_at_builtin; refine wpListIn_append_known rfl (.tmp 42) (.tmp 44) 23 rfl rfl rfl HRun.out ?_)
              rw [HW10.out]
              refine ⟨trivial, rfl, callsIn_wide.2 (HC.out.mono ?_)⟩
              rintro e W11 ⟨C5, hs5, hf5, hcase⟩
              obtain ⟨g, c3, hv11, hc3, hc3b, hs12, hf12, hk12⟩ := ful_pop hs5 hf5 hBv
              have xv11 := cell_of_heap (o := 0) hv11
              have f11 := frozen_of_heap (o := 0) hv11
              simp only [List.getElem?_toArray, List.getElem?_cons_zero] at xv11
              have l11 := lt_of_cell xv11
              have HS12 := hidp hs12
              have HF12 := hidp hf12
              have HK12 := hidp hk12
              clear hv11 hs12 hf12 hk12 hs5 hf5 xt xt9 xv xv9 f9 c0 lb l1 l9 lt9 hixc
              rcases hcase with ⟨rfl, hj5⟩ | ⟨rfl, hjx5⟩
              · have HJ12 := hidp (HJ.out _ _ _ _ hj5 HK12.out)
                clear hj5
                gi_wp2_with fail
                refine ⟨⟨j + 1, C5, by omega, by go_num, HS12.out, HF12.out, ?_⟩, by simp [intOf]; omega⟩
                rw [take_snoc HX.out, List.flatMap_append]
                simpa using HJ12.out
              · have HJ12 := hidp (HJx.out _ _ _ hjx5 HK12.out)
                clear hjx5
                gi_wp2_with fail
                go_ret
                exact ⟨C5, HS12.out, HF12.out, .inr ⟨rfl, HJ12.out⟩⟩
            · obtain rfl : j = dn := by omega
              have HDn : Hid (D.take j = D) := List.take_of_length_le (by have := HDl.out; omega)
              have hkk : ¬ ((j : Int) < j) := by omega
              gi_wp2_with fail
              go_ret
              refine ⟨Cq, HSq.out, HFq.out, .inl ⟨rfl, ?_⟩⟩
              rw [HFS.out]
              have := HJq.out
              rw [HDn.out] at this
              exact this
end
end
section
open Go.RowKit Go.Shelf Go.Sort
theorem run_store_fn {P : Program} {w : World} {a : Addr} {f : Fn} {fr cs : Array Value} {m : Mode} : (store a (.func f fr cs) m).run P w = stored P w a (.func f fr cs) m := run_store P w a _ m rfl
attribute [local go_sem] run_store_fn
theorem tvals_mono (n : Nat) (x : List Int) (V : Array Value) (C C' : Nat → Prop) (W : World) (h : TVals n x V C W) (hc : ∀ b, C' b → C b) : TVals n x V C' W := by
 obtain ⟨v, h1, h2, h3⟩ := h
 exact ⟨v, h1, h2, fun g hg hb => h3 g hg (hc g hb)⟩
theorem LvSt.keepT {FA : Option Addr} {fn fc N base G cap lo : Nat} {sl : Nat → Value} {dn : Nat → List Cnd} {xs : Nat → List Clo} {W W' : World} (h : LvSt FA fn fc N base G cap sl dn xs W) (hx : ∀ i, ∀ x ∈ xs i, Clo.low lo x) (hlo : lo ≤ base) (hb : ∀ (b : Nat) (cs : Array Value) (t : TypeId), lo ≤ b → W.heap[b]? = some (.cells cs t (0, 0)) → t ≠ 23 → t ≠ 136 → W'.heap[b]? = W.heap[b]?) : LvSt FA fn fc N base G cap sl dn xs W' := by
 obtain ⟨cs, h1, h2⟩ := h.row
 refine ⟨h.big, h.low, ⟨cs, (hb _ _ _ (Nat.le_trans hlo h.low) h1 (by decide) (by decide)).trans h1, h2⟩, fun i hi => own_keepB (h.own i hi) fun g hg => ?_, fun i hi => ⟨(h.clo i hi).1, fun j x c hxj hc => ?_⟩, h.apart, h.slices⟩
 ·have hlt := (h.own i hi).lt g hg
  rcases (h.own i hi).2 with ⟨e, _⟩ | ⟨g', cap', cs', hv, hg', hh, _⟩
  ·rw [e] at hg; cases hg
  ·rw [hv] at hg
   injection hg with hg
   subst hg
   exact hb _ _ _ (Nat.le_trans hlo hlt.1) hh (by decide) (by decide)
 ·have h3 := (h.clo i hi).2 j x c hxj hc
  have h4 := hx i x (List.mem_of_getElem? hxj)
  cases c <;> cases x <;> simp only [CloFor, Clo.low] at h3 h4 ⊢
  ·exact ⟨(hb _ _ _ h4.1 h3.1 (by decide) (by decide)).trans h3.1, (hb _ _ _ h4.2 h3.2 (by decide) (by decide)).trans h3.2⟩
  ·exact (hb _ _ _ h4 h3 (by decide) (by decide)).trans h3
theorem Clo.low_mono {lo lo' : Nat} {x : Clo} (h : lo' ≤ lo) (hx : Clo.low lo x) : Clo.low lo' x := by
 cases x <;> simp only [Clo.low] at hx ⊢ <;> omega
set_option maxRecDepth 100000 in
set_option maxHeartbeats 4000000 in
theorem ful_seq (q : Qu) (FA : Option Addr) (fn fc : Nat) (l : List Fc) (n₀ Bf Bq : Nat) (w : World) (hq : QuIn q w n₀) (hl : fSl w n₀ FA fn fc l) (hfn : fn ≤ 100000) (hvo : VarsOk q) (hsz : q.names.length ≤ 8 ∧ q.atoms.length ≤ 16 ∧ q.tests.length ≤ 16)
  (hbf : FBox FA fn fc Bf w) (hbq : QBox q Bq w) :
  SeqT Tryz.prog 76 #[.pointer (some ⟨Bf, 0, none⟩), .pointer (some ⟨Bq, 0, none⟩)] TVals 1 (fun ys => ys = fulJ q l) (fun b => b < n₀ ∨ b = Bf ∨ b = Bq) w := by
 intro li J Jx C W hS hC hJ hJx hY h0
 have hkp : ∀ b, b < n₀ → W.heap[b]? = w.heap[b]? := fun b hb => (hS b (.inl hb)).2.1
 have hn0 : n₀ ≤ W.heap.size := by
  rcases Nat.lt_or_ge W.heap.size n₀ with h | h
  ·have := (hS W.heap.size (.inl h)).1; omega
  ·exact h
 have gbf : FBox FA fn fc Bf W := ⟨(hS Bf (.inr (.inl rfl))).2.1.trans hbf.box⟩
 have gbq : QBox q Bq W := ⟨(hS Bq (.inr (.inr rfl))).2.1.trans hbq.box⟩
 have HQ : Hid (∀ W', Below W.heap.size W W' → QuIn q W' W'.heap.size) := fun W' hb => hq.keep (Nat.le_trans hn0 hb.size) fun b h => (hb.block b (by omega)).trans (hkp b h)
 have HF : Hid (∀ W', Below W.heap.size W W' → fSl W' W'.heap.size FA fn fc l) := fun W' hb => hl.keep (Rep.flat_stable _) (Nat.le_trans hn0 hb.size) fun b h => (hb.block b (by omega)).trans (hkp b h)
 have HS := hidp hS
 have HC := hidp hC
 have HJ := hidp hJ
 have HJx := hidp hJx
 have HY := hidp hY
 have H0 := hidp h0
 have HVo := hidp hvo
 have HSz := hidp hsz
 have HGf := hidp gbf
 have HGq := hidp gbq
 have HLen : Hid (q.nn = q.names.length) := hq.1.1
 have HQ0 := hidp hq
 have HL0 := hidp hl
 have HKp := hidp hkp
 have x0 := gbq.cells.1
 have x1 := gbq.cells.2.1
 have x2 := gbq.cells.2.2.1
 have x3 := gbq.cells.2.2.2.1
 have lq := gbq.cells.2.2.2.2
 have xf := cell_of_heap (o := 0) gbf.box
 simp only [List.getElem?_toArray, List.getElem?_cons_zero] at xf
 have lf := lt_of_cell xf
 obtain ⟨W0, hW0⟩ : ∃ W0, W.alloc (.cells #[.func (.yield li) #[] #[]] 135) = W0 := ⟨_, rfl⟩
 have hb0 : Below W.heap.size W W0 := hW0 ▸ (Below.refl _ _).alloc (Nat.le_refl _) _
 have hy0 : W0.heap[W.heap.size]? = some (.cells #[.func (.yield li) #[] #[]] 135 (0, 0)) := by rw [← hW0]; exact World.alloc_heap_new _ _
 have HW0 := hidp hW0
 have HB0 := hidp hb0
 have HY0 := hidp hy0
 clear hS hC hJ hJx hY h0 hq hl hvo hsz hbf hbq hkp gbf gbq hW0 hb0 hy0
 show Calls Tryz.prog 76 #[.func (.yield li) #[] #[], .pointer (some ⟨Bf, 0, none⟩), .pointer (some ⟨Bq, 0, none⟩)] W _
 go_enter Tryz.func76, Tryz.ntmps76
 go_wp2_with fail
 rw [HW0.out]
 have xf0 := (bcell HB0.out).1 _ 0 lf |>.trans xf
 have y0 := (bcell HB0.out).1 _ 0 lq |>.trans x0
 have y1 := (bcell HB0.out).1 _ 1 lq |>.trans x1
 have y2 := (bcell HB0.out).1 _ 2 lq |>.trans x2
 have y3 := (bcell HB0.out).1 _ 3 lq |>.trans x3
 have lf0 := lt_of_cell xf0
 have lq0 := lt_of_cell y0
 refine wp_region_S W0.heap.size 7 (fun _ => false) (Nat.le_refl _) (by kernel_rfl) (by kernel_rfl) (by kernel_rfl) ?_
 dsimp only [List.take, List.drop]
 apply relS_det (mask := []) (x := .slice FA fn fc)
 ·rfl
 ·kernel_rfl
 ·kernel_rfl
 ·dsimp only [oblS]
  rintro w9 h9
  have hc9 := (bcell h9).1
  go_simp
  exact ⟨Below.refl _ _, rfl⟩
 dsimp only [naL, caL]
 apply relS_any (mask := [true]) (T := fun v w => ∃ A c, v = .slice A (domR l).length c ∧ w.ownsRow W0.heap.size 3 1 (.slice A (domR l).length c) (domR l).length ((domR l).flatMap iEnc)) (hT := fun v w w' hb ⟨A, c, hv, ho⟩ => ⟨A, c, hv, own_keepB ho fun g hg => hb.block g (ho.lt g hg).2⟩)
 ·rfl
 ·kernel_rfl
 ·kernel_rfl
 ·dsimp only [oblS]
  rintro w9 h9 T' hT'
  go_simp
  refine (domain_any FA fn fc l w9 (HF.out _ (HB0.out.trans (h9.mono HB0.out.size))) hfn).mono ?_
  rintro e w7 ⟨A, c, rfl, ho, hb7⟩
  exact ⟨_, rfl, hb7, hT' _ _ ⟨A, c, rfl, own_monoB ho h9.size⟩⟩
 dsimp only [naL, caL]
 apply relS_det (mask := [false, false]) (x := .agg #[.slice q.nA q.nn q.nc, .slice q.sA q.sn q.sc, .slice q.aA q.an q.ac, .slice q.tA q.tn q.tc])
 ·rfl
 ·kernel_rfl
 ·kernel_rfl
 ·dsimp only [oblS]
  rintro w9 h9
  have hc9 := (bcell h9).1
  go_simp
  exact ⟨Below.refl _ _, rfl⟩
 dsimp only [naL, caL]
 apply relS_det (mask := [false, false, false]) (x := .slice FA fn fc)
 ·rfl
 ·kernel_rfl
 ·kernel_rfl
 ·dsimp only [oblS]
  rintro w9 h9
  have hc9 := (bcell h9).1
  go_simp
  exact ⟨Below.refl _ _, rfl⟩
 dsimp only [naL, caL]
 apply relS_any (mask := [false, false, true, true]) (T := fun v w => ∃ base G cap sl xs, v = .slice (some ⟨G, 0, none⟩) (q.nn + 1) cap ∧ W0.heap.size ≤ base ∧ LvSt FA fn fc q.nn base G cap sl (cndsJ q) xs w ∧ ∀ i, ∀ x ∈ xs i, Clo.low W0.heap.size x) (hT := fun v w w' hb ⟨base, G, cap, sl, xs, hv, h1, h2, h3⟩ => ⟨base, G, cap, sl, xs, hv, h1, h2.later hb, h3⟩)
 ·rfl
 ·kernel_rfl
 ·kernel_rfl
 ·dsimp only [oblS]
  rintro w9 h9 T' hT'
  go_simp
  refine (levels_any q FA fn fc w9 (HQ.out _ (HB0.out.trans (h9.mono HB0.out.size))) HVo.out HSz.out).mono ?_
  rintro e w7 ⟨G, cap, sl, xs, rfl, h1, h2, hb7⟩
  exact ⟨_, rfl, hb7, hT' _ _ ⟨_, G, cap, sl, xs, rfl, by have := h9.size; omega, h1, fun i x hx => Clo.low_mono h9.size (h2 i x hx)⟩⟩
 dsimp only [naL, caL]
 apply relS_any (mask := [false, false, false, false, false]) (T := fun v w => ∃ b, v = .pointer (some ⟨b, 0, none⟩) ∧ W0.heap.size ≤ b ∧ w.heap[b]? = some (.cells #[.slice none 0 0] 23 (0, 0))) (hT := fun v w w' hb ⟨b, hv, hl, hh⟩ => ⟨b, hv, hl, (hb.block b (lt_of_heap hh)).trans hh⟩)
 ·rfl
 ·kernel_rfl
 ·kernel_rfl
 ·dsimp only [oblS]
  rintro w9 h9 T' hT'
  go_simp
  exact ⟨(Below.refl _ _).alloc (Nat.le_refl _) _, hT' _ _ ⟨_, rfl, h9.size, World.alloc_heap_new _ _⟩⟩
 dsimp only [naL, caL]
 apply relS_any (mask := [false, false, false, false, false, false]) (T := fun v w => ∃ b, v = .pointer (some ⟨b, 0, none⟩) ∧ W0.heap.size ≤ b ∧ w.heap[b]? = some (.cells #[.slice none 0 0] 136 (0, 0))) (hT := fun v w w' hb ⟨b, hv, hl, hh⟩ => ⟨b, hv, hl, (hb.block b (lt_of_heap hh)).trans hh⟩)
 ·rfl
 ·kernel_rfl
 ·kernel_rfl
 ·dsimp only [oblS]
  rintro w9 h9 T' hT'
  go_simp
  exact ⟨(Below.refl _ _).alloc (Nat.le_refl _) _, hT' _ _ ⟨_, rfl, h9.size, World.alloc_heap_new _ _⟩⟩
 dsimp only [naL, caL]
 refine relS_end (by rfl) ?_
 dsimp only [finS]
 -- rintro v9 v12 v4 v5 w8 ⟨⟨⟨⟨hb, t9⟩, t12⟩, t4⟩, t5⟩
 rintro v9 v12 v4 v5 w8 ⟨⟨⟨⟨hb8, ⟨DA, dc, rfl, hown⟩⟩, ⟨base, G, cap, sl, xs, rfl, hba, hlv, hlow⟩⟩, ⟨Bd, rfl, hBd, hgd⟩⟩, ⟨Bl, rfl, hBl, hgl⟩⟩
 have hne : Bd ≠ Bl := fun e => by rw [e, hgl] at hgd; injection hgd with h; injection h with _ h; exact absurd h (by decide)
 have hB8 := HB0.out.trans (hb8.mono HB0.out.size)
 have xd8 := cell_of_heap (o := 0) hgd
 have xl8 := cell_of_heap (o := 0) hgl
 have fd8 := frozen_of_heap (o := 0) hgd
 have fl8 := frozen_of_heap (o := 0) hgl
 simp only [List.getElem?_toArray, List.getElem?_cons_zero] at xd8 xl8
 have ld8 := lt_of_cell xd8
 have ll8 := lt_of_cell xl8
 obtain ⟨W9, hW9⟩ : ∃ W9, (w8.setCell ⟨Bd, 0, none⟩ (.slice DA (domR l).length dc)).setCell ⟨Bl, 0, none⟩ (.slice (some ⟨G, 0, none⟩) (q.nn + 1) cap) = W9 := ⟨_, rfl⟩
 have hz9 : W9.heap.size = w8.heap.size := by rw [← hW9]; simp [World.setCell]
 have hgd9 : W9.heap[Bd]? = some (.cells #[.slice DA (domR l).length dc] 23 (0, 0)) := by rw [← hW9]; exact heap_set_ne (heap_set1 hgd _) hne _ _
 have hgl9 : W9.heap[Bl]? = some (.cells #[.slice (some ⟨G, 0, none⟩) (q.nn + 1) cap] 136 (0, 0)) := by rw [← hW9]; exact heap_set1 (heap_set_ne hgl (Ne.symm hne) _ _) _
 have hk9 : ∀ b, b ≠ Bd → b ≠ Bl → W9.heap[b]? = w8.heap[b]? := fun b h1 h2 => by rw [← hW9]; exact (heap_set_ne (heap_set_ne rfl h1 _ _) h2 _ _)
 have hb9 : Below W0.heap.size W0 W9 := by rw [← hW9]; exact (hb8.setCell (p := ⟨Bd, 0, none⟩) hBd _).setCell (p := ⟨Bl, 0, none⟩) hBl _
 have hB9 := HB0.out.trans (hb9.mono HB0.out.size)
 obtain ⟨i0, hi, hz, hs, hbb⟩ := info_parts iInfo
 obtain ⟨W10, hrun, hown10, hgr⟩ := run_make_own (P := Tryz.prog) W9 W.heap.size 23 3 i0 (.int .i64 0) 1 Tryz.underlying23 hi hz hs .i64 .i64 q.nn (by rw [hbb]; have := HSz.out.1; have := HLen.out; omega) (by have := HSz.out.1; have := HLen.out; unfold maxLen; omega) (by have := hB9.size; omega)
 have hB10 : Below W9.heap.size W9 W10 := (Below.refl _ _).grown hgr (Nat.le_refl _) (fun r hr => by cases hr)
 have z0 := (bcell hB9).1 _ 0 lq |>.trans x0
 have HRun := hidp hrun
 obtain ⟨W11, hW11⟩ : ∃ W11, W10.alloc (.cells #[.slice (some ⟨W9.heap.size, 0, none⟩) 0 q.nn] 23) = W11 := ⟨_, rfl⟩
 have hz11 : W11.heap.size = W10.heap.size + 1 := by rw [← hW11]; simp
 have hgv11 : W11.heap[W10.heap.size]? = some (.cells #[.slice (some ⟨W9.heap.size, 0, none⟩) 0 q.nn] 23 (0, 0)) := by rw [← hW11]; exact World.alloc_heap_new _ _
 obtain ⟨ws, hws⟩ : ∃ ws, W11.alloc (.cells #[.func (.func 78) #[] #[.pointer (some ⟨Bl, 0, none⟩), .pointer (some ⟨W10.heap.size, 0, none⟩), .pointer (some ⟨Bq, 0, none⟩), .pointer (some ⟨W.heap.size, 0, none⟩), .pointer (some ⟨Bd, 0, none⟩), .pointer (some ⟨W10.heap.size + 1, 0, none⟩)]] 29) = ws := ⟨_, rfl⟩
 have hgt : ws.heap[W10.heap.size + 1]? = some (.cells #[.func (.func 78) #[] (capsT Bl W10.heap.size Bq W.heap.size Bd (W10.heap.size + 1))] 29 (0, 0)) := by rw [← hws, ← hz11]; exact World.alloc_heap_new _ _
 have hgv : ws.heap[W10.heap.size]? = some (.cells #[.slice (some ⟨W9.heap.size, 0, none⟩) 0 q.nn] 23 (0, 0)) := by rw [← hws, Below.heap_alloc _ _ _ (by omega)]; exact hgv11
 have hbs : Below W10.heap.size W10 ws := by rw [← hws, ← hW11]; exact ((Below.refl _ _).alloc (Nat.le_refl _) _).alloc (by simp) _
 have hzs : ws.heap.size = W10.heap.size + 2 := by rw [← hws]; simp; omega
 have HWs := hidp hws
 rw [← hW11, hz9] at hws
 have HWs := hidp hws
 rw [← hW9] at z0 hrun
 have lq9 := lt_of_cell z0
 have HW9 := hidp hW9
 have HZ9 := hidp hz9
 have HGd9 := hidp hgd9
 have HGl9 := hidp hgl9
 have HK9 := hidp hk9
 have HB9 := hidp hb9
 have HB9' := hidp hB9
 have HOwn10 := hidp hown10
 have HB10 := hidp hB10
 have HOwn := hidp hown
 have HLv := hidp hlv
 have HLow := hidp hlow
 have HBa := hidp hba
 have HGt := hidp hgt
 have HGv := hidp hgv
 have HBs := hidp hbs
 have HZs := hidp hzs
 have HNe := hidp hne
 have HB8 := hidp hb8
 have HGd := hidp hgd
 have HGl := hidp hgl
 clear hW9 hgd hgl hz9 hgd9 hgl9 hk9 hb9 hB9 hown10 hgr hB10 HRun hown hlv hlow hgt hgv hbs hzs hws hW11 hz11 hgv11
 go_simp
 go_wp2_with fail
 rw [HWs.out]
 have z9 := HZ9.out
 have zs := HZs.out
 have b10 := HB10.out.size
 have b9 := HB9.out.size
 have b0 := HB0.out.size
 have hgvlt := (HOwn10.out.lt W9.heap.size rfl).2
 have hgvge := (HOwn10.out.lt W9.heap.size rfl).1
 have hy0lt := lt_of_heap HY0.out
 have hn0' : n₀ ≤ W.heap.size := hn0
 have hBWs : Below W.heap.size W ws := HB9'.out.trans ((HB10.out.mono HB9'.out.size).trans (HBs.out.mono (by have := HB9'.out.size; omega)))
 have hB9s : Below W9.heap.size W9 ws := HB10.out.trans (HBs.out.mono b10)
 have hB0s : Below W0.heap.size W0 ws := HB9.out.trans (hB9s.mono b9)
 obtain ⟨St, hSt⟩ : ∃ St : Nat → Prop, (fun b => b < n₀ ∨ b = Bf ∨ b = Bq ∨ (W.heap.size ≤ b ∧ b < ws.heap.size ∧ b ≠ W10.heap.size ∧ b ≠ W9.heap.size)) = St := ⟨_, rfl⟩
 have hnew : ∀ b, W.heap.size ≤ b → b < w8.heap.size → St b := fun b h1 h2 => by rw [← hSt]; exact .inr (.inr (.inr ⟨h1, by omega, by omega, by omega⟩))
 have hws8 : ∀ b, b < w8.heap.size → b ≠ Bd → b ≠ Bl → ws.heap[b]? = w8.heap[b]? := fun b h1 h2 h3 => (hB9s.block b (by omega)).trans (HK9.out b h2 h3)
 have hne8 : ∀ b (cs : Array Value) t, w8.heap[b]? = some (.cells cs t (0, 0)) → t ≠ 23 → t ≠ 136 → b ≠ Bd ∧ b ≠ Bl := fun b cs t hh h1 h2 =>
  ⟨fun e => by rw [e, HGd.out] at hh; injection hh with hh; injection hh with _ hh; exact h1 hh.symm, fun e => by rw [e, HGl.out] at hh; injection hh with hh; injection hh with _ hh; exact h2 hh.symm⟩
 refine (try_any q FA fn fc l G cap base Bl W10.heap.size Bq W.heap.size Bd (W10.heap.size + 1) li W.heap.size DA (domR l).length dc (domR l) ws St sl xs J Jx (fulJ q l) HVo.out ⟨HLen.out, by have := HSz.out.1; have := HLen.out; omega⟩
  (hnew _ (by omega) ll8) ((hB9s.block _ (by omega)).trans HGl9.out) (by rw [← hSt]; exact .inr (.inr (.inl rfl))) ⟨(hBWs.block _ lq).trans HGq.out.box⟩ (hnew _ (Nat.le_refl _) (by omega)) ((hB0s.block _ hy0lt).trans HY0.out) (hnew _ (by omega) ld8) ((hB9s.block _ (by omega)).trans HGd9.out)
  (by rw [← hSt]; exact .inr (.inr (.inr ⟨by omega, by omega, by omega, by omega⟩))) HGt.out ?_ ?_ ?_ ?_ HJ.out HJx.out (fun m pre x suf C1 W1 V h => HY.out m pre x suf C1 W1 V h.symm) q.nn [] [] [] C ws (by simp) ?_ (HJ.out _ _ _ _ H0.out (kept_of_below hBWs fun b h1 h2 => by omega)) ?_ ?_).mono ?_
 ·intro wr hs hz
  refine HLv.out.keepT HLow.out HBa.out fun b cs t h1 h2 h3 h4 => ?_
  obtain ⟨n1, n2⟩ := hne8 b cs t h2 h3 h4
  exact (hs b (hnew b (by omega) (lt_of_heap h2))).trans (hws8 b (lt_of_heap h2) n1 n2)
 ·intro wr hs hz
  exact HL0.out.keep (Rep.flat_stable _) (by omega) fun b h => (hs b (by rw [← hSt]; exact .inl h)).trans ((hBWs.block b (by omega)).trans (HKp.out b h))
 ·intro wr hs hz
  have ho : wr.ownsRow W0.heap.size 3 1 (.slice DA (domR l).length dc) (domR l).length ((domR l).flatMap iEnc) := own_keepB HOwn.out fun g hg => by
   have h1 := HOwn.out.lt g hg
   obtain ⟨n1, n2⟩ : g ≠ Bd ∧ g ≠ Bl := by
    rcases HOwn.out.2 with ⟨e, _⟩ | ⟨g', cap', cs', hv, hg', hh, _⟩
    ·rw [e] at hg; cases hg
    ·rw [hv] at hg
     injection hg with hg
     subst hg
     exact hne8 _ _ _ hh (by decide) (by decide)
   exact (hs g (hnew g (by omega) h1.2)).trans (hws8 g h1.2 n1 n2)
  obtain ⟨A', c', he, hr⟩ := own_rows iEnc_len1 (by decide) ho
  injection he with e1 e2 e3
  subst e1 e3
  exact hr
 ·refine ⟨by omega, fun h => ?_⟩
  rw [← hSt] at h
  rcases h with h | h | h | h
  ·omega
  ·omega
  ·omega
  ·exact h.2.2.1 rfl
 ·unfold fulJ; rw [← HLen.out]; simp
 ·refine SeqSt.start (fun b hb => ?_) (fun b hb => by have := HC.out b hb; omega)
  rw [← hSt] at hb
  rcases hb with h | h | h | h
  ·exact ⟨by omega, rfl, (HS.out b (.inl h)).2.2⟩
  ·exact ⟨by omega, rfl, (HS.out b (.inr (.inl h))).2.2⟩
  ·exact ⟨by omega, rfl, (HS.out b (.inr (.inr h))).2.2⟩
  ·exact ⟨h.2.1, rfl, fun hc => by have := HC.out b hc; omega⟩
 ·refine ⟨⟨_, HGv.out, own_keepB HOwn10.out fun g hg => HBs.out.block g (HOwn10.out.lt g hg).2, fun g hg => ?_⟩, fun hc => by have := HC.out _ hc; omega⟩
  have hg2 : W9.heap.size = g := by injection hg
  subst hg2
  refine ⟨fun hc => by have := HC.out _ hc; omega, fun h => ?_, fun h => by omega⟩
  rw [← hSt] at h
  rcases h with h | h | h | h
  ·omega
  ·omega
  ·omega
  ·exact h.2.2.2 rfl
 rintro e W20 ⟨C5, hs5, hf5, hcase⟩
 have HFn : Hid (∃ C', (∃ ys, ys = fulJ q l ∧ J ys C' W20) ∨ Jx C' W20) := ⟨C5, hcase.imp (fun h => ⟨_, rfl, by have := h.2; unfold fulJ; rw [← HLen.out]; simpa using this⟩) (·.2)⟩
 have he : ∃ b : Bool, e = Ending.returned (.bool b) := by
  rcases hcase with ⟨h, _⟩ | ⟨h, _⟩
  ·exact ⟨_, h⟩
  ·exact ⟨_, h⟩
 obtain ⟨b, rfl⟩ := he
 clear hcase hs5 hf5 hSt hnew hws8 hne8
 go_wp2_with fail
 go_end0
 exact ⟨⟨_, rfl⟩, HFn.out⟩
end
section
open Go.RowKit Go.Shelf Go.Sort
structure R8 where
 a0 : Int
 a1 : Int
 a2 : Int
 a3 : Int
 a4 : Int
 a5 : Int
 a6 : Int
 a7 : Int
deriving DecidableEq
def r8V (r : R8) : Value := .agg #[.int .i64 r.a0, .int .i64 r.a1, .int .i64 r.a2, .int .i64 r.a3, .int .i64 r.a4, .int .i64 r.a5, .int .i64 r.a6, .int .i64 r.a7]
def r8 (l : List Int) : R8 := ⟨l.getD 0 0, l.getD 1 0, l.getD 2 0, l.getD 3 0, l.getD 4 0, l.getD 5 0, l.getD 6 0, l.getD 7 0⟩
theorem r8_inj {x y : List Int} (hl : x.length = y.length) (h8 : x.length ≤ 8) (h : r8 x = r8 y) : x = y := by
 injection h with h0 h1 h2 h3 h4 h5 h6 h7
 refine List.ext_getElem? fun i => ?_
 rcases Nat.lt_or_ge i x.length with hi | hi
 ·have hg : x.getD i 0 = y.getD i 0 := by
   have : i = 0 ∨ i = 1 ∨ i = 2 ∨ i = 3 ∨ i = 4 ∨ i = 5 ∨ i = 6 ∨ i = 7 := by omega
   rcases this with rfl | rfl | rfl | rfl | rfl | rfl | rfl | rfl <;> assumption
  rw [List.getD_eq_getElem?_getD, List.getD_eq_getElem?_getD, List.getElem?_eq_getElem hi, List.getElem?_eq_getElem (by omega)] at hg
  rw [List.getElem?_eq_getElem hi, List.getElem?_eq_getElem (by omega)]
  simpa using hg
 ·rw [List.getElem?_eq_none hi, List.getElem?_eq_none (by omega)]
set_option maxRecDepth 100000 in
set_option maxHeartbeats 4000000 in
theorem r8_in (d : Nat) (a b : R8) (w : World) : (Op.equalIn (d + 2) 81 (r8V a) (r8V b)).run Tryz.prog w = .ok (decide (a = b)) w := by
 have u3 := Tryz.underlying3
 have a3 := Tryz.isAgg3
 have z3 := Tryz.sizeOf3
 have ur := Tryz.underlying81
 unfold r8V
 rw [show d + 2 = (d + 1) + 1 from rfl]
 unfold Op.equalIn
 go_simp
 have he : ∀ x y, (Op.equalIn (d + 1) 3 (.int .i64 x) (.int .i64 y)).run Tryz.prog w = .ok (x == y) w := fun x y => run_equalIn_int w d 3 .i64 .i64 x y u3
 simp [List.range', a3, z3, he]
 by_cases h0 : a.a0 = b.a0
 case neg => simp [h0]; intro e; exact h0 (by rw [e])
 simp only [h0, if_true]
 by_cases h1 : a.a1 = b.a1
 case neg => simp [h1]; intro e; exact h1 (by rw [e])
 simp only [h1, if_true]
 by_cases h2 : a.a2 = b.a2
 case neg => simp [h2]; intro e; exact h2 (by rw [e])
 simp only [h2, if_true]
 by_cases h3 : a.a3 = b.a3
 case neg => simp [h3]; intro e; exact h3 (by rw [e])
 simp only [h3, if_true]
 by_cases h4 : a.a4 = b.a4
 case neg => simp [h4]; intro e; exact h4 (by rw [e])
 simp only [h4, if_true]
 by_cases h5 : a.a5 = b.a5
 case neg => simp [h5]; intro e; exact h5 (by rw [e])
 simp only [h5, if_true]
 by_cases h6 : a.a6 = b.a6
 case neg => simp [h6]; intro e; exact h6 (by rw [e])
 simp only [h6, if_true]
 by_cases h7 : a.a7 = b.a7
 case neg => simp [h7]; intro e; exact h7 (by rw [e])
 simp only [h7, if_true]
 rw [decide_eq_true]
 cases a; cases b
 simp_all
theorem r_ops : KeyOps Tryz.prog 81 76 r8V := by
 refine KeyOps.of_array Tryz.underlying76 Tryz.underlying81 ?_ ?_ ?_ ?_
 ·intro a b h
  simp [r8V] at h
  obtain ⟨h0, h1, h2, h3, h4, h5, h6, h7⟩ := h
  cases a; cases b
  simp_all
 ·intro a em w
  have u3 := Tryz.underlying3
  have uk := Tryz.underlying81
  have z3 := Tryz.sizeOf3
  have a3 := Tryz.isAgg3
  show (Instr.checkKey em (9999 + 1) 81 (r8V a)).run Tryz.prog w = .ok () w
  unfold Instr.checkKey r8V
  have hi : ∀ x, (Instr.checkKey em 9999 3 (.int .i64 x)).run Tryz.prog w = .ok () w := fun x => by
   show (Instr.checkKey em (9998 + 1) 3 (.int .i64 x)).run Tryz.prog w = .ok () w
   unfold Instr.checkKey
   go_simp
  go_simp
  simp [List.range', hi, a3, z3]
 ·intro a w
  have : Instr.sameBits 10000 (r8V a) (r8V a) = true := by
   show Instr.sameBits (9999 + 1) (.agg _) (.agg _) = true
   simp [Instr.sameBits]
  unfold Instr.keyThatStays
  rw [if_pos this]
  rfl
 ·intro a b w
  exact r8_in 9998 a b w
end
section
open Go.RowKit Go.Shelf Go.Sort
def cmpL : List Int → List Int → Int
 | [], [] => 0
 | [], _ :: _ => -1
 | _ :: _, [] => 1
 | a :: l, b :: m => if cmpI a b = 0 then cmpL l m else cmpI a b
theorem cmpL_lex : ∀ x y, decide (cmpL x y < 0) = lexJ x y
  | [], [] => rfl
  | [], _ :: _ => rfl
  | _ :: _, [] => rfl
  | a :: l, b :: m => by
    have ih := cmpL_lex l m
    unfold cmpL lexJ
    rw [← ih]
    unfold cmpI
    rcases Int.lt_trichotomy a b with h | h | h
    · simp [h]
    · subst h; simp
    · have h1 : ¬ a < b := by omega
      have h2 : ¬ a = b := by omega
      simp [h, h1, h2]
theorem cmpL_drop {x y : List Int} : ∀ k, k ≤ x.length → k ≤ y.length → (∀ j, j < k → x[j]? = y[j]?) → cmpL x y = cmpL (x.drop k) (y.drop k) := by
  induction x generalizing y with
  | nil =>
    intro k h _ _
    obtain rfl : k = 0 := by simpa using h
    simp
  | cons a x ih =>
    intro k h1 h2 h3
    cases k with
    | zero => rfl
    | succ k =>
      cases y with
      | nil => simp at h2
      | cons b y =>
        have h0 := h3 0 (by omega)
        obtain rfl : a = b := by simpa using h0
        show (if cmpI a a = 0 then cmpL x y else cmpI a a) = cmpL (x.drop k) (y.drop k)
        rw [if_pos (by simp [cmpI])]
        exact ih k (by simpa using h1) (by simpa using h2) fun j hj => by have := h3 (j + 1) (by omega); simpa using this
set_option maxRecDepth 100000 in
set_option maxHeartbeats 2000000 in
theorem cmpInts_any (A B : Option Addr) (n m c1 c2 : Nat) (x y : List Int) (w : World) (hx : iSl w w.heap.size A n c1 x) (hy : iSl w w.heap.size B m c2 y) :
  Calls Tryz.prog 34 #[.slice A n c1, .slice B m c2] w fun e w' => e = .returned (.int .i64 (cmpL x y)) ∧ w = w' := by
 have HX := hidp hx
 have HY := hidp hy
 have hxc := hx.2.1
 have hxc2 := hx.2.2.1
 have hyc := hy.2.1
 have hyc2 := hy.2.2.1
 have HNx := hidp hx.1
 have HNy := hidp hy.1
 clear hx hy
 go_enter Tryz.func34, Tryz.ntmps34
 go_wp2_with fail
 go_loopw [11] (fun i wr => ∃ k : Nat, k ≤ n ∧ k ≤ m ∧ i = .int .i64 k ∧ w = wr ∧ ∀ j, j < k → x[j]? = y[j]?) (fun i _ => n - (intOf i).toNat)
 case atStart => exact ⟨0, by omega, by omega, rfl, rfl, fun j h => by omega⟩
 case round =>
  obtain ⟨k, hk, hkm, rfl, rfl, hok⟩ := hrel
  have HOK := hidp hok
  clear hok
  by_cases hkn : k < n
  ·have hkn' : (k : Int) < n := by omega
   obtain ⟨b, off, a, cs, hA, hb, hs, hr, hc⟩ := Rows.get HX.out hkn
   obtain rfl := hr
   have c0 := hc 0 _ rfl
   rw [Nat.add_zero, Nat.mul_one] at c0
   have lb := lt_of_cell c0
   have hix := ix_Ints (c := c1) hA hkn
   have HS := hidp hs
   clear hs hA hc hb
   by_cases hm : k < m
   ·have hge : ¬ ((k : Int) ≥ m) := by omega
    obtain ⟨b2, off2, a2, cs2, hA2, hb2, hs2, hr2, hc2⟩ := Rows.get HY.out hm
    obtain rfl := hr2
    have d0 := hc2 0 _ rfl
    rw [Nat.add_zero, Nat.mul_one] at d0
    have lb2 := lt_of_cell d0
    have hix2 := ix_Ints (c := c2) hA2 hm
    have HS2 := hidp hs2
    clear hs2 hA2 hc2 hb2
    go_wp2_with fail
    refine (cmp_any a a2 _).mono ?_
    rintro e w7 ⟨rfl, rfl⟩
    have HD : Hid (cmpL x y = if cmpI a a2 = 0 then cmpL (x.drop (k + 1)) (y.drop (k + 1)) else cmpI a a2) := by
     show _ = _
     rw [cmpL_drop k (by have := HNx.out; omega) (by have := HNy.out; omega) HOK.out, drop_cons HS.out, drop_cons HS2.out]
     rfl
    obtain ⟨z, hz⟩ : ∃ z, cmpI a a2 = z := ⟨_, rfl⟩
    rw [hz]
    have HZ := hidp hz
    by_cases hz0 : z = 0
    ·subst hz0
     have hne : ((0 : Int) != 0) = false := rfl
     have haa : Hid (a = a2) := by
      have := HZ.out
      show _ = _
      unfold cmpI at this
      rcases Int.lt_trichotomy a a2 with h | h | h
      ·simp [h] at this
      ·exact h
      ·have h1 : ¬ a < a2 := by omega
       simp [h, h1] at this
     clear hz c0 d0 lb lb2 hix hix2
     go_wp2_with fail
     refine ⟨⟨k + 1, by omega, by omega, by go_num, trivial, fun j hj => ?_⟩, by simp [intOf]; omega⟩
     rcases Nat.lt_or_ge j k with h | h
     ·exact HOK.out j h
     ·obtain rfl : j = k := by omega
      rw [HS.out, HS2.out, haa.out]
    ·have hne : (z != 0) = true := by simpa using hz0
     have HR : Hid (cmpL x y = z) := by show _ = _; rw [HD.out, HZ.out, if_neg hz0]
     clear hz c0 d0 lb lb2 hix hix2
     go_wp2_with fail
     go_ret
     exact ⟨by rw [HR.out]; rfl, rfl⟩
   ·obtain rfl : k = m := by omega
    have hge : ((k : Int) ≥ k) := by omega
    have HR : Hid (cmpL x y = 1) := by
     show _ = _
     have h0 : y.drop k = [] := List.drop_of_length_le (by have := HNy.out; omega)
     rw [cmpL_drop k (by have := HNx.out; omega) (by have := HNy.out; omega) HOK.out, drop_cons HS.out, h0]
     rfl
    go_wp2_with fail
    go_ret
    exact ⟨by rw [HR.out]; rfl, rfl⟩
  ·obtain rfl : k = n := by omega
   have hkk : ¬ ((k : Int) < k) := by omega
   have h0 : Hid (x.drop k = []) := List.drop_of_length_le (by have := HNx.out; omega)
   by_cases hm : k < m
   ·have hm' : (k : Int) < m := by omega
    have HR : Hid (cmpL x y = -1) := by
     show _ = _
     have h1 : y.drop k ≠ [] := fun h => by have := congrArg List.length h; simp at this; have := HNy.out; omega
     rw [cmpL_drop k (by have := HNx.out; omega) (by have := HNy.out; omega) HOK.out, h0.out]
     cases hy : y.drop k with
     | nil => exact absurd hy h1
     | cons b t => rfl
    go_wp2_with fail
    go_ret
    exact ⟨by rw [HR.out]; rfl, rfl⟩
   ·obtain rfl : k = m := by omega
    have HR : Hid (cmpL x y = 0) := by
     show _ = _
     have h1 : y.drop k = [] := List.drop_of_length_le (by have := HNy.out; omega)
     rw [cmpL_drop k (by have := HNx.out; omega) (by have := HNy.out; omega) HOK.out, h0.out, h1]
     rfl
    go_wp2_with fail
    go_ret
    exact ⟨by rw [HR.out]; rfl, rfl⟩
end
section
open Go.RowKit Go.Shelf Go.Sort
structure Rw where
 A : Option Addr
 c : Nat
 l : List Int
def rwV (r : Rw) : Value := .slice r.A r.l.length r.c
def RwIn (w : World) (G : Nat) (r : Rw) : Prop := ∀ W, w.heap.size ≤ W.heap.size → (∀ b, b < w.heap.size → b ≠ G → W.heap[b]? = w.heap[b]?) → iSl W W.heap.size r.A r.l.length r.c r.l
theorem rwIn_nil (w : World) (G : Nat) : RwIn w G ⟨none, 0, []⟩ := fun W _ _ => ⟨rfl, Nat.le_refl _, by simp, fun h => by simp at h⟩
instance (w : World) (G : Nat) : Inhabited { r : Rw // RwIn w G r } := ⟨⟨⟨none, 0, []⟩, rwIn_nil w G⟩⟩
theorem ltOfJ {w : World} {G : Nat} (a b : { r : Rw // RwIn w G r }) : ltOf (fun x y : { r : Rw // RwIn w G r } => cmpL x.1.l y.1.l) a b = lexJ a.1.l b.1.l := by
 rw [← cmpL_lex]
 simp [ltOf]
theorem swoJ (w : World) (G : Nat) : SWO (ltOf (fun x y : { r : Rw // RwIn w G r } => cmpL x.1.l y.1.l)) := by
 refine ⟨fun x => by rw [ltOfJ]; exact lexJ_irr _, fun x y z => ?_, fun x y z => ?_⟩
 ·rw [ltOfJ, ltOfJ, ltOfJ]; exact lexJ_tr _ _ _
 ·rw [ltOfJ, ltOfJ, ltOfJ]
  intro h1 h2
  rcases h : lexJ x.1.l z.1.l with _ | _
  ·rfl
  ·rcases lexJ_tri x.1.l y.1.l with h3 | h3 | h3
   ·rw [h3] at h1; cases h1
   ·rw [h3, h2] at h; cases h
   ·rw [lexJ_tr _ _ _ h3 h] at h2; cases h2
theorem sortRows_any {w : World} {base G cap n : Nat} (rs : List Rw) (hown : w.ownsRow base 23 1 (.slice (some ⟨G, 0, none⟩) n cap) n (rs.flatMap fun r => [rwV r])) (hrs : ∀ r ∈ rs, RwIn w G r) (hn : n ≤ 1000000) :
  Calls Tryz.prog 33 #[.slice (some ⟨G, 0, none⟩) n cap, .func (.func 34) #[] #[]] w fun e' w' => e' = .returned (.tuple #[]) ∧ ∃ d : List Rw, d.Perm rs ∧ d.Pairwise (fun x y => lexJ y.l x.l = false) ∧ (∀ r ∈ d, RwIn w G r) ∧
   w'.ownsRow base 23 1 (.slice (some ⟨G, 0, none⟩) n cap) n (d.flatMap fun r => [rwV r]) ∧ Below base w w' ∧ Kept (fun b => b = G) w w' := by
 have hatt : ∀ (d : List { r : Rw // RwIn w G r }), (d.flatMap fun x => [rwV x.1]) = (d.map (·.1)).flatMap fun r => [rwV r] := fun d => by rw [List.flatMap_map]
 have hval : (rs.attachWith (RwIn w G) hrs).map (·.1) = rs := by
  first
  | exact List.attachWith_map_subtype_val rs hrs
  | exact List.attachWith_map_val rs hrs
  | exact List.ext_getElem (by simp [List.attachWith]) (fun i _ _ => by simp [List.attachWith])
 have h := sortFunc_one (enc := fun x : { r : Rw // RwIn w G r } => rwV x.1) (ρ := Tryz.sortJ_ren) Tryz.sortJ (fun x => rfl) (fun x y => cmpL x.1.l y.1.l) (swoJ w G) 34 #[] (enters_of Tryz.func34 (by kernel_rfl) rfl) (rs.attachWith (RwIn w G) hrs) (by rw [hatt, hval]; exact hown)
  (fun W hz hb x y => (cmpInts_any x.1.A y.1.A x.1.l.length y.1.l.length x.1.c y.1.c x.1.l y.1.l W (x.2 W hz hb) (y.2 W hz hb)).mono fun e w' ⟨he, hw⟩ => ⟨he, 0, #[], by rw [← hw]; simp [World.drewN]⟩) (by omega)
 refine h.mono ?_
 rintro e w' ⟨he, d, hp, hs, ho, hb, hk⟩
 refine ⟨he, d.map (·.1), ?_, ?_, ?_, ?_, hb, hk⟩
 ·have := hp.map (·.1)
  rwa [hval] at this
 ·rw [List.pairwise_map]
  refine hs.imp fun {a b} hab => ?_
  rw [← cmpL_lex]
  simpa using hab
 ·intro r hr
  obtain ⟨x, _, rfl⟩ := List.mem_map.1 hr
  exact x.2
 ·rw [← hatt]; exact ho
end
end Go.Proofs.YtbegdcjofnfkiaaGreatDoor
