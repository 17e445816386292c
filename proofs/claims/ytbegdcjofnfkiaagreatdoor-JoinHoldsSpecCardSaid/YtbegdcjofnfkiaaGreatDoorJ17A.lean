/- join.Rows: sorting no rows; rows collected, in memory. -/
import Derived.Test.YtbegdcjofnfkiaaGreatDoorJ18
namespace Go.Proofs.YtbegdcjofnfkiaaGreatDoor
open Go.RowKit Go.Shelf Go.Sort

set_option maxRecDepth 100000 in
set_option maxHeartbeats 1000000 in
theorem lenJ0 (w : World) : Calls Tryz.prog 80 #[.int .u64 0] w fun e w' => e = .returned (.int .i64 0) ∧ w = w' := by
  go_enter Tryz.func80, Tryz.ntmps80
  go_wp2
  go_ret
  exact ⟨ret_int (by kernel_rfl), rfl⟩
set_option maxRecDepth 100000 in
set_option maxHeartbeats 1000000 in
theorem insJ_nil (p : Option Addr) (cap : Nat) (fv : Value) (w : World) : Calls Tryz.prog 107 #[.slice p 0 cap, .int .i64 0, .int .i64 0, fv] w fun e w' => e = .returned (.tuple #[]) ∧ w = w' := by
  go_enter Tryz.func107, Tryz.ntmps107
  go_wp2_with fail
  go_loopw [8, 9] (fun i _ wr => i = .int .i64 1 ∧ w = wr) (fun _ _ _ => 0)
  case atStart => exact ⟨rfl, rfl⟩
  case round =>
    obtain ⟨rfl, rfl⟩ := hrel
    go_wp2_with fail
    go_end0
    exact ⟨rfl, rfl⟩
set_option maxRecDepth 100000 in
set_option maxHeartbeats 1000000 in
theorem pdqJ_nil (p : Option Addr) (cap : Nat) (fv : Value) (w : World) : Calls Tryz.prog 79 #[.slice p 0 cap, .int .i64 0, .int .i64 0, .int .i64 0, fv] w fun e w' => e = .returned (.tuple #[]) ∧ w = w' := by
  go_enter Tryz.func79, Tryz.ntmps79
  go_wp2_with fail
  refine wp_loop_rounds 1 ?_
  rw [rounds_succ]
  go_wp2_with (go_at_call 107; refine (insJ_nil p cap fv _).mono ?_; rintro e w1 ⟨rfl, rfl⟩)
  refine bodyPost_ret (results_none rfl _ _ _) rfl ?_
  exact ⟨rfl, rfl⟩
set_option maxRecDepth 100000 in
set_option maxHeartbeats 1000000 in
theorem sortRows_nil (p : Option Addr) (cap : Nat) (fv : Value) (w : World) : Calls Tryz.prog 33 #[.slice p 0 cap, fv] w fun e w' => e = .returned (.tuple #[]) ∧ w = w' := by
  go_enter Tryz.func33, Tryz.ntmps33
  go_wp2_with fail
  refine (lenJ0 _).mono ?_
  rintro e w1 ⟨rfl, rfl⟩
  go_wp2_with fail
  refine (pdqJ_nil _ _ _ _).mono ?_
  rintro e w1 ⟨rfl, rfl⟩
  go_wp2_with fail
  go_end0
  exact ⟨rfl, rfl⟩
/-- The blocks that rounds write: the map, the box of the rows, the rows. -/
def CRow (Bm Br : Nat) (v : Value) (rs : List Rw) : Nat → Prop := fun b => b = Bm ∨ b = Br ∨ v.ownBlock = some b ∨ ∃ r ∈ rs, (rwV r).ownBlock = some b
/-- Rows collected so far. -/
structure RCol (q : Qu) (Bm Br n₁ : Nat) (ls : List (List Int)) (v : Value) (rs : List Rw) (W : World) : Prop where
  box : W.heap[Br]? = some (.cells #[v] 37 (0, 0))
  map : KM r8V W Bm (ls.map r8)
  own : W.ownsRow n₁ 23 1 v rs.length (rs.flatMap rwEnc)
  ls : rs.map (·.l) = ls
  rows : ∀ r ∈ rs, W.ownsRow n₁ 3 1 (rwV r) r.l.length (r.l.flatMap iEnc)
theorem RCol.keep {q : Qu} {Bm Br n₁ : Nat} {ls : List (List Int)} {v : Value} {rs : List Rw} {W W' : World} (h : RCol q Bm Br n₁ ls v rs W) (hb : ∀ b, b < W.heap.size → CRow Bm Br v rs b → W'.heap[b]? = W.heap[b]?) : RCol q Bm Br n₁ ls v rs W' :=
  ⟨(hb _ (lt_of_heap h.box) (.inr (.inl rfl))).trans h.box, h.map.keep (hb _ h.map.lt (.inl rfl)), own_keepB h.own fun g hg => hb g (h.own.lt g hg).2 (.inr (.inr (.inl hg))), h.ls,
    fun r hr => own_keepB (h.rows r hr) fun g hg => hb g ((h.rows r hr).lt g hg).2 (.inr (.inr (.inr ⟨r, hr, hg⟩)))⟩
theorem RCol.below {q : Qu} {Bm Br n₁ : Nat} {ls : List (List Int)} {v : Value} {rs : List Rw} {W W' : World} (h : RCol q Bm Br n₁ ls v rs W) (hb : Below W.heap.size W W') : RCol q Bm Br n₁ ls v rs W' := h.keep fun b h1 _ => hb.block b h1
theorem own_kind {w : World} {base k n : Nat} {e : TypeId} {v : Value} {xs : List Value} {g : Nat} (h : w.ownsRow base e k v n xs) (hg : v.ownBlock = some g) : ∃ cs, w.heap[g]? = some (.cells cs e (0, 0)) := by
  rcases h.2 with ⟨e1, _⟩ | ⟨g', cap', cs', hv, _, hh, _⟩
  · rw [e1] at hg; cases hg
  · rw [hv] at hg
    injection hg with hg
    subst hg
    exact ⟨cs', hh⟩
/-- The blocks are apart. -/
theorem RCol.apart {q : Qu} {Bm Br n₁ : Nat} {ls : List (List Int)} {v : Value} {rs : List Rw} {W : World} (h : RCol q Bm Br n₁ ls v rs W) :
    (∀ g, v.ownBlock = some g → g ≠ Bm ∧ g ≠ Br ∧ ∀ r ∈ rs, (rwV r).ownBlock ≠ some g) ∧ (∀ r ∈ rs, ∀ g, (rwV r).ownBlock = some g → g ≠ Bm ∧ g ≠ Br) ∧ Bm ≠ Br := by
  obtain ⟨es, ck, hm, _⟩ := h.map
  have hbr := h.box
  refine ⟨fun g hg => ?_, fun r hr g hg => ?_, ?_⟩
  · obtain ⟨cs, hc⟩ := own_kind h.own hg
    refine ⟨?_, ?_, fun r hr hrg => ?_⟩
    · rintro rfl; rw [hm] at hc; cases hc
    · rintro rfl
      rw [hbr] at hc
      injection hc with hc
      injection hc with _ hc
      exact absurd hc (by decide)
    · obtain ⟨cs2, hc2⟩ := own_kind (h.rows r hr) hrg
      rw [hc] at hc2
      injection hc2 with hc2
      injection hc2 with _ hc2
      exact absurd hc2 (by decide)
  · obtain ⟨cs, hc⟩ := own_kind (h.rows r hr) hg
    refine ⟨?_, ?_⟩
    · rintro rfl; rw [hm] at hc; cases hc
    · rintro rfl
      rw [hbr] at hc
      injection hc with hc
      injection hc with _ hc
      exact absurd hc (by decide)
  · rintro rfl; rw [hm] at hbr; cases hbr
theorem r8_mem {ls : List (List Int)} {x : List Int} (h8 : x.length ≤ 8) (hl : ∀ y ∈ ls, y.length = x.length) : r8 x ∈ ls.map r8 ↔ x ∈ ls := by
  rw [List.mem_map]
  constructor
  · rintro ⟨y, hy, he⟩
    have := r8_inj (hl y hy) (by rw [hl y hy]; exact h8) he
    rwa [← this]
  · intro h; exact ⟨x, h, rfl⟩
theorem own_rwIn {w : World} {n₁ G : Nat} {r : Rw} (h : w.ownsRow n₁ 3 1 (rwV r) r.l.length (r.l.flatMap iEnc)) (hG : (rwV r).ownBlock ≠ some G) : RwIn w G r := by
  intro W hz hb
  have h2 : W.ownsRow n₁ 3 1 (rwV r) r.l.length (r.l.flatMap iEnc) := own_keepB h fun g hg => hb g (h.lt g hg).2 fun e => hG (e ▸ hg)
  obtain ⟨A, c, he, hr⟩ := own_rows iEnc_len (by decide) h2
  unfold rwV at he
  injection he with e1 e2 e3
  rw [e1, e3]
  exact hr
theorem own_empty (w : World) (base k : Nat) (e : TypeId) (hb : base ≤ w.heap.size) : (w.alloc (.cells #[] e)).ownsRow base e k (.slice (some ⟨w.heap.size, 0, none⟩) 0 0) 0 [] :=
  ⟨by simp, .inr ⟨w.heap.size, 0, #[], rfl, hb, World.alloc_heap_new _ _, Nat.le_refl _, by decide, by simp, by simp⟩⟩
/-- A row's array of eight, so many of its cells laid. -/
def r8C (x : List Int) : Array Value := #[.int .i64 (x.getD 0 0), .int .i64 (x.getD 1 0), .int .i64 (x.getD 2 0), .int .i64 (x.getD 3 0), .int .i64 (x.getD 4 0), .int .i64 (x.getD 5 0), .int .i64 (x.getD 6 0), .int .i64 (x.getD 7 0)]
theorem r8C_size (x : List Int) : (r8C x).size = 8 := rfl
theorem r8C_get (x : List Int) {i : Nat} (h : i < 8) : (r8C x)[i]? = some (.int .i64 (x.getD i 0)) := by
  have : i = 0 ∨ i = 1 ∨ i = 2 ∨ i = 3 ∨ i = 4 ∨ i = 5 ∨ i = 6 ∨ i = 7 := by omega
  rcases this with rfl | rfl | rfl | rfl | rfl | rfl | rfl | rfl <;> rfl
theorem getD_snoc (x : List Int) (n : Int) (i : Nat) : (x ++ [n]).getD i 0 = if i = x.length then n else x.getD i 0 := by
  rw [List.getD_eq_getElem?_getD, List.getD_eq_getElem?_getD]
  split
  · rename_i h; subst h; simp
  · rename_i h
    rcases Nat.lt_or_ge i x.length with h1 | h1
    · rw [List.getElem?_append_left h1]
    · rw [List.getElem?_eq_none h1, List.getElem?_eq_none (by simp; omega)]
theorem r8C_snoc (x : List Int) (n : Int) (h : x.length < 8) : (r8C x).setIfInBounds x.length (.int .i64 n) = r8C (x ++ [n]) := by
  apply Array.ext_getElem?
  intro i
  rw [Array.getElem?_setIfInBounds, r8C_size]
  rcases Nat.lt_or_ge i 8 with hi | hi
  · rw [r8C_get x hi, r8C_get (x ++ [n]) hi, getD_snoc]
    by_cases he : x.length = i
    · subst he; simp [hi]
    · rw [if_neg he, if_neg (fun e => he e.symm)]
  · rw [if_neg (by omega), Array.getElem?_eq_none (by rw [r8C_size]; exact hi), Array.getElem?_eq_none (by rw [r8C_size]; exact hi)]
theorem heap_setO {w : World} {b : Nat} {cs : Array Value} {t : TypeId} {fr : Nat × Nat} (h : w.heap[b]? = some (.cells cs t fr)) (o : Nat) (u : Value) : (w.setCell ⟨b, o, none⟩ u).heap[b]? = some (.cells (cs.setIfInBounds o u) t fr) := by
  simp [World.setCell, Array.getElem?_modify, h]
/-- So much of a row. -/
def showP (q : Qu) (vs : List Int) (k : Nat) : List Int := (q.shows.take k).map fun i => vs.getD i.toNat 0
theorem showP_step {q : Qu} {vs : List Int} {k : Nat} {i : Int} (h : q.shows[k]? = some i) : showP q vs (k + 1) = showP q vs k ++ [vs.getD i.toNat 0] := by
  unfold showP; rw [take_snoc h, List.map_append]; rfl
theorem showP_len {q : Qu} {vs : List Int} {k : Nat} (h : k ≤ q.shows.length) : (showP q vs k).length = k := by
  unfold showP; rw [List.length_map, List.length_take]; omega
theorem showP_all (q : Qu) (vs : List Int) : showP q vs q.shows.length = showJ q vs := by
  unfold showP showJ; rw [List.take_of_length_le (Nat.le_refl _)]
theorem showJ_len (q : Qu) (vs : List Int) : (showJ q vs).length = q.shows.length := by simp [showJ]
end Go.Proofs.YtbegdcjofnfkiaaGreatDoor
