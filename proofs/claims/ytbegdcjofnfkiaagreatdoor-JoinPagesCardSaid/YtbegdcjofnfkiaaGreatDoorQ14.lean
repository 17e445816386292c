/- Several texts in one: J18 J17A. -/
import Derived.Test.YtbegdcjofnfkiaaGreatDoorQ13
namespace Go.Proofs.YtbegdcjofnfkiaaGreatDoor
section
open Go.RowKit Go.Shelf Go.Sort
set_option maxRecDepth 100000 in
set_option maxHeartbeats 2000000 in
theorem r51SameInts_any (A B : Option Addr) (n m ca cb : Nat) (a b : List Int) (w : World) (ha : iSl w w.heap.size A n ca a) (hb : iSl w w.heap.size B m cb b) :
  Calls Tryz.prog 10 #[.slice A n ca, .slice B m cb] w fun e w' => e = .returned (.bool (decide (a = b))) ∧ Below w.heap.size w w' := by
 have HN := hidp ha.1
 have HM := hidp hb.1
 have hcap := ha.2.2.1
 have hlen := ha.2.1
 have hcap2 := hb.2.2.1
 have hlen2 := hb.2.1
 by_cases hnm : n = m
 ·subst hnm
  go_enter Tryz.func10, Tryz.ntmps10
  go_wp2_with fail
  go_loopw [5] (fun i wr => ∃ k : Nat, k ≤ n ∧ i = .int .i64 k ∧ a.take k = b.take k ∧ Below w.heap.size w wr) (fun i _ => n - (intOf i).toNat)
  case atStart => exact ⟨0, by omega, rfl, rfl, Below.refl _ _⟩
  case round =>
   obtain ⟨k, hk, rfl, hab, hbe⟩ := hrel
   have HA := hidp hab
   clear hab
   by_cases hlt : k < n
   ·obtain ⟨b1, o1, x, rfl, hb1, hzx, c0⟩ := iSl.get (ha.below iStable hbe) hlt
    obtain ⟨b2, o2, y, rfl, hb2, hzy, d0⟩ := iSl.get (hb.below iStable hbe) hlt
    have l1 := lt_of_cell c0
    have l2 := lt_of_cell d0
    have HX := hidp hzx
    have HY := hidp hzy
    obtain ⟨bo, hbo⟩ : ∃ bo, (!(x == y)) = bo := ⟨_, rfl⟩
    have hbo' : (x != y) = bo := by rw [← hbo]; rfl
    have HB := hidp hbo
    have hkn : (k : Int) < n := by omega
    clear hzx hzy hbo
    go_wp2_with fail
    refine wp_region_below wr.heap.size (by kernel_rfl) (by kernel_rfl) ?_
    repeat
     refine q_step (by rfl) ?_
     apply Exists.intro
     refine ⟨fun w9 h9 => ?_, ?_⟩
     ·have hc9 := (bcell h9).1
      go_simp
      first | done | rfl
     go_simp
    refine wpQuiet_nil ?_
    intro w9 hb9
    have hbz := hbe.trans (hb9.mono hbe.size)
    cases bo
    ·go_wp2_with fail
     go_roundw
     case rel => exact ⟨k + 1, by omega, by go_num, take_eq_step HA.out HX.out HY.out (by have := HB.out; simpa using this), hbz⟩
     case measure => simp [intOf]; omega
    ·go_wp2_with fail
     go_ret
     refine ⟨ret_bool ?_, hbz⟩
     symm
     rw [decide_eq_false_iff_not]
     rintro rfl
     have := HX.out.symm.trans HY.out
     injection this with this
     subst this
     have := HB.out
     simp at this
   ·obtain rfl : k = n := by omega
    go_wp2_with fail
    go_ret
    refine ⟨ret_bool ?_, hbe⟩
    have h1 := HA.out
    rw [List.take_of_length_le (by rw [← HN.out]; omega), List.take_of_length_le (by rw [← HM.out]; omega)] at h1
    simp [h1]
 ·have hne : ((n : Int) != (m : Int)) = true := by simp; omega
  go_enter Tryz.func10, Tryz.ntmps10
  go_wp2_with fail
  go_ret
  refine ⟨ret_bool ?_, Below.refl _ _⟩
  symm
  rw [decide_eq_false_iff_not]
  rintro rfl
  exact hnm (HN.out.trans HM.out.symm)
def rwEnc (r : Rw) : List Value := [rwV r]
theorem rwEnc_len (r : Rw) : (rwEnc r).length = 1 := rfl
def RowsIn (w : World) (A : Option Addr) (n c : Nat) (ls : List (List Int)) : Prop := ∃ rs : List Rw, rs.map (·.l) = ls ∧ Rows 1 (Rep.flat rwEnc) w w.heap.size A n c rs ∧ ∀ r ∈ rs, iSl w w.heap.size r.A r.l.length r.c r.l
theorem RowsIn.keep {w w' : World} {A : Option Addr} {n c : Nat} {ls : List (List Int)} (h : RowsIn w A n c ls) (hb : Below w.heap.size w w') : RowsIn w' A n c ls := by
 obtain ⟨rs, h1, h2, h3⟩ := h
 exact ⟨rs, h1, h2.keep (Rep.flat_stable _) hb.size hb.block, fun r hr => (h3 r hr).keep (Rep.flat_stable _) hb.size hb.block⟩
theorem RowsIn.len {w : World} {A : Option Addr} {n c : Nat} {ls : List (List Int)} (h : RowsIn w A n c ls) : n = ls.length ∧ n ≤ c ∧ c ≤ 9223372036854775807 := by
 obtain ⟨rs, h1, h2, h3⟩ := h
 exact ⟨by rw [← h1, List.length_map]; exact h2.1, h2.2.1, h2.2.2.1⟩
theorem RowsIn.get {w : World} {A : Option Addr} {n c k : Nat} {ls : List (List Int)} (h : RowsIn w A n c ls) (hk : k < n) : ∃ b off B m l, A = some ⟨b, off, none⟩ ∧ ls[k]? = some l ∧ w.cell? ⟨b, off + k, none⟩ = some (.slice B l.length m) ∧ iSl w w.heap.size B l.length m l := by
 obtain ⟨rs, h1, h2, h3⟩ := h
 obtain ⟨b, off, x, cs, hA, hb, hs, hr, hc⟩ := Rows.get h2 hk
 obtain rfl := hr
 have c0 := hc 0 _ rfl
 rw [Nat.add_zero, Nat.mul_one] at c0
 exact ⟨b, off, x.A, x.c, x.l, hA, by rw [← h1, List.getElem?_map, hs]; rfl, c0, h3 x (List.mem_of_getElem? hs)⟩
theorem ix_intss {A : Option Addr} {n c k b off : Nat} (hA : A = some ⟨b, off, none⟩) (hk : k < n) (W : World) : (Instr.indexAt 37 (.slice A n c) (.int .i64 k)).run Tryz.prog W = .ok (.pointer (some ⟨b, off + k, none⟩)) W := by
 subst hA
 have hk' : (k : Int) < n := by omega
 simp [go_sem, hk']
end
section
open Go.RowKit Go.Shelf Go.Sort
set_option maxRecDepth 100000 in
set_option maxHeartbeats 1000000 in
theorem lenJ0 (w : World) : Calls Tryz.prog 80 #[.int .u64 0] w fun e w' => e = .returned (.int .i64 0) ∧ w = w' := by
 go_enter Tryz.func80, Tryz.ntmps80
 go_wp2
 go_ret
 exact ⟨ret_int (by kernel_rfl), rfl⟩
set_option maxRecDepth 100000 in
set_option maxHeartbeats 1000000 in
theorem insJ_nil (p : Option Addr) (cap : Nat) (fv : Value) (w : World) : Calls Tryz.prog 107 #[.slice p 0 cap, .int .i64 0, .int .i64 0, fv] w fun e w' => e = .returned (.tuple #[]) ∧ w = w' := by
 go_enter Tryz.func107, Tryz.ntmps107
 go_wp2_with fail
 go_loopw [8, 9] (fun i _ wr => i = .int .i64 1 ∧ w = wr) (fun _ _ _ => 0)
 case atStart => exact ⟨rfl, rfl⟩
 case round =>
  obtain ⟨rfl, rfl⟩ := hrel
  go_wp2_with fail
  go_end0
  exact ⟨rfl, rfl⟩
set_option maxRecDepth 100000 in
set_option maxHeartbeats 1000000 in
theorem pdqJ_nil (p : Option Addr) (cap : Nat) (fv : Value) (w : World) : Calls Tryz.prog 79 #[.slice p 0 cap, .int .i64 0, .int .i64 0, .int .i64 0, fv] w fun e w' => e = .returned (.tuple #[]) ∧ w = w' := by
 go_enter Tryz.func79, Tryz.ntmps79
 go_wp2_with fail
 refine wp_loop_rounds 1 ?_
 rw [rounds_succ]
 go_wp2_with (go_at_call 107; refine (insJ_nil p cap fv _).mono ?_; rintro e w1 ⟨rfl, rfl⟩)
 refine bodyPost_ret (results_none rfl _ _ _) rfl ?_
 exact ⟨rfl, rfl⟩
set_option maxRecDepth 100000 in
set_option maxHeartbeats 1000000 in
theorem sortRows_nil (p : Option Addr) (cap : Nat) (fv : Value) (w : World) : Calls Tryz.prog 33 #[.slice p 0 cap, fv] w fun e w' => e = .returned (.tuple #[]) ∧ w = w' := by
 go_enter Tryz.func33, Tryz.ntmps33
 go_wp2_with fail
 refine (lenJ0 _).mono ?_
 rintro e w1 ⟨rfl, rfl⟩
 go_wp2_with fail
 refine (pdqJ_nil _ _ _ _).mono ?_
 rintro e w1 ⟨rfl, rfl⟩
 go_wp2_with fail
 go_end0
 exact ⟨rfl, rfl⟩
def CRow (Bm Br : Nat) (v : Value) (rs : List Rw) : Nat → Prop := fun b => b = Bm ∨ b = Br ∨ v.ownBlock = some b ∨ ∃ r ∈ rs, (rwV r).ownBlock = some b
structure RCol (q : Qu) (Bm Br n₁ : Nat) (ls : List (List Int)) (v : Value) (rs : List Rw) (W : World) : Prop where
 box : W.heap[Br]? = some (.cells #[v] 37 (0, 0))
 map : KM r8V W Bm (ls.map r8)
 own : W.ownsRow n₁ 23 1 v rs.length (rs.flatMap rwEnc)
 ls : rs.map (·.l) = ls
 rows : ∀ r ∈ rs, W.ownsRow n₁ 3 1 (rwV r) r.l.length (r.l.flatMap iEnc)
theorem RCol.keep {q : Qu} {Bm Br n₁ : Nat} {ls : List (List Int)} {v : Value} {rs : List Rw} {W W' : World} (h : RCol q Bm Br n₁ ls v rs W) (hb : ∀ b, b < W.heap.size → CRow Bm Br v rs b → W'.heap[b]? = W.heap[b]?) : RCol q Bm Br n₁ ls v rs W' :=
  ⟨(hb _ (lt_of_heap h.box) (.inr (.inl rfl))).trans h.box, h.map.keep (hb _ h.map.lt (.inl rfl)), own_keepB h.own fun g hg => hb g (h.own.lt g hg).2 (.inr (.inr (.inl hg))), h.ls,
    fun r hr => own_keepB (h.rows r hr) fun g hg => hb g ((h.rows r hr).lt g hg).2 (.inr (.inr (.inr ⟨r, hr, hg⟩)))⟩
theorem RCol.below {q : Qu} {Bm Br n₁ : Nat} {ls : List (List Int)} {v : Value} {rs : List Rw} {W W' : World} (h : RCol q Bm Br n₁ ls v rs W) (hb : Below W.heap.size W W') : RCol q Bm Br n₁ ls v rs W' := h.keep fun b h1 _ => hb.block b h1
theorem own_kind {w : World} {base k n : Nat} {e : TypeId} {v : Value} {xs : List Value} {g : Nat} (h : w.ownsRow base e k v n xs) (hg : v.ownBlock = some g) : ∃ cs, w.heap[g]? = some (.cells cs e (0, 0)) := by
 rcases h.2 with ⟨e1, _⟩ | ⟨g', cap', cs', hv, _, hh, _⟩
 ·rw [e1] at hg; cases hg
 ·rw [hv] at hg
  injection hg with hg
  subst hg
  exact ⟨cs', hh⟩
theorem RCol.apart {q : Qu} {Bm Br n₁ : Nat} {ls : List (List Int)} {v : Value} {rs : List Rw} {W : World} (h : RCol q Bm Br n₁ ls v rs W) :
  (∀ g, v.ownBlock = some g → g ≠ Bm ∧ g ≠ Br ∧ ∀ r ∈ rs, (rwV r).ownBlock ≠ some g) ∧ (∀ r ∈ rs, ∀ g, (rwV r).ownBlock = some g → g ≠ Bm ∧ g ≠ Br) ∧ Bm ≠ Br := by
 obtain ⟨es, ck, hm, _⟩ := h.map
 have hbr := h.box
 refine ⟨fun g hg => ?_, fun r hr g hg => ?_, ?_⟩
 ·obtain ⟨cs, hc⟩ := own_kind h.own hg
  refine ⟨?_, ?_, fun r hr hrg => ?_⟩
  ·rintro rfl; rw [hm] at hc; cases hc
  ·rintro rfl
   rw [hbr] at hc
   injection hc with hc
   injection hc with _ hc
   exact absurd hc (by decide)
  ·obtain ⟨cs2, hc2⟩ := own_kind (h.rows r hr) hrg
   rw [hc] at hc2
   injection hc2 with hc2
   injection hc2 with _ hc2
   exact absurd hc2 (by decide)
 ·obtain ⟨cs, hc⟩ := own_kind (h.rows r hr) hg
  refine ⟨?_, ?_⟩
  ·rintro rfl; rw [hm] at hc; cases hc
  ·rintro rfl
   rw [hbr] at hc
   injection hc with hc
   injection hc with _ hc
   exact absurd hc (by decide)
 ·rintro rfl; rw [hm] at hbr; cases hbr
theorem r8_mem {ls : List (List Int)} {x : List Int} (h8 : x.length ≤ 8) (hl : ∀ y ∈ ls, y.length = x.length) : r8 x ∈ ls.map r8 ↔ x ∈ ls := by
 rw [List.mem_map]
 constructor
 ·rintro ⟨y, hy, he⟩
  have := r8_inj (hl y hy) (by rw [hl y hy]; exact h8) he
  rwa [← this]
 ·intro h; exact ⟨x, h, rfl⟩
theorem own_rwIn {w : World} {n₁ G : Nat} {r : Rw} (h : w.ownsRow n₁ 3 1 (rwV r) r.l.length (r.l.flatMap iEnc)) (hG : (rwV r).ownBlock ≠ some G) : RwIn w G r := by
 intro W hz hb
 have h2 : W.ownsRow n₁ 3 1 (rwV r) r.l.length (r.l.flatMap iEnc) := own_keepB h fun g hg => hb g (h.lt g hg).2 fun e => hG (e ▸ hg)
 obtain ⟨A, c, he, hr⟩ := own_rows iEnc_len (by decide) h2
 unfold rwV at he
 injection he with e1 e2 e3
 rw [e1, e3]
 exact hr
def r8C (x : List Int) : Array Value := #[.int .i64 (x.getD 0 0), .int .i64 (x.getD 1 0), .int .i64 (x.getD 2 0), .int .i64 (x.getD 3 0), .int .i64 (x.getD 4 0), .int .i64 (x.getD 5 0), .int .i64 (x.getD 6 0), .int .i64 (x.getD 7 0)]
theorem r8C_size (x : List Int) : (r8C x).size = 8 := rfl
theorem r8C_get (x : List Int) {i : Nat} (h : i < 8) : (r8C x)[i]? = some (.int .i64 (x.getD i 0)) := by
 have : i = 0 ∨ i = 1 ∨ i = 2 ∨ i = 3 ∨ i = 4 ∨ i = 5 ∨ i = 6 ∨ i = 7 := by omega
 rcases this with rfl | rfl | rfl | rfl | rfl | rfl | rfl | rfl <;> rfl
theorem getD_snoc (x : List Int) (n : Int) (i : Nat) : (x ++ [n]).getD i 0 = if i = x.length then n else x.getD i 0 := by
 rw [List.getD_eq_getElem?_getD, List.getD_eq_getElem?_getD]
 split
 ·rename_i h; subst h; simp
 ·rename_i h
  rcases Nat.lt_or_ge i x.length with h1 | h1
  ·rw [List.getElem?_append_left h1]
  ·rw [List.getElem?_eq_none h1, List.getElem?_eq_none (by simp; omega)]
theorem r8C_snoc (x : List Int) (n : Int) (h : x.length < 8) : (r8C x).setIfInBounds x.length (.int .i64 n) = r8C (x ++ [n]) := by
 apply Array.ext_getElem?
 intro i
 rw [Array.getElem?_setIfInBounds, r8C_size]
 rcases Nat.lt_or_ge i 8 with hi | hi
 ·rw [r8C_get x hi, r8C_get (x ++ [n]) hi, getD_snoc]
  by_cases he : x.length = i
  ·subst he; simp [hi]
  ·rw [if_neg he, if_neg (fun e => he e.symm)]
 ·rw [if_neg (by omega), Array.getElem?_eq_none (by rw [r8C_size]; exact hi), Array.getElem?_eq_none (by rw [r8C_size]; exact hi)]
theorem heap_setO {w : World} {b : Nat} {cs : Array Value} {t : TypeId} {fr : Nat × Nat} (h : w.heap[b]? = some (.cells cs t fr)) (o : Nat) (u : Value) : (w.setCell ⟨b, o, none⟩ u).heap[b]? = some (.cells (cs.setIfInBounds o u) t fr) := by
 simp [World.setCell, Array.getElem?_modify, h]
def showP (q : Qu) (vs : List Int) (k : Nat) : List Int := (q.shows.take k).map fun i => vs.getD i.toNat 0
theorem showP_step {q : Qu} {vs : List Int} {k : Nat} {i : Int} (h : q.shows[k]? = some i) : showP q vs (k + 1) = showP q vs k ++ [vs.getD i.toNat 0] := by
 unfold showP; rw [take_snoc h, List.map_append]; rfl
theorem showP_len {q : Qu} {vs : List Int} {k : Nat} (h : k ≤ q.shows.length) : (showP q vs k).length = k := by
 unfold showP; rw [List.length_map, List.length_take]; omega
theorem showP_all (q : Qu) (vs : List Int) : showP q vs q.shows.length = showJ q vs := by
 unfold showP showJ; rw [List.take_of_length_le (Nat.le_refl _)]
theorem showJ_len (q : Qu) (vs : List Int) : (showJ q vs).length = q.shows.length := by simp [showJ]
end
end Go.Proofs.YtbegdcjofnfkiaaGreatDoor
