/- Decisions, numbers and an index in memory. -/
import Derived.Test.YtologegkbcedhaaG3
import Derived.Test.YtologegkbcedhaaF9
namespace Go.Proofs.Ytologegkbcedhaa
open Go.RowKit Go.Shelf

/-- A decision as its cells. -/
structure DeV where
  (q0 q1 q2 q3 an la kn : Int)
  (wA : Option Addr) (wn wc : Nat)
  (rA : Option Addr) (rn rc : Nat)
  (mA : Option Addr) (mn mc : Nat)
def DeV.enc (d : DeV) : List Value := [.int .i64 d.q0, .int .i64 d.q1, .int .i64 d.q2, .int .i64 d.q3, .int .i64 d.an, .int .i64 d.la, .int .i64 d.kn, .slice d.wA d.wn d.wc, .slice d.rA d.rn d.rc, .slice d.mA d.mn d.mc]
/-- Cells and reads. -/
abbrev De := DeV × List Rd
def deRep : Rep De := fun W n₀ x cs => cs = x.1.enc ∧ RdSl W n₀ x.1.rA x.1.rn x.1.rc x.2
theorem deStable : deRep.Stable := fun _ _ _ _ _ _ h hn hb => ⟨h.1, h.2.keep rdStable hn hb⟩
abbrev deSl := Rows 10 deRep
theorem deSl.get {n₀ n c k : Nat} {A : Option Addr} {l : List De} {W : World} (h : deSl W n₀ A n c l) (hk : k < n) :
    ∃ b off m, A = some ⟨b, off, none⟩ ∧ b < n₀ ∧ l[k]? = some m ∧ RdSl W n₀ m.1.rA m.1.rn m.1.rc m.2 ∧ W.cell? ⟨b, off + k * 10, none⟩ = some (.int .i64 m.1.q0) ∧ W.cell? ⟨b, off + k * 10 + 1, none⟩ = some (.int .i64 m.1.q1) ∧ W.cell? ⟨b, off + k * 10 + 2, none⟩ = some (.int .i64 m.1.q2) ∧ W.cell? ⟨b, off + k * 10 + 3, none⟩ = some (.int .i64 m.1.q3) ∧ W.cell? ⟨b, off + k * 10 + 4, none⟩ = some (.int .i64 m.1.an) ∧ W.cell? ⟨b, off + k * 10 + 5, none⟩ = some (.int .i64 m.1.la) ∧ W.cell? ⟨b, off + k * 10 + 6, none⟩ = some (.int .i64 m.1.kn) ∧ W.cell? ⟨b, off + k * 10 + 7, none⟩ = some (.slice m.1.wA m.1.wn m.1.wc) ∧ W.cell? ⟨b, off + k * 10 + 8, none⟩ = some (.slice m.1.rA m.1.rn m.1.rc) ∧ W.cell? ⟨b, off + k * 10 + 9, none⟩ = some (.slice m.1.mA m.1.mn m.1.mc) := by
  obtain ⟨b, off, m, cs, e, hlt, hk', ⟨rfl, hr⟩, hc⟩ := Rows.get h hk
  exact ⟨b, off, m, e, hlt, hk', hr, hc 0 _ rfl, hc 1 _ rfl, hc 2 _ rfl, hc 3 _ rfl, hc 4 _ rfl, hc 5 _ rfl, hc 6 _ rfl, hc 7 _ rfl, hc 8 _ rfl, hc 9 _ rfl⟩
theorem de_reads {l : List De} {k : Nat} {m : De} (h : l[k]? = some m) : (l.map (·.2))[k]? = some m.2 := by simp [h]
theorem allTo_mono (ds : List (List Rd)) {k n : Nat} (h : k ≤ n) : (allTo ds k).length ≤ (allTo ds n).length := by
  induction n with
  | zero => obtain rfl : k = 0 := by omega
            exact Nat.le_refl _
  | succ n ih =>
    rcases Nat.lt_or_ge k (n + 1) with h1 | h1
    · refine Nat.le_trans (ih (by omega)) ?_
      unfold allTo
      rw [List.range_succ, List.flatMap_append, List.length_append]
      exact Nat.le_add_right _ _
    · obtain rfl : k = n + 1 := by omega
      exact Nat.le_refl _

/-- What Build and Replace hand back. -/
def IxPost (l : List Lk) (w : World) (e : Ending) (w' : World) : Prop := ∃ A n c, e = .returned (.agg #[.slice A n c]) ∧ lSl w' w'.heap.size A n c l ∧ Below w.heap.size w w'

theorem iEnc_one (x : Int) : ∀ u ∈ iEnc x, u.oneCell' = true := by
  intro u hu; simp [iEnc] at hu; subst hu; rfl
abbrev iSl := Rows 1 (Rep.flat iEnc)
theorem iSl.get {n₀ n c k : Nat} {A : Option Addr} {l : List Int} {W : World} (h : iSl W n₀ A n c l) (hk : k < n) :
    ∃ b off m, A = some ⟨b, off, none⟩ ∧ b < n₀ ∧ l[k]? = some m ∧ W.cell? ⟨b, off + k, none⟩ = some (.int .i64 m) := by
  obtain ⟨b, off, m, cs, e, hlt, hk', rfl, hc⟩ := Rows.get h hk
  exact ⟨b, off, m, e, hlt, hk', by have := hc 0 _ rfl; simpa using this⟩
theorem iInfo : (Try.prog.info? 3).map (fun i => (i.zero, i.size, i.bytes)) = some (some (.int .i64 0), 1, 8) := by kernel_rfl
theorem belowSet {m : Nat} {w0 w : World} {a : Addr} (hb : Below m w0 w) (hg : m ≤ a.block) (v : Value) : Below m w0 (w.setCell a v) :=
  hb.trans ⟨rfl, rfl, rfl, by simp [World.setCell], fun q hq => by simp [World.setCell, Array.getElem?_modify, show a.block ≠ q by omega]⟩
/-- A box that holds a slice is no block of links. -/
theorem lSl.set {W : World} {B n₀ n c n' c' : Nat} {A A' : Option Addr} {l : List Lk} {t : TypeId} {f : Nat × Nat} {v : Value} (h : lSl W n₀ A n c l) (hB : W.heap[B]? = some (.cells #[.slice A' n' c'] t f)) : lSl (W.setCell ⟨B, 0, none⟩ v) n₀ A n c l := by
  refine ⟨h.1, h.2.1, h.2.2.1, fun hn => ?_⟩
  obtain ⟨b, off, e, hlt, hx⟩ := h.2.2.2 hn
  have hbB : b ≠ B := by
    rintro rfl
    have h1 := h.1
    obtain ⟨cs, rfl, hc⟩ := hx 0 (l[0]'(by omega)) (List.getElem?_eq_getElem (by omega))
    have := hc 0 _ rfl
    rw [cell_of_heap hB] at this
    rcases Nat.eq_zero_or_pos (off + 0 * 6 + 0) with h0 | h0
    · rw [h0] at this; simp at this
    · rw [List.getElem?_toArray, List.getElem?_eq_none (by simp; omega)] at this
      cases this
  refine ⟨b, off, e, hlt, fun i x hi => ?_⟩
  obtain ⟨cs, h1, h2⟩ := hx i x hi
  exact ⟨cs, h1, fun j u hj => (World.cell?_of_block (w := W) (a := ⟨b, _, none⟩) (heap_set_ne rfl hbB _ _)).trans (h2 j u hj)⟩
theorem linksOf_take0 {at' : Int} {l : List Rd} {k : Nat} {x : Rd} (h : l[k]? = some x) : linksOf at' (l.take (k + 1)) = linksOf at' (l.take k) ++ [(x, at')] := by
  rw [take_snoc h, linksOf, List.map_append]; rfl
end Go.Proofs.Ytologegkbcedhaa
