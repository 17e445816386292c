/- pages.New; the law's fact; the reference's New. -/
import Derived.Test.YtpnfpdkoeednhaaA26
namespace Go.Proofs.Ytpnfpdkoeednhaa
open Go.RowKit Go.Shelf

/-- Pages lie in memory, small ones. -/
structure PsS (s : Ps) (w : World) : Prop where
  inn : PsIn s w w.heap.size
  slim : ∀ g ∈ s.gs, g.fn ≤ 1000000 ∧ g.kn ≤ 1000000
theorem PsS.later {s : Ps} {w w' : World} (h : PsS s w) (hb : Below w.heap.size w w') : PsS s w' := ⟨h.inn.later hb, h.slim⟩
theorem PsBl.lt {s : Ps} {w : World} {n x : Nat} (h : PsIn s w n) (hx : PsBl s x) : x < n := by
  rcases hx with ⟨hn, off, e⟩ | ⟨hn, off, e⟩ | ⟨g, hg, hx⟩
  · obtain ⟨b, o, e2, hlt, _⟩ := h.pages.2.2.2 hn
    rw [e] at e2; cases e2; exact hlt
  · obtain ⟨b, o, e2, hlt, _⟩ := h.roots.2.2.2 hn
    rw [e] at e2; cases e2; exact hlt
  · exact PgBl.lt (h.each g hg) hx
theorem PsIn.only {s : Ps} {X : Nat} {w w' : World} (h : PsIn s w w.heap.size) (hO : Only X w w') (hX : ∀ x, PsBl s x → x ≠ X) : PsIn s w' w'.heap.size := by
  have hb : ∀ {α : Type} {k : Nat} {enc : α → List Value} {n c : Nat} {A : Option Addr} {l : List α}, Rows k (Rep.flat enc) w w.heap.size A n c l → (∀ x off, 0 < n → A = some ⟨x, off, none⟩ → x ≠ X) → Rows k (Rep.flat enc) w' w'.heap.size A n c l := fun hr hx =>
    rows_at hr fun hn b off e => by
      obtain ⟨b2, o2, e2, hlt, _⟩ := hr.2.2.2 hn
      rw [e] at e2; cases e2
      exact ⟨by rw [hO.size]; exact hlt, hO.block b (hx b off hn e)⟩
  exact ⟨hb h.pages fun x off hn e => hX x (.inl ⟨hn, off, e⟩), fun g hg => ⟨hb (h.each g hg).1 fun x off hn e => hX x (.inr (.inr ⟨g, hg, .inl ⟨hn, off, e⟩⟩)), hb (h.each g hg).2 fun x off hn e => hX x (.inr (.inr ⟨g, hg, .inr ⟨hn, off, e⟩⟩))⟩, hb h.roots fun x off hn e => hX x (.inr (.inl ⟨hn, off, e⟩))⟩
abbrev psVal (s : Ps) : Value := .agg #[.slice s.pA s.pn s.pc, .slice s.rA s.rn s.rc]
def newPs (b : Nat) : Ps := ⟨some ⟨b, 0, none⟩, 1, 1, [⟨none, 0, 0, [], none, 0, 0, []⟩], some ⟨b + 1, 0, none⟩, 1, 1, [0]⟩
theorem newPs_psV (b : Nat) : psV (newPs b) = [⟨[], []⟩] := rfl
theorem newPs_in (W : World) : PsS (newPs W.heap.size) ((W.alloc (.cells #[.slice none 0 0, .slice none 0 0] 66)).alloc (.cells #[.int .i64 0] 3)) := by
  have z1 : (W.alloc (.cells #[.slice none 0 0, .slice none 0 0] 66)).heap.size = W.heap.size + 1 := by simp
  have h1 := World.alloc_heap_new W (.cells #[.slice none 0 0, .slice none 0 0] 66)
  have h2 := World.alloc_heap_new (W.alloc (.cells #[.slice none 0 0, .slice none 0 0] 66)) (.cells #[.int .i64 0] 3)
  rw [z1] at h2
  have h1' := (Below.heap_alloc (W.alloc (.cells #[.slice none 0 0, .slice none 0 0] 66)) (.cells #[.int .i64 0] 3) W.heap.size (by omega)).trans h1
  refine ⟨⟨?_, ?_, ?_⟩, ?_⟩
  · exact rows_of_heap (l := [(⟨none, 0, 0, [], none, 0, 0, []⟩ : Pq)]) (c := 1) pgEnc_len h1' (by simp) (by omega) (by simp [pgEnc])
  · intro g hg
    simp [newPs] at hg; subst hg
    exact ⟨Rows.nil (by show (0 : Nat) ≤ _; omega), Rows.nil (by show (0 : Nat) ≤ _; omega)⟩
  · exact rows_of_heap (l := [(0 : Int)]) (c := 1) iEnc_len h2 (by simp) (by omega) (by simp [iEnc])
  · intro g hg
    simp [newPs] at hg; subst hg
    simp
theorem newPs_bl {n x : Nat} (hx : PsBl (newPs (n + 1)) x) : n ≤ x := by
  rcases hx with ⟨_, off, h⟩ | ⟨_, off, h⟩ | ⟨g, hg, h⟩
  · simp [newPs] at h; omega
  · simp [newPs] at h; omega
  · simp [newPs] at hg; subst hg
    rcases h with ⟨h, _⟩ | ⟨h, _⟩ <;> simp at h
/-- The blocks that these pages lie in are no boxes of pages. -/
def PsTy (s : Ps) (w : World) : Prop := ∀ x, PsBl s x → ∃ cs t, w.heap[x]? = some (.cells cs t (0, 0)) ∧ t ≠ 25 ∧ t ≠ 31
theorem newPs_ty (W : World) : PsTy (newPs W.heap.size) ((W.alloc (.cells #[.slice none 0 0, .slice none 0 0] 66)).alloc (.cells #[.int .i64 0] 3)) := by
  have z1 : (W.alloc (.cells #[.slice none 0 0, .slice none 0 0] 66)).heap.size = W.heap.size + 1 := by simp
  have h1 := World.alloc_heap_new W (.cells #[.slice none 0 0, .slice none 0 0] 66)
  have h2 := World.alloc_heap_new (W.alloc (.cells #[.slice none 0 0, .slice none 0 0] 66)) (.cells #[.int .i64 0] 3)
  rw [z1] at h2
  have h1' := (Below.heap_alloc (W.alloc (.cells #[.slice none 0 0, .slice none 0 0] 66)) (.cells #[.int .i64 0] 3) W.heap.size (by omega)).trans h1
  intro x hx
  rcases hx with ⟨_, off, h⟩ | ⟨_, off, h⟩ | ⟨g, hg, h⟩
  · simp [newPs] at h; obtain ⟨rfl, _⟩ := h; exact ⟨_, _, h1', by decide, by decide⟩
  · simp [newPs] at h; obtain ⟨rfl, _⟩ := h; exact ⟨_, _, h2, by decide, by decide⟩
  · simp [newPs] at hg; subst hg
    rcases h with ⟨h, _⟩ | ⟨h, _⟩ <;> simp at h
def NewPost (w : World) (e : Ending) (w' : World) : Prop := ∃ s, e = .returned (psVal s) ∧ PsS s w' ∧ psV s = [⟨[], []⟩] ∧ s.roots = [0] ∧ Below w.heap.size w w' ∧ (∀ x, PsBl s x → w.heap.size ≤ x) ∧ PsTy s w'
set_option maxRecDepth 100000 in
set_option maxHeartbeats 1000000 in
theorem pgNew_any (w : World) : Calls Try.prog 17 #[] w (NewPost w) := by
  go_enter Try.func17, Try.ntmps17
  go_wp2_with fail
  have hz : (w.alloc (.cells #[.slice (some ⟨w.heap.size + 1, 0, none⟩) 1 1, .slice (some ⟨w.heap.size + 1 + 1, 0, none⟩) 1 1] 25)).heap.size = w.heap.size + 1 := by simp
  have hb0 : Below w.heap.size w (w.alloc (.cells #[.slice (some ⟨w.heap.size + 1, 0, none⟩) 1 1, .slice (some ⟨w.heap.size + 1 + 1, 0, none⟩) 1 1] 25)) := (Below.refl _ w).alloc (Nat.le_refl _) _
  have hb := (hb0.alloc (o := .cells #[.slice none 0 0, .slice none 0 0] 66) hb0.size).alloc (o := .cells #[.int .i64 0] 3) (by simp; omega)
  have hin := newPs_in (w.alloc (.cells #[.slice (some ⟨w.heap.size + 1, 0, none⟩) 1 1, .slice (some ⟨w.heap.size + 1 + 1, 0, none⟩) 1 1] 25))
  have h0 := World.alloc_heap_new w (.cells #[.slice (some ⟨w.heap.size + 1, 0, none⟩) 1 1, .slice (some ⟨w.heap.size + 1 + 1, 0, none⟩) 1 1] 25)
  have h0' := (Below.heap_alloc _ (.cells #[.int .i64 0] 3) w.heap.size (by simp; omega)).trans ((Below.heap_alloc _ (.cells #[.slice none 0 0, .slice none 0 0] 66) w.heap.size (by omega)).trans h0)
  have x0 := cell_of_heap (o := 0) h0'
  have x1 := cell_of_heap (o := 1) h0'
  simp only [List.getElem?_toArray, List.getElem?_cons_zero, List.getElem?_cons_succ] at x0 x1
  refine bodyPost_ret (v := .agg #[.slice (some ⟨w.heap.size + 1, 0, none⟩) 1 1, .slice (some ⟨w.heap.size + 1 + 1, 0, none⟩) 1 1]) (by simp [results, Try.results17, go_sem, x0, x1]) rfl ?_
  have hty := newPs_ty (w.alloc (.cells #[.slice (some ⟨w.heap.size + 1, 0, none⟩) 1 1, .slice (some ⟨w.heap.size + 1 + 1, 0, none⟩) 1 1] 25))
  rw [hz] at hin hty
  exact ⟨newPs (w.heap.size + 1), rfl, hin, newPs_psV _, rfl, hb, fun x hx => newPs_bl hx, hty⟩
set_option maxRecDepth 100000 in
set_option maxHeartbeats 1000000 in
theorem fact_any (c k : Int) (w : World) : Calls Try.prog 33 #[.int .i64 c, .int .i64 k] w fun e w' => e = .returned (.agg #[.int .i64 5, .int .i64 4, .int .i64 c, .int .i64 k, .int .i64 0, .int .i64 9, .int .i64 k, .int .i64 0]) ∧ Below w.heap.size w w' := by
  go_enter Try.func33, Try.ntmps33
  go_wp2_with fail
  have h0 := World.alloc_heap_new w (.cells #[.int .i64 5, .int .i64 4, .int .i64 c, .int .i64 k, .int .i64 0, .int .i64 9, .int .i64 k, .int .i64 0] 31)
  have x0 := cell_of_heap (o := 0) h0
  have x1 := cell_of_heap (o := 1) h0
  have x2 := cell_of_heap (o := 2) h0
  have x3 := cell_of_heap (o := 3) h0
  have x4 := cell_of_heap (o := 4) h0
  have x5 := cell_of_heap (o := 5) h0
  have x6 := cell_of_heap (o := 6) h0
  have x7 := cell_of_heap (o := 7) h0
  simp only [List.getElem?_toArray, List.getElem?_cons_zero, List.getElem?_cons_succ] at x0 x1 x2 x3 x4 x5 x6 x7
  refine bodyPost_ret (v := .agg #[.int .i64 5, .int .i64 4, .int .i64 c, .int .i64 k, .int .i64 0, .int .i64 9, .int .i64 k, .int .i64 0]) (by simp [results, Try.results33, go_sem, x0, x1, x2, x3, x4, x5, x6, x7]) rfl ?_
  exact ⟨rfl, (Below.refl _ w).alloc (Nat.le_refl _) _⟩
end Go.Proofs.Ytpnfpdkoeednhaa

