/- A body that holds a range over a function within a loop: the marks of its rounds. Over any program. -/
import Derived.Test.YtbegdcjofnfkiaaGreatDoorM1
namespace Go.Proofs.YtbegdcjofnfkiaaGreatDoor
open Go.RowKit

def markOf (D : Nat) : Deferred := { target := .collected D, args := #[] }
/-- The marks Ds stand open, each once, at or above base. -/
def Marks (base : Nat) (Ds : List Nat) (W : World) : Prop := Ds.Nodup ∧ ∀ D ∈ Ds, base ≤ D ∧ W.heap[D]? = some (.deferred (some []))
theorem Marks.nil (base : Nat) (W : World) : Marks base [] W := ⟨List.nodup_nil, fun _ h => by simp at h⟩
theorem Marks.keep {base : Nat} {Ds : List Nat} {W W' : World} (h : Marks base Ds W) (hk : ∀ D ∈ Ds, W'.heap[D]? = W.heap[D]?) : Marks base Ds W' :=
  ⟨h.1, fun D hD => ⟨(h.2 D hD).1, (hk D hD).trans (h.2 D hD).2⟩⟩
theorem Marks.lt {base : Nat} {Ds : List Nat} {W : World} (h : Marks base Ds W) : ∀ D ∈ Ds, D < W.heap.size := fun D hD => lt_of_heap (h.2 D hD).2
theorem Marks.cons {base D : Nat} {Ds : List Nat} {W : World} (h : Marks base Ds W) (hb : base ≤ D) (hD : W.heap[D]? = some (.deferred (some []))) (hn : D ∉ Ds) : Marks base (D :: Ds) W :=
  ⟨List.nodup_cons.2 ⟨hn, h.1⟩, fun E hE => by
    rcases List.mem_cons.1 hE with rfl | hE
    · exact ⟨hb, hD⟩
    · exact h.2 E hE⟩

theorem leave_marks {P : Program} {fn : Func} {R : Ending → World → Prop} {a : Act} {w : World} {e : Exit} {base : Nat} {Ds : List Nat} (he : e = .ret ∨ e = .normal) (hD : Marks base Ds w) (hd : a.defers = Ds.map markOf)
    (hr : ∀ W', W'.heap.size = w.heap.size → Kept (fun b => b ∈ Ds) w W' → ∃ v, (results fn a.tmps).run P W' = .ok v W' ∧ R (.returned v) W') :
    bodyPostM Fence.wide 0 P fn R e a w := by
  have key : ∀ (Ds : List Nat) (w : World), Marks base Ds w → (∀ W', W'.heap.size = w.heap.size → Kept (fun b => b ∈ Ds) w W' → ∃ v, (results fn a.tmps).run P W' = .ok v W' ∧ R (.returned v) W') → LeavesInM Fence.wide 0 P fn a.tmps R (Ds.map markOf) .returning w := by
    intro Ds
    induction Ds with
    | nil => intro w _ hr; exact hr w rfl (Kept.refl _ _)
    | cons D Ds ih =>
      intro w hM hr
      obtain ⟨hn, hh⟩ := hM
      obtain ⟨hn1, hn2⟩ := List.nodup_cons.1 hn
      refine ⟨by simp, .inl ⟨D, _, rfl, run_takeDeferred (hh D (by simp)).2, ?_⟩⟩
      have hkD : Kept (fun b => b ∈ D :: Ds) w (w.putObj D (.deferred none)) := (Kept.refl _ w).putObj (.inl (by simp)) _
      refine ih (w.putObj D (.deferred none)) ⟨hn2, fun E hE => ⟨(hh E (by simp [hE])).1, (World.putObj_heap_other (by rintro rfl; exact hn1 hE)).trans (hh E (by simp [hE])).2⟩⟩ fun W' hz hk => hr W' (by simpa using hz) (hkD.trans (hk.mono fun b _ hb => by simp [hb]))
  rcases he with rfl | rfl
  · show LeavesInM Fence.wide 0 P fn a.tmps R a.defers .returning w
    rw [hd]
    exact key Ds w hD hr
  · show LeavesInM Fence.wide 0 P fn a.tmps R a.defers .returning w
    rw [hd]
    exact key Ds w hD hr
end Go.Proofs.YtbegdcjofnfkiaaGreatDoor
