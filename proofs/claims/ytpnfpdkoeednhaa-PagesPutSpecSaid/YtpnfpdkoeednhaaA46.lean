/- The reference's New. -/
import Derived.Test.YtpnfpdkoeednhaaMK
namespace Go.Proofs.Ytpnfpdkoeednhaa
open Go.RowKit Go.Shelf

set_option maxRecDepth 100000 in
set_option maxHeartbeats 1000000 in
theorem r47New_any (w : World) : Calls Try.prog 18 #[] w (NewPost w) := by
  go_enter Try.func18, Try.ntmps18
  go_wp2_with fail
  have hz : (w.alloc (.cells #[.slice (some ⟨w.heap.size + 1, 0, none⟩) 1 1, .slice (some ⟨w.heap.size + 1 + 1, 0, none⟩) 1 1] 25)).heap.size = w.heap.size + 1 := by simp
  have hb0 : Below w.heap.size w (w.alloc (.cells #[.slice (some ⟨w.heap.size + 1, 0, none⟩) 1 1, .slice (some ⟨w.heap.size + 1 + 1, 0, none⟩) 1 1] 25)) := (Below.refl _ w).alloc (Nat.le_refl _) _
  have hb := (hb0.alloc (o := .cells #[.slice none 0 0, .slice none 0 0] 66) hb0.size).alloc (o := .cells #[.int .i64 0] 3) (by simp; omega)
  have hin := newPs_in (w.alloc (.cells #[.slice (some ⟨w.heap.size + 1, 0, none⟩) 1 1, .slice (some ⟨w.heap.size + 1 + 1, 0, none⟩) 1 1] 25))
  have h0 := World.alloc_heap_new w (.cells #[.slice (some ⟨w.heap.size + 1, 0, none⟩) 1 1, .slice (some ⟨w.heap.size + 1 + 1, 0, none⟩) 1 1] 25)
  have h0' := (Below.heap_alloc _ (.cells #[.int .i64 0] 3) w.heap.size (by simp; omega)).trans ((Below.heap_alloc _ (.cells #[.slice none 0 0, .slice none 0 0] 66) w.heap.size (by omega)).trans h0)
  have x0 := cell_of_heap (o := 0) h0'
  have x1 := cell_of_heap (o := 1) h0'
  simp only [List.getElem?_toArray, List.getElem?_cons_zero, List.getElem?_cons_succ] at x0 x1
  refine bodyPost_ret (v := .agg #[.slice (some ⟨w.heap.size + 1, 0, none⟩) 1 1, .slice (some ⟨w.heap.size + 1 + 1, 0, none⟩) 1 1]) (by simp [results, Try.results18, go_sem, x0, x1]) rfl ?_
  have hty := newPs_ty (w.alloc (.cells #[.slice (some ⟨w.heap.size + 1, 0, none⟩) 1 1, .slice (some ⟨w.heap.size + 1 + 1, 0, none⟩) 1 1] 25))
  rw [hz] at hin hty
  exact ⟨newPs (w.heap.size + 1), rfl, hin, newPs_psV _, rfl, hb, fun x hx => newPs_bl hx, hty⟩
end Go.Proofs.Ytpnfpdkoeednhaa

