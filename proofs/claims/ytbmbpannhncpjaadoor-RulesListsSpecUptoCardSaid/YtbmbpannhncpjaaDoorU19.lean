/- The chapter's examples, plainly. -/
import Derived.Test.YtbmbpannhncpjaaDoorU18
import Derived.Test.YtbmbpannhncpjaaDoorU11
import Derived.Test.YtbmbpannhncpjaaDoorU8
namespace Go.Proofs.YtbmbpannhncpjaaDoor
open Go.RowKit

def s0 : Si := ⟨none, 0, 0, 0, 0, 1, []⟩
def ex1 : Ru := .mk 1 0 ⟨#[]⟩ 0 0 none 0 0 []
def ex2 : Ru := .mk 2 0 ⟨#[]⟩ 0 0 none 0 0 []
def ex3 : Ru := .mk 5 3 ⟨#[]⟩ 0 0 none 0 0 []
def ex6 (b : Nat) : Ru := .mk 3 0 ⟨#[]⟩ 2 0 (some ⟨b, 0, none⟩) 3 3 [ex1, ex1, ex1]
def ex5 : Ru := .mk 5 3 ⟨#[88]⟩ 5 0 none 0 0 []
def ex4 (b : Nat) : Ru := .mk 4 0 ⟨#[]⟩ 0 0 (some ⟨b, 0, none⟩) 1 1 [ex5]
def exR (b b' : Nat) : Ru := .mk 1 0 ⟨#[]⟩ 0 0 (some ⟨b, 0, none⟩) 3 3 [ex5, ex3, ex4 b']
def ex0 : Ru := .mk 0 0 ⟨#[]⟩ 0 0 none 0 0 []
def exN : Ru := .mk 4 0 ⟨#[]⟩ 0 0 none 0 0 []
def sZ : Si := ⟨none, 0, 0, 0, 0, 0, []⟩
theorem h_ex1 : holdsB ex1 s0 = true ∧ holdsE ex1 s0 = 0 := by decide +kernel
theorem h_ex2 : holdsB ex2 s0 = false ∧ holdsE ex2 s0 = 0 := by decide +kernel
theorem h_ex3 : holdsB ex3 s0 = false ∧ holdsE ex3 s0 = 0 := by decide +kernel
theorem h_ex6 (b : Nat) : holdsB (ex6 b) s0 = true ∧ holdsE (ex6 b) s0 = 0 := ⟨by kernel_rfl, by kernel_rfl⟩
theorem c_ex0 : checkB ex0 = false := by decide +kernel
theorem c_exN : checkB exN = false := by decide +kernel
theorem f_sZ : fitsB sZ = false := by decide +kernel
theorem f_s0 : fitsB s0 = true := by decide +kernel
theorem c_exR (b b' : Nat) : checkB (exR b b') = true := by kernel_rfl
theorem d_ex1 : maxD (partsD 1 ex1) = 1 := by decide +kernel
theorem d_exR (b b' : Nat) : maxD (partsD 1 (exR b b')) = 3 := by kernel_rfl
theorem a_exR (b b' : Nat) : atSet (partsD 1 (exR b b')) = [⟨5, 3, 5, 0⟩, ⟨5, 3, 0, 0⟩] := by kernel_rfl
theorem k_exR (b b' : Nat) : courseSet (partsD 1 (exR b b')) = [3] := by kernel_rfl
theorem p_exR (b b' : Nat) : (partsD 1 (exR b b')).length = 5 := by kernel_rfl
theorem leaf_in {x : Ru} {h : Nat} {W : World} {n₀ : Nat} (hk : x.kids = []) (hn : x.kn = 0) (hc : x.kc = 0) : RuIn h W n₀ x := by
  unfold RuIn
  rw [hk, hn, hc]
  exact Rows.nil (by decide)
theorem s0_in (W : World) (n₀ : Nat) : SiIn W n₀ s0 := Rows.nil (by decide)
theorem sZ_in (W : World) (n₀ : Nat) : SiIn W n₀ sZ := Rows.nil (by decide)
theorem ex6_in {W : World} {b n₀ : Nat} {fr : Nat × Nat} (h : W.heap[b]? = some (.cells #[.int .i64 1, .int .i64 0, .string ⟨#[]⟩, .int .i64 0, .int .i64 0, .slice none 0 0, .int .i64 1, .int .i64 0, .string ⟨#[]⟩, .int .i64 0, .int .i64 0, .slice none 0 0, .int .i64 1, .int .i64 0, .string ⟨#[]⟩, .int .i64 0, .int .i64 0, .slice none 0 0] 24 fr)) (hb : b < n₀) : RuIn 1 W n₀ (ex6 b) := by
  refine ⟨rfl, Nat.le_refl _, show (3 : Nat) ≤ 9223372036854775807 by decide, fun _ => ⟨b, 0, rfl, hb, fun i x hi => ?_⟩⟩
  match i, hi with
  | 0, hi => obtain rfl := Option.some.inj hi; exact ⟨_, ⟨rfl, leaf_in rfl rfl rfl⟩, fun j u hj => by rw [cell_of_heap h]; match j, hj with | 0, hj => exact hj | 1, hj => exact hj | 2, hj => exact hj | 3, hj => exact hj | 4, hj => exact hj | 5, hj => exact hj⟩
  | 1, hi => obtain rfl := Option.some.inj hi; exact ⟨_, ⟨rfl, leaf_in rfl rfl rfl⟩, fun j u hj => by rw [cell_of_heap h]; match j, hj with | 0, hj => exact hj | 1, hj => exact hj | 2, hj => exact hj | 3, hj => exact hj | 4, hj => exact hj | 5, hj => exact hj⟩
  | 2, hi => obtain rfl := Option.some.inj hi; exact ⟨_, ⟨rfl, leaf_in rfl rfl rfl⟩, fun j u hj => by rw [cell_of_heap h]; match j, hj with | 0, hj => exact hj | 1, hj => exact hj | 2, hj => exact hj | 3, hj => exact hj | 4, hj => exact hj | 5, hj => exact hj⟩
theorem exR_in {W : World} {b b' n₀ : Nat} {fr fr' : Nat × Nat} (h : W.heap[b]? = some (.cells #[.int .i64 5, .int .i64 3, .string ⟨#[88]⟩, .int .i64 5, .int .i64 0, .slice none 0 0, .int .i64 5, .int .i64 3, .string ⟨#[]⟩, .int .i64 0, .int .i64 0, .slice none 0 0, .int .i64 4, .int .i64 0, .string ⟨#[]⟩, .int .i64 0, .int .i64 0, .slice (some ⟨b', 0, none⟩) 1 1] 24 fr))
    (h' : W.heap[b']? = some (.cells #[.int .i64 5, .int .i64 3, .string ⟨#[88]⟩, .int .i64 5, .int .i64 0, .slice none 0 0] 24 fr')) (hb : b < n₀) (hb' : b' < n₀) : RuIn 2 W n₀ (exR b b') := by
  refine ⟨rfl, Nat.le_refl _, show (3 : Nat) ≤ 9223372036854775807 by decide, fun _ => ⟨b, 0, rfl, hb, fun i x hi => ?_⟩⟩
  match i, hi with
  | 0, hi => obtain rfl := Option.some.inj hi; exact ⟨_, ⟨rfl, leaf_in rfl rfl rfl⟩, fun j u hj => by rw [cell_of_heap h]; match j, hj with | 0, hj => exact hj | 1, hj => exact hj | 2, hj => exact hj | 3, hj => exact hj | 4, hj => exact hj | 5, hj => exact hj⟩
  | 1, hi => obtain rfl := Option.some.inj hi; exact ⟨_, ⟨rfl, leaf_in rfl rfl rfl⟩, fun j u hj => by rw [cell_of_heap h]; match j, hj with | 0, hj => exact hj | 1, hj => exact hj | 2, hj => exact hj | 3, hj => exact hj | 4, hj => exact hj | 5, hj => exact hj⟩
  | 2, hi =>
    obtain rfl := Option.some.inj hi
    refine ⟨_, ⟨rfl, ⟨rfl, Nat.le_refl _, show (1 : Nat) ≤ 9223372036854775807 by decide, fun _ => ⟨b', 0, rfl, hb', fun i x hi => ?_⟩⟩⟩, fun j u hj => by rw [cell_of_heap h]; match j, hj with | 0, hj => exact hj | 1, hj => exact hj | 2, hj => exact hj | 3, hj => exact hj | 4, hj => exact hj | 5, hj => exact hj⟩
    match i, hi with
    | 0, hi => obtain rfl := Option.some.inj hi; exact ⟨_, ⟨rfl, leaf_in rfl rfl rfl⟩, fun j u hj => by rw [cell_of_heap h']; match j, hj with | 0, hj => exact hj | 1, hj => exact hj | 2, hj => exact hj | 3, hj => exact hj | 4, hj => exact hj | 5, hj => exact hj⟩
end Go.Proofs.YtbmbpannhncpjaaDoor
