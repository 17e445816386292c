/- Few facts: few that fulfil; what Rows answers. -/
import Derived.Test.YtbegdcjofnfkiaaGreatDoorJ17
import Derived.Test.YtbegdcjofnfkiaaGreatDoorJ22
namespace Go.Proofs.YtbegdcjofnfkiaaGreatDoor
open Go.RowKit Go.Shelf Go.Sort

theorem few_ful {q y : Qu} {l : List Fc} (hp : (domR l).length ^ q.names.length ≤ 4096) (hn : y.names.length = q.names.length) : (fulJ y l).length ≤ 65535 := by
  have h1 := fulF_len l (domR l) (cndsJ y) y.names.length []
  rw [hn] at h1
  unfold fulJ
  rw [hn]
  omega
theorem rowsE_cases (q : Qu) : (rowsE q = 0 ∧ checkJ wdJ q = true) ∨ (rowsE q = 500 ∧ checkJ wdJ q = false) := by
  unfold rowsE
  cases h : checkJ wdJ q with
  | true => exact .inl ⟨rfl, rfl⟩
  | false => exact .inr ⟨rfl, rfl⟩
theorem rowsV_ok {q : Qu} {l : List Fc} (h : checkJ wdJ q = true) : rowsV q l = rowsJ q l := by unfold rowsV; rw [if_pos h]
end Go.Proofs.YtbegdcjofnfkiaaGreatDoor
