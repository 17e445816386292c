/- Plain laws for slices' functions (first index, delete, cut), over any element. -/
import Derived.Test.YtoalmffhiinbbaaPut
namespace Go.Proofs.Ytoalmffhiinbbaa
open Go.RowKit

theorem info_size {P : Program} {t : TypeId} {k : Nat} (h : (P.info? t).map (fun i => i.size) = some k) : ∃ i, P.info? t = some i ∧ i.size = k := by
  cases hi : P.info? t with
  | none => simp [hi] at h
  | some i => exact ⟨i, rfl, by simpa [hi] using h⟩
section
variable {α : Type}
def firstM (p : α → Bool) (l : List α) : Int := match l.findIdx? p with | some i => i | none => -1
theorem firstM_ge (p : α → Bool) (l : List α) : decide (0 ≤ firstM p l) = l.any p := by
  unfold firstM
  cases h : l.findIdx? p with
  | none =>
    rw [List.findIdx?_eq_none_iff] at h
    have : l.any p = false := by rw [List.any_eq_false]; intro x hx; simpa using h x hx
    simp [this]
  | some i =>
    obtain ⟨hi, hp, _⟩ := List.findIdx?_eq_some_iff_getElem.1 h
    have : l.any p = true := by rw [List.any_eq_true]; exact ⟨l[i], List.getElem_mem hi, hp⟩
    simp [this]
theorem firstM_at {p : α → Bool} {l : List α} {k : Nat} {x : α} (hk : l[k]? = some x) (hx : p x = true) (h : (l.take k).all (fun m => !p m) = true) : firstM p l = k := by
  have : l.findIdx? p = some k := by
    obtain ⟨hk', hx'⟩ := List.getElem?_eq_some_iff.1 hk
    rw [List.findIdx?_eq_some_iff_getElem]
    refine ⟨hk', by rw [hx']; exact hx, fun j hj => ?_⟩
    have := List.all_eq_true.1 h l[j] (List.mem_take_iff_getElem.2 ⟨j, by omega, rfl⟩)
    simpa using this
  rw [firstM, this]
theorem firstM_no {p : α → Bool} {l : List α} (h : l.all (fun m => !p m) = true) : firstM p l = -1 := by
  have : l.findIdx? p = none := by
    rw [List.findIdx?_eq_none_iff]
    intro x hx
    simpa using List.all_eq_true.1 h x hx
  rw [firstM, this]
theorem firstM_none {p : α → Bool} {l : List α} (h : firstM p l < 0) : firstM p l = -1 ∧ l.filter (fun m => !p m) = l := by
  unfold firstM at *
  cases hf : l.findIdx? p with
  | none =>
    refine ⟨rfl, ?_⟩
    rw [List.findIdx?_eq_none_iff] at hf
    exact List.filter_eq_self.2 fun m hm => by simp [hf m hm]
  | some i => rw [hf] at h; simp at h; omega
theorem firstM_some {p : α → Bool} {l : List α} (h : 0 ≤ firstM p l) : ∃ i : Nat, firstM p l = i ∧ i < l.length ∧ (l.take (i + 1)).filter (fun m => !p m) = l.take i := by
  unfold firstM at *
  cases hf : l.findIdx? p with
  | none => rw [hf] at h; simp at h
  | some i =>
    rw [List.findIdx?_eq_some_iff_getElem] at hf
    obtain ⟨hi, hp, hno⟩ := hf
    refine ⟨i, rfl, hi, ?_⟩
    rw [take_snoc (List.getElem?_eq_getElem hi), List.filter_append]
    have h1 : (l.take i).filter (fun m => !p m) = l.take i := List.filter_eq_self.2 fun m hm => by
      obtain ⟨j, hj, rfl⟩ := List.mem_take_iff_getElem.1 hm
      have := hno j (by omega)
      simpa using this
    rw [h1]
    simp [hp]
theorem take_eq_step {a b : List α} {k : Nat} {x y : α} (h : a.take k = b.take k) (hx : a[k]? = some x) (hy : b[k]? = some y) (he : x = y) : a.take (k + 1) = b.take (k + 1) := by
  rw [take_snoc hx, take_snoc hy, h, he]
end
end Go.Proofs.Ytoalmffhiinbbaa
