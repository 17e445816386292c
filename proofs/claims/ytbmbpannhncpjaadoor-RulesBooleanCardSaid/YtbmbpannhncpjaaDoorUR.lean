/- Rules that a law builds in memory. -/
import Derived.Test.YtbmbpannhncpjaaDoorUP4
import Derived.Test.YtbmbpannhncpjaaDoorPut
namespace Go.Proofs.YtbmbpannhncpjaaDoor
open Go.RowKit

theorem Ru.enc_len (x : Ru) : x.enc.length = 6 := rfl
theorem Ru.enc_one (x : Ru) : ∀ u ∈ x.enc, u.oneCell' = true := by
  intro u hu; simp [Ru.enc] at hu; rcases hu with rfl | rfl | rfl | rfl | rfl | rfl <;> rfl
/-- Rows of rules whose kids lie in memory. -/
theorem ruSl_flat {h : Nat} {W : World} {n₀ n c : Nat} {A : Option Addr} {l : List Ru} (hf : Rows 6 (Rep.flat Ru.enc) W n₀ A n c l) (hk : ∀ x ∈ l, RuIn h W n₀ x) : ruSl (h + 1) W n₀ A n c l := by
  refine ⟨hf.1, hf.2.1, hf.2.2.1, fun hn => ?_⟩
  obtain ⟨b, off, e, hlt, hx⟩ := hf.2.2.2 hn
  refine ⟨b, off, e, hlt, fun i x hi => ?_⟩
  obtain ⟨cs, rfl, hc⟩ := hx i x hi
  exact ⟨_, ⟨rfl, hk x (List.mem_of_getElem? hi)⟩, hc⟩
/-- A list of one rule, in a block of its own. -/
theorem ru_one {h : Nat} {W : World} {n₀ b : Nat} {x : Ru} {t : TypeId} {fr : Nat × Nat} (hh : W.heap[b]? = some (.cells x.enc.toArray t fr)) (hb : b < n₀) (hr : RuIn h W n₀ x) : ruSl (h + 1) W n₀ (some ⟨b, 0, none⟩) 1 1 [x] := by
  refine ⟨rfl, Nat.le_refl _, by decide, fun _ => ⟨b, 0, rfl, hb, fun i y hi => ?_⟩⟩
  match i, hi with
  | 0, hi =>
    obtain rfl := Option.some.inj hi
    refine ⟨_, ⟨rfl, hr⟩, fun j u hj => ?_⟩
    rw [cell_of_heap hh]
    simpa using hj
/-- A negation, its kid in a block of its own. -/
def notR (b : Nat) (x : Ru) : Ru := .mk 4 0 ⟨#[]⟩ 0 0 (some ⟨b, 0, none⟩) 1 1 [x]
theorem notR_in {h : Nat} {W : World} {n₀ b : Nat} {x : Ru} {t : TypeId} {fr : Nat × Nat} (hh : W.heap[b]? = some (.cells x.enc.toArray t fr)) (hb : b < n₀) (hr : RuIn h W n₀ x) : RuIn (h + 1) W n₀ (notR b x) := ru_one hh hb hr
theorem valR_notR (s : Si) (b : Nat) (x : Ru) : valR s (notR b x) = !valR s x := val_not s _ _ _ _ _ _ _ x
def allR (A : Option Addr) (n c : Nat) (l : List Ru) : Ru := .mk 1 0 ⟨#[]⟩ 0 0 A n c l
def anyR (A : Option Addr) (n c : Nat) (l : List Ru) : Ru := .mk 2 0 ⟨#[]⟩ 0 0 A n c l
def leastR (k : Int) (A : Option Addr) (n c : Nat) (l : List Ru) : Ru := .mk 3 0 ⟨#[]⟩ k 0 A n c l
end Go.Proofs.YtbmbpannhncpjaaDoor
