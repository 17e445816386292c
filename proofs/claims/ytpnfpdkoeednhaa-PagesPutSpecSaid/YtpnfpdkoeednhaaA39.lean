/- The reference's walk from a root; how many levels (printed by tools/gen151.py). -/
import Derived.Test.YtpnfpdkoeednhaaA38
import Derived.Test.YtpnfpdkoeednhaaAP17
import Derived.BigQuiet
namespace Go.Proofs.Ytpnfpdkoeednhaa
open Go.RowKit Go.Shelf

def TopPost (s : Ps) (q : Nat) (w : World) (e : Ending) (w' : World) : Prop :=
  Below w.heap.size w w' ∧ (walkP (psV s) q true [] = none → e = .returned (.tuple #[.slice none 0 0, .int .i64 0, .bool false])) ∧
  ∀ m d, walkP (psV s) q true [] = some (m, d) → ∃ A c, e = .returned (.tuple #[.slice A m.length c, .int .i64 (d : Nat), .bool true]) ∧ fSl w' w'.heap.size A m.length c m
theorem walk_top (s : Ps) (q : Nat) (w : World) (hq : q < s.gs.length) (hps : PsIn s w w.heap.size) (hsm : ∀ g ∈ s.gs, g.fn ≤ 1000000 ∧ g.kn ≤ 1000000) (hT : ((psV s).flatMap (·.facts)).length ≤ 1000000) :
    Calls Try.prog 45 #[psVal s, .int .i64 q, .bool true, .slice none 0 0] w (TopPost s q w) := by
  refine (r47walk_any s w.heap.size w.heap.size (Nat.le_refl _) hsm hT (q + 1) q (by omega) _ (List.getElem?_eq_getElem hq) true [] (.slice none 0 0) w hps (Nat.le_refl _) (by simpa using World.ownsRow_nil _ _ _ _) (InvM.nil _)).mono ?_
  rintro e w' ⟨hk, h1, h2⟩
  refine ⟨hk.toBelow (Nat.le_refl _) (fun b _ h => by cases h), h1, fun m d hm => ?_⟩
  obtain ⟨v, rfl, ho, _⟩ := h2 m d hm
  obtain ⟨A, c, rfl, hr⟩ := own_rows fEnc_len (by decide) ho
  exact ⟨A, c, rfl, hr⟩
theorem few_sum {ps : List Pv} {roots : List Int} (hf : fewP ps roots = true) : (ps.flatMap (·.facts)).length ≤ 1000000 := by
  obtain ⟨h1, h2, _⟩ := few_parts hf
  have := fewG_len h1
  omega
end Go.Proofs.Ytpnfpdkoeednhaa

