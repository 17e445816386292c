/- slices.Sort, slices.Sorted at integers. -/
import Derived.Test.YtologegkbcedhaaG10
import Derived.Test.YtologegkbcedhaaSortI
import Derived.Test.YtologegkbcedhaaShelfI
namespace Go.Proofs.Ytologegkbcedhaa
open Go.RowKit Go.Shelf Go.Sort

theorem sortI_own (base n : Nat) (v : Value) (l : List Int) (w : World) (hown : w.ownsRow base 3 1 v n (l.flatMap iEnc)) (hbase : base ≤ w.heap.size) (hn : n < 4611686018427387904) :
    Calls Try.prog 60 #[v] w fun e w' => e = .returned (.tuple #[]) ∧ w'.ownsRow base 3 1 v n ((l.mergeSort fun x y => decide (x ≤ y)).flatMap iEnc) ∧ Below base w w' := by
  have hlen := own_len iEnc_len (by decide) hown
  rcases hown.2 with ⟨rfl, rfl⟩ | ⟨G, cap, _, rfl, _⟩
  · have hl : l = [] := List.eq_nil_of_length_eq_zero hlen.symm
    subst hl
    exact (AnyG.slices_Sort_int_none Try.sortI none 0 w).mono fun e w' ⟨he, hb⟩ => by subst hb; exact ⟨he, by simpa using World.ownsRow_nil _ _ _ _, Below.refl _ _⟩
  · have hG := (hown.lt G rfl).1
    exact (sortI_kept (ρ := Try.sortI_ren) Try.sortI l hown hn).mono fun e w' ⟨he, h1, h2⟩ => ⟨he, h1, h2.toBelow hbase fun b hb h => by omega⟩

def SortedIPost (R : List Int → Prop) (w : World) (e : Ending) (w' : World) : Prop := ∃ (v : Value) (xs : List Int), e = .returned v ∧ R xs ∧ w'.ownsRow w.heap.size 3 1 v xs.length ((xs.mergeSort fun x y => decide (x ≤ y)).flatMap iEnc) ∧ Below w.heap.size w w'
set_option maxHeartbeats 400000 in
theorem sortedI_any (gf : Nat) (lb : Array Value) (eg : ∀ args w, (callFunc gf args).run Try.prog w = .ok (.enter gf args) w) (R : List Int → Prop) (S : Nat → Prop) (w : World)
    (hseq : SeqG Try.prog gf lb (fun x : Int => #[.int .i64 x]) R S w) (hS : ∀ b, S b → b < w.heap.size) (hR : ∀ xs, R xs → xs.length ≤ 1000000) :
    Calls Try.prog 39 #[.func (.func gf) #[] lb] w (SortedIPost R w) := by
  go_enter Try.func39, Try.ntmps39
  go_wp2_with fail
  refine (collectI_any gf lb eg R S w hseq hS hR).mono ?_
  rintro e w1 ⟨v, xs, rfl, h1, h2, h3⟩
  have H1 := hidp h1
  have H2 := hidp h2
  have hx := hR xs h1
  clear h1 h2
  go_wp2_with fail
  refine (sortI_own _ _ v xs _ H2.out h3.size (by omega)).mono ?_
  rintro e w2 ⟨rfl, ho, hb⟩
  have HO := hidp ho
  clear ho
  go_wp2_with fail
  go_ret
  exact ⟨v, xs, rfl, H1.out, HO.out, h3.trans hb⟩
end Go.Proofs.Ytologegkbcedhaa
