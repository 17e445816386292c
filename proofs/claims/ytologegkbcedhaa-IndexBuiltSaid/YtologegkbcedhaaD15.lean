/- Proved: for all decisions, the index is valid for their number, each read of each of them has its link, and each link is that of a read (P35.1, P35.4): the statement IndexBuilt holds at every input; no conditions. -/
import Derived.Test.YtologegkbcedhaaH18
import Derived.Test.YtologegkbcedhaaH9
namespace Go.Proofs.Ytologegkbcedhaa
open Go.RowKit Go.Shelf Go.ChangeShapes Go.WideShapes Go.ChangeAt
set_option maxRecDepth 100000 in
theorem indexBuilt_lifted (os : Os) (started : os.Started) (H : Type) (enc : TypeId × Value → H) :
    ReturnsInHanded {} Try.checked os 6 .any (Rows.indexBuiltSpec.pre6 enc Try.prog Try.f6 Rows.indexBuiltRow.domain false) (Rows.indexBuiltSpec.post enc Try.prog Try.f6 false true false false) := by
  have hc := built_calls
  refine returnsInHanded_of_change_sized (C := Try.checked) Try.own started (by kernel_rfl) Try.func6
    (ChangeSpec.witness6 (enc := enc) (C := Try.checked) false ⟨#[], #[.slice none 0 0], []⟩ 8 (by kernel_rfl) (by kernel_rfl) (by kernel_rfl) (by kernel_rfl)) ?_
  intro W base args ds gs before hval0 hW hcnd hsz _
  have hval : ∀ (j : Nat) t v, Try.f6.params[j]? = some t → args[j]? = some v → Value.okWide Try.prog W .any base t v := hval0
  have hW' := hW
  obtain ⟨p, q, hA0, hV, rfl, hfz, hnd⟩ := hW
  obtain ⟨rfl, rfl⟩ := trodVars_none hV
  have hA : DataW.TrodAll enc Try.prog W 0 (fun _ => true) true Try.f6.params.toList args.toList ds p := hA0
  have hT0 := hA
  simp only [List.append_nil] at hW'
  rw [Try.params6] at hT0 hval
  obtain ⟨v0, vs0, d0, ds0, p0, q0, e0, f0, g0, h0, hT1⟩ := trodAll_cons hT0
  obtain ⟨e9, f9, g9⟩ := trodAll_nil hT1
  subst e9 f9 g9
  obtain rfl : args = #[v0] := by cases args; simp_all
  subst f0 g0
  clear e0
  obtain ⟨A0, n0, c0, l0, rfl, r0, b0, s0⟩ := open_decisions (hval 0 22 v0 rfl rfl) h0 (light_arg hsz (j := 0) rfl rfl)
  refine (hc A0 n0 c0 l0 W r0 (fun x hx => by have := b0 x hx; have := reachBytes_lt; omega)).mono fun e W' ⟨he, hb⟩ => ?_
  subst he
  exact ⟨_, rfl, law_post Try.laidOut hW' hA (by rfl) rfl (by kernel_rfl) Try.underlying4 (of_decide_eq_true (by kernel_rfl)) hb⟩

theorem indexBuilt_holds : Rows.IndexBuiltSaid :=
  OpenClaim.holds_of_wide 6 Try.f6 rfl rfl rfl rfl rfl rfl rfl ⟨rfl, rfl, rfl, rfl, rfl⟩ rfl rfl rfl rfl rfl (by kernel_rfl) Try.func6 (by kernel_rfl)
    (of_decide_eq_true (by kernel_rfl)) (by unfold Func.isWrapper; rw [if_neg (of_decide_eq_false (by kernel_rfl))]; exact ⟨rfl, rfl⟩)
    (fun os started H enc _ => indexBuilt_lifted os started H enc)
theorem indexBuilt : Rows.IndexBuiltSaid := indexBuilt_holds
#print axioms indexBuilt
end Go.Proofs.Ytologegkbcedhaa
