/- Proved: for every index and all changes in two parts, what is affected by both is affected by one of them, and after a decision was replaced by one without reads it is not affected (P35.2, P35.3): the statement IndexMore holds at every input; no conditions. -/
import Derived.Test.YtologegkbcedhaaH16
import Derived.Test.YtologegkbcedhaaH9
namespace Go.Proofs.Ytologegkbcedhaa
open Go.RowKit Go.Shelf Go.ChangeShapes Go.WideShapes Go.ChangeAt
set_option maxRecDepth 100000 in
theorem indexMore_lifted (os : Os) (started : os.Started) (H : Type) (enc : TypeId × Value → H) :
    ReturnsInHanded {} Try.checked os 8 .any (Rows.indexMoreSpec.pre6 enc Try.prog Try.f8 Rows.indexMoreRow.domain false) (Rows.indexMoreSpec.post enc Try.prog Try.f8 false true false false) := by
  have hc := more_calls
  refine returnsInHanded_of_change_sized (C := Try.checked) Try.own started (by kernel_rfl) Try.func8
    (ChangeSpec.witness6 (enc := enc) (C := Try.checked) false ⟨#[], #[.agg #[.slice none 0 0], .slice none 0 0, .slice none 0 0, .int .i64 0], []⟩ 8 (by kernel_rfl) (by kernel_rfl) (by kernel_rfl) (by kernel_rfl)) ?_
  intro W base args ds gs before hval0 hW hcnd hsz _
  have hval : ∀ (j : Nat) t v, Try.f8.params[j]? = some t → args[j]? = some v → Value.okWide Try.prog W .any base t v := hval0
  have hW' := hW
  obtain ⟨p, q, hA0, hV, rfl, hfz, hnd⟩ := hW
  obtain ⟨rfl, rfl⟩ := trodVars_none hV
  have hA : DataW.TrodAll enc Try.prog W 0 (fun _ => true) true Try.f8.params.toList args.toList ds p := hA0
  have hT0 := hA
  simp only [List.append_nil] at hW'
  rw [Try.params8] at hT0 hval
  obtain ⟨v0, vs0, d0, ds0, p0, q0, e0, f0, g0, h0, hT1⟩ := trodAll_cons hT0
  obtain ⟨v1, vs1, d1, ds1, p1, q1, e1, f1, g1, h1, hT2⟩ := trodAll_cons hT1
  subst e1 f1 g1
  obtain ⟨v2, vs2, d2, ds2, p2, q2, e2, f2, g2, h2, hT3⟩ := trodAll_cons hT2
  subst e2 f2 g2
  obtain ⟨v3, vs3, d3, ds3, p3, q3, e3, f3, g3, h3, hT4⟩ := trodAll_cons hT3
  subst e3 f3 g3
  obtain ⟨e9, f9, g9⟩ := trodAll_nil hT4
  subst e9 f9 g9
  obtain rfl : args = #[v0, v1, v2, v3] := by cases args; simp_all
  subst f0 g0
  clear e0
  obtain ⟨A0, n0, c0, l0, rfl, r0⟩ := open_index (hval 0 28 v0 rfl rfl) h0 (light_arg hsz (j := 0) rfl rfl)
  obtain ⟨A1, n1, c1, raw1, cs1, rfl, r1, o1⟩ := open_changes (hval 1 41 v1 rfl rfl) h1 (light_arg hsz (j := 1) rfl rfl)
  obtain ⟨A2, n2, c2, raw2, cs2, rfl, r2, o2⟩ := open_changes (hval 2 41 v2 rfl rfl) h2 (light_arg hsz (j := 2) rfl rfl)
  obtain ⟨z3, rfl, rfl, rfl, wf3⟩ := open_int Try.underlying3 (hval 3 3 v3 rfl rfl) h3
  refine (hc A0 n0 c0 l0 A1 n1 c1 raw1 cs1 A2 n2 c2 raw2 cs2 z3 W r0 r1 o1 r2 o2).mono fun e W' ⟨he, hb⟩ => ?_
  subst he
  exact ⟨_, rfl, law_post Try.laidOut hW' hA (by rfl) rfl (by kernel_rfl) Try.underlying4 (of_decide_eq_true (by kernel_rfl)) hb⟩

theorem indexMore_holds : Rows.IndexMoreSaid :=
  OpenClaim.holds_of_wide 8 Try.f8 rfl rfl rfl rfl rfl rfl rfl ⟨rfl, rfl, rfl, rfl, rfl⟩ rfl rfl rfl rfl rfl (by kernel_rfl) Try.func8 (by kernel_rfl)
    (of_decide_eq_true (by kernel_rfl)) (by unfold Func.isWrapper; rw [if_neg (of_decide_eq_false (by kernel_rfl))]; exact ⟨rfl, rfl⟩)
    (fun os started H enc _ => indexMore_lifted os started H enc)
theorem indexMore : Rows.IndexMoreSaid := indexMore_holds
#print axioms indexMore
end Go.Proofs.Ytologegkbcedhaa
