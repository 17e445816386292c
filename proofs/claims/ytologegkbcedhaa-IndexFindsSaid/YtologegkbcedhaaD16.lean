/- Proved: for all facts, two times of knowledge and all decisions, exactly those decisions are affected by what has changed of whose reads one is not alike at both times (P7.3, P7.4, P35.1, P35.3, P35.4): the statement IndexFinds holds at every input; no conditions. -/
import Derived.Test.YtologegkbcedhaaH19M
import Derived.Test.YtologegkbcedhaaH9
namespace Go.Proofs.Ytologegkbcedhaa
open Go.RowKit Go.Shelf Go.ChangeShapes Go.WideShapes Go.ChangeAt
set_option maxRecDepth 100000 in
theorem indexFinds_lifted (os : Os) (started : os.Started) (H : Type) (enc : TypeId × Value → H) :
    ReturnsInHanded {} Try.checked os 9 .any (Rows.indexFindsSpec.pre6 enc Try.prog Try.f9 Rows.indexFindsRow.domain false) (Rows.indexFindsSpec.post enc Try.prog Try.f9 false true false false) := by
  have hc := finds_calls
  refine returnsInHanded_of_change_sized (C := Try.checked) Try.own started (by kernel_rfl) Try.func9
    (ChangeSpec.witness6 (enc := enc) (C := Try.checked) false ⟨#[], #[.slice none 0 0, .int .i64 0, .int .i64 0, .slice none 0 0], []⟩ 8 (by kernel_rfl) (by kernel_rfl) (by kernel_rfl) (by kernel_rfl)) ?_
  intro W base args ds gs before hval0 hW hcnd hsz _
  have hval : ∀ (j : Nat) t v, Try.f9.params[j]? = some t → args[j]? = some v → Value.okWide Try.prog W .any base t v := hval0
  have hW' := hW
  obtain ⟨p, q, hA0, hV, rfl, hfz, hnd⟩ := hW
  obtain ⟨rfl, rfl⟩ := trodVars_none hV
  have hA : DataW.TrodAll enc Try.prog W 0 (fun _ => true) true Try.f9.params.toList args.toList ds p := hA0
  have hT0 := hA
  simp only [List.append_nil] at hW'
  rw [Try.params9] at hT0 hval
  obtain ⟨v0, vs0, d0, ds0, p0, q0, e0, f0, g0, h0, hT1⟩ := trodAll_cons hT0
  obtain ⟨v1, vs1, d1, ds1, p1, q1, e1, f1, g1, h1, hT2⟩ := trodAll_cons hT1
  subst e1 f1 g1
  obtain ⟨v2, vs2, d2, ds2, p2, q2, e2, f2, g2, h2, hT3⟩ := trodAll_cons hT2
  subst e2 f2 g2
  obtain ⟨v3, vs3, d3, ds3, p3, q3, e3, f3, g3, h3, hT4⟩ := trodAll_cons hT3
  subst e3 f3 g3
  obtain ⟨e9, f9, g9⟩ := trodAll_nil hT4
  subst e9 f9 g9
  obtain rfl : args = #[v0, v1, v2, v3] := by cases args; simp_all
  subst f0 g0
  clear e0
  obtain ⟨A0, n0, c0, l0, rfl, r0, wf0⟩ := open_rows (en := fEnc) (k := 8) (d := 4) fDec35 Try.underlying54 (by kernel_rfl) (by kernel_rfl) fDec35_enc (by decide) (hval 0 54 v0 rfl rfl) h0
  obtain ⟨z1, rfl, rfl, rfl, wf1⟩ := open_int Try.underlying3 (hval 1 3 v1 rfl rfl) h1
  obtain ⟨z2, rfl, rfl, rfl, wf2⟩ := open_int Try.underlying3 (hval 2 3 v2 rfl rfl) h2
  obtain ⟨A3, n3, c3, l3, rfl, r3, b3, s3⟩ := open_decisions (hval 3 22 v3 rfl rfl) h3 (light_arg hsz (j := 3) rfl rfl)
  refine (hc A0 n0 c0 l0 z1 z2 A3 n3 c3 l3 W r0 r3 (fun x hx => by have := b3 x hx; have := reachBytes_lt; omega)).mono fun e W' ⟨he, hb⟩ => ?_
  subst he
  exact ⟨_, rfl, law_post Try.laidOut hW' hA (by rfl) rfl (by kernel_rfl) Try.underlying4 (of_decide_eq_true (by kernel_rfl)) hb⟩

theorem indexFinds_holds : Rows.IndexFindsSaid :=
  OpenClaim.holds_of_wide 9 Try.f9 rfl rfl rfl rfl rfl rfl rfl ⟨rfl, rfl, rfl, rfl, rfl⟩ rfl rfl rfl rfl rfl (by kernel_rfl) Try.func9 (by kernel_rfl)
    (of_decide_eq_true (by kernel_rfl)) (by unfold Func.isWrapper; rw [if_neg (of_decide_eq_false (by kernel_rfl))]; exact ⟨rfl, rfl⟩)
    (fun os started H enc _ => indexFinds_lifted os started H enc)
theorem indexFinds : Rows.IndexFindsSaid := indexFinds_holds
#print axioms indexFinds
end Go.Proofs.Ytologegkbcedhaa
