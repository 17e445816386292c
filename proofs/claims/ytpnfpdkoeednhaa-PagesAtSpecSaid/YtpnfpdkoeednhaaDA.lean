/- Proved: for all pages, valid or not, every version, key, term and time, At, All and Reach agree with the reference (P47.3): the statement PagesAtSpec holds at every input; no conditions. -/
import Derived.Test.YtpnfpdkoeednhaaA45
import Derived.Test.YtpnfpdkoeednhaaPD
namespace Go.Proofs.Ytpnfpdkoeednhaa
open Go.RowKit Go.Shelf Go.ChangeShapes Go.WideShapes Go.ChangeAt
set_option maxRecDepth 100000 in
theorem pagesAtSpec_lifted (os : Os) (started : os.Started) (H : Type) (enc : TypeId × Value → H) :
    ReturnsInHanded {} Try.checked os 4 .any (Rows.pagesAtSpecSpec.pre6 enc Try.prog Try.f4 Rows.pagesAtSpecRow.domain false) (Rows.pagesAtSpecSpec.post enc Try.prog Try.f4 false true false false) := by
  have hc := atP_any
  refine returnsInHanded_of_change_sized (C := Try.checked) Try.own started (by kernel_rfl) Try.func4
    (ChangeSpec.witness6 (enc := enc) (C := Try.checked) false ⟨#[], #[.agg #[.slice none 0 0, .slice none 0 0], .int .i64 0, .agg #[.int .i64 0, .int .i64 0, .int .i64 0], .int .i64 0, .int .i64 0], []⟩ 8 (by kernel_rfl) (by kernel_rfl) (by kernel_rfl) (by kernel_rfl)) ?_
  intro W base args ds gs before hval0 hW hcnd hsz _
  have hval : ∀ (j : Nat) t v, Try.f4.params[j]? = some t → args[j]? = some v → Value.okWide Try.prog W .any base t v := hval0
  have hW' := hW
  obtain ⟨p, q, hA0, hV, rfl, hfz, hnd⟩ := hW
  obtain ⟨rfl, rfl⟩ := trodVars_none hV
  have hA : DataW.TrodAll enc Try.prog W 0 (fun _ => true) true Try.f4.params.toList args.toList ds p := hA0
  have hT0 := hA
  simp only [List.append_nil] at hW'
  rw [Try.params4] at hT0 hval
  obtain ⟨v0, vs0, d0, ds0, p0, q0, e0, f0, g0, h0, hT1⟩ := trodAll_cons hT0
  obtain ⟨v1, vs1, d1, ds1, p1, q1, e1, f1, g1, h1, hT2⟩ := trodAll_cons hT1
  subst e1 f1 g1
  obtain ⟨v2, vs2, d2, ds2, p2, q2, e2, f2, g2, h2, hT3⟩ := trodAll_cons hT2
  subst e2 f2 g2
  obtain ⟨v3, vs3, d3, ds3, p3, q3, e3, f3, g3, h3, hT4⟩ := trodAll_cons hT3
  subst e3 f3 g3
  obtain ⟨v4, vs4, d4, ds4, p4, q4, e4, f4, g4, h4, hT5⟩ := trodAll_cons hT4
  subst e4 f4 g4
  obtain ⟨e9, f9, g9⟩ := trodAll_nil hT5
  subst e9 f9 g9
  obtain rfl : args = #[v0, v1, v2, v3, v4] := by cases args; simp_all
  subst f0 g0
  clear e0
  obtain ⟨s0, rfl, r0⟩ := open_pages (hval 0 25 v0 rfl rfl) h0 (light_arg hsz (j := 0) rfl rfl)
  obtain ⟨z1, rfl, rfl, rfl, wf1⟩ := open_int Try.underlying3 (hval 1 3 v1 rfl rfl) h1
  obtain ⟨x2, rfl, wf2⟩ := open_flat (en := kEnc) (k := 3) (d := 4) kDecP Try.underlying27 (by kernel_rfl) (by kernel_rfl) kDecP_enc (hval 2 27 v2 rfl rfl) h2
  obtain ⟨z3, rfl, rfl, rfl, wf3⟩ := open_int Try.underlying3 (hval 3 3 v3 rfl rfl) h3
  obtain ⟨z4, rfl, rfl, rfl, wf4⟩ := open_int Try.underlying3 (hval 4 3 v4 rfl rfl) h4
  refine (hc s0 z1 x2 z3 z4 W r0).mono fun e W' ⟨he, hb⟩ => ?_
  subst he
  exact ⟨_, rfl, law_post Try.laidOut hW' hA (by rfl) rfl (by kernel_rfl) Try.underlying4 (of_decide_eq_true (by kernel_rfl)) hb⟩

theorem pagesAtSpec_holds : Rows.PagesAtSpecSaid :=
  OpenClaim.holds_of_wide 4 Try.f4 rfl rfl rfl rfl rfl rfl rfl ⟨rfl, rfl, rfl, rfl, rfl⟩ rfl rfl rfl rfl rfl (by kernel_rfl) Try.func4 (by kernel_rfl)
    (of_decide_eq_true (by kernel_rfl)) (by unfold Func.isWrapper; rw [if_neg (of_decide_eq_false (by kernel_rfl))]; exact ⟨rfl, rfl⟩)
    (fun os started H enc _ => pagesAtSpec_lifted os started H enc)
theorem pagesAtSpec : Rows.PagesAtSpecSaid := pagesAtSpec_holds
#print axioms pagesAtSpec
end Go.Proofs.Ytpnfpdkoeednhaa
