/- Proved: for all decisions and one that takes the place of another one, replacing it in the index is building the index anew (P35.1, P35.2, P35.4): the statement IndexReplaced holds at every input; no conditions. -/
import Derived.Test.YtologegkbcedhaaH17
import Derived.Test.YtologegkbcedhaaH9
namespace Go.Proofs.Ytologegkbcedhaa
open Go.RowKit Go.Shelf Go.ChangeShapes Go.WideShapes Go.ChangeAt
set_option maxRecDepth 100000 in
theorem indexReplaced_lifted (os : Os) (started : os.Started) (H : Type) (enc : TypeId × Value → H) :
    ReturnsInHanded {} Try.checked os 7 .any (Rows.indexReplacedSpec.pre6 enc Try.prog Try.f7 Rows.indexReplacedRow.domain false) (Rows.indexReplacedSpec.post enc Try.prog Try.f7 false true false false) := by
  have hc := replaced_calls
  refine returnsInHanded_of_change_sized (C := Try.checked) Try.own started (by kernel_rfl) Try.func7
    (ChangeSpec.witness6 (enc := enc) (C := Try.checked) false ⟨#[], #[.slice none 0 0, .int .u64 0, .agg #[.int .i64 0, .int .i64 0, .int .i64 0, .int .i64 0, .int .i64 0, .int .i64 0, .int .i64 0, .slice none 0 0, .slice none 0 0, .slice none 0 0]], []⟩ 8 (by kernel_rfl) (by kernel_rfl) (by kernel_rfl) (by kernel_rfl)) ?_
  intro W base args ds gs before hval0 hW hcnd hsz _
  have hval : ∀ (j : Nat) t v, Try.f7.params[j]? = some t → args[j]? = some v → Value.okWide Try.prog W .any base t v := hval0
  have hW' := hW
  obtain ⟨p, q, hA0, hV, rfl, hfz, hnd⟩ := hW
  obtain ⟨rfl, rfl⟩ := trodVars_none hV
  have hA : DataW.TrodAll enc Try.prog W 0 (fun _ => true) true Try.f7.params.toList args.toList ds p := hA0
  have hT0 := hA
  simp only [List.append_nil] at hW'
  rw [Try.params7] at hT0 hval
  obtain ⟨v0, vs0, d0, ds0, p0, q0, e0, f0, g0, h0, hT1⟩ := trodAll_cons hT0
  obtain ⟨v1, vs1, d1, ds1, p1, q1, e1, f1, g1, h1, hT2⟩ := trodAll_cons hT1
  subst e1 f1 g1
  obtain ⟨v2, vs2, d2, ds2, p2, q2, e2, f2, g2, h2, hT3⟩ := trodAll_cons hT2
  subst e2 f2 g2
  obtain ⟨e9, f9, g9⟩ := trodAll_nil hT3
  subst e9 f9 g9
  obtain rfl : args = #[v0, v1, v2] := by cases args; simp_all
  subst f0 g0
  clear e0
  obtain ⟨A0, n0, c0, l0, rfl, r0, b0, s0⟩ := open_decisions (hval 0 22 v0 rfl rfl) h0 (light_arg hsz (j := 0) rfl rfl)
  obtain ⟨z1, rfl, rfl, rfl, wf1⟩ := open_int Try.underlying50 (hval 1 50 v1 rfl rfl) h1
  obtain ⟨x2, rfl, r2⟩ := open_decision (hval 2 35 v2 rfl rfl) h2 (light_arg hsz (j := 2) rfl rfl)
  refine (hc A0 n0 c0 l0 z1 x2.1 x2.2 W r0 (fun x hx => by have := b0 x hx; have := reachBytes_lt; omega) (by have := wf1; simp [Lit.wf, IntKind.min, IntKind.max, IntKind.bits, IntKind.signed] at this; omega) r2).mono fun e W' ⟨he, hb⟩ => ?_
  subst he
  exact ⟨_, rfl, law_post Try.laidOut hW' hA (by rfl) rfl (by kernel_rfl) Try.underlying4 (of_decide_eq_true (by kernel_rfl)) hb⟩

theorem indexReplaced_holds : Rows.IndexReplacedSaid :=
  OpenClaim.holds_of_wide 7 Try.f7 rfl rfl rfl rfl rfl rfl rfl ⟨rfl, rfl, rfl, rfl, rfl⟩ rfl rfl rfl rfl rfl (by kernel_rfl) Try.func7 (by kernel_rfl)
    (of_decide_eq_true (by kernel_rfl)) (by unfold Func.isWrapper; rw [if_neg (of_decide_eq_false (by kernel_rfl))]; exact ⟨rfl, rfl⟩)
    (fun os started H enc _ => indexReplaced_lifted os started H enc)
theorem indexReplaced : Rows.IndexReplacedSaid := indexReplaced_holds
#print axioms indexReplaced
end Go.Proofs.Ytologegkbcedhaa
