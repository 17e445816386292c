/- Proved: for all rules and a situation, all of them valid, a rule of all holds exactly if each one does, one of any exactly if one does, one of at least n exactly if so many do, and a negation exactly if the rule does not, as long as these rules are valid themselves (P12.2): the card RulesBoolean holds at every input; conditions: none but the listed table of kinds, tied to the program's text. -/
import Derived.Test.YtbmbpannhncpjaaDoorU22
import Derived.Test.YtbmbpannhncpjaaDoorU25
import Derived.Test.YtbmbpannhncpjaaDoorUQ2
import Derived.Test.YtbmbpannhncpjaaDoorCards
import Derived.Test.YtbmbpannhncpjaaDoorTie
import Derived.LaidMore
import Derived.Stop.Joined
import Derived.SevenTiedAt
namespace Go.Proofs.YtbmbpannhncpjaaDoor
open Go.RowKit Go.Shelf Go.ChangeShapes Go.WideShapes Go.ChangeAt

theorem rulesBoolean_door_met (os : Os) (args : Array Value) : laidMetH Tryd.prog [("sizar/rules.kinds", Rows.laid_sizar_rules_kinds)] ((World.doorLaid Tryd.prog 600 os).forCall (fun _ _ => 0) ⟨#[], args, []⟩).memory :=
  laidMetH_of_parts3 (fuel := 8) (laidMet_of_run' 8 (by kernel_rfl) (by kernel_rfl)) (by kernel_rfl) (by kernel_rfl)
set_option maxRecDepth 100000 in
theorem rulesBoolean_lifted (os : Os) (started : os.Started) (H : Type) (enc : TypeId × Value → H) :
    ReturnsInHanded {} Tryd.checked os 5 .any (fun w args => (Rows.rulesBooleanSpec.pre enc Tryd.prog Tryd.f5 [] false w args ∧ laidMetH Tryd.prog [("sizar/rules.kinds", Rows.laid_sizar_rules_kinds)] w) ∧ sizedMet enc Tryd.prog Tryd.f5 (OpenSpec.ofChange Rows.rulesBooleanSpec) false w args)
      (Rows.rulesBooleanSpec.post enc Tryd.prog Tryd.f5 false true false false) := by
  have hc := boolean_calls
  refine returnsInHanded_of_change_and (C := Tryd.checked) (X := fun w _ => laidMetH Tryd.prog [("sizar/rules.kinds", Rows.laid_sizar_rules_kinds)] w) (fun _ _ _ hh h => h.of_heap hh) Tryd.own started (by kernel_rfl) Tryd.func5
    (ChangeSpec.witness_shaped (enc := enc) (C := Tryd.checked) (os := os) (X := fun w _ => laidMetH Tryd.prog [("sizar/rules.kinds", Rows.laid_sizar_rules_kinds)] w) false (World.doorLaid Tryd.prog 600 os) #[.slice none 0 0, .agg #[.slice none 0 0, .int .i64 0, .int .i64 0, .int .i64 0], .int .u8 0] 8 rfl (World.shaped_of_RefB (by kernel_rfl) (by kernel_rfl)) (by kernel_rfl) (by kernel_rfl) (by kernel_rfl) (rulesBoolean_door_met os _)) ?_
  intro W base args ds gs before hval0 hW hcnd hsz hL _
  have hval : ∀ (j : Nat) t v, Tryd.f5.params[j]? = some t → args[j]? = some v → Value.okWide Tryd.prog W .any base t v := hval0
  have hW' := hW
  obtain ⟨p, q, hA0, hV, rfl, hfz, hnd⟩ := hW
  obtain ⟨rfl, rfl⟩ := trodVars_none hV
  have hA : DataW.TrodAll enc Tryd.prog W 0 (fun _ => true) true Tryd.f5.params.toList args.toList ds p := hA0
  have hT0 := hA
  have hkk := kinds_of_laid hL
  simp only [List.append_nil] at hW'
  rw [Tryd.params5] at hT0 hval
  obtain ⟨v0, vs0, d0, ds0, p0, q0, e0, f0, g0, h0, hT1⟩ := trodAll_cons hT0
  obtain ⟨v1, vs1, d1, ds1, p1, q1, e1, f1, g1, h1, hT2⟩ := trodAll_cons hT1
  subst e1 f1 g1
  obtain ⟨v2, vs2, d2, ds2, p2, q2, e2, f2, g2, h2, hT3⟩ := trodAll_cons hT2
  subst e2 f2 g2
  obtain ⟨e9, f9, g9⟩ := trodAll_nil hT3
  subst e9 f9 g9
  obtain rfl : args = #[v0, v1, v2] := by cases args; simp_all
  subst f0 g0
  clear e0
  obtain ⟨hh0, A0, n0, c0, l0, rfl, r0⟩ := open_rules (hval 0 22 v0 rfl rfl) h0 (light_arg hsz (j := 0) rfl rfl)
  obtain ⟨s1, rfl, r1⟩ := open_situation (hval 1 29 v1 rfl rfl) h1 (light_arg hsz (j := 1) rfl rfl)
  obtain ⟨z2, rfl, rfl, rfl, wf2⟩ := open_int Tryd.underlying5 (hval 2 5 v2 rfl rfl) h2
  refine (hc hh0 A0 n0 c0 l0 s1 z2 W (u8_wf wf2).1 (u8_wf wf2).2 r0 r1 hkk).mono fun e W' ⟨he, hb⟩ => ?_
  subst he
  exact ⟨_, rfl, law_post Tryd.laidOut hW' hA (by rfl) rfl (by kernel_rfl) Tryd.underlying4 (of_decide_eq_true (by kernel_rfl)) hb⟩

theorem rulesBoolean_holds : Rows.RulesBooleanSaid :=
  OpenClaim.holds_of_wide 5 Tryd.f5 rfl rfl rfl rfl rfl rfl rfl ⟨rfl, rfl, rfl, rfl, rfl⟩ rfl rfl rfl rfl rfl (by kernel_rfl) Tryd.func5 (by kernel_rfl)
    (of_decide_eq_true (by kernel_rfl)) (by unfold Func.isWrapper; first | (rw [if_pos (by decide +kernel)]; kernel_rfl) | (rw [if_neg (by decide +kernel)]; exact ⟨rfl, rfl⟩))
    (fun os started H enc _ => rulesBoolean_lifted os started H enc)
theorem rulesBoolean_plain (f : FuncId) (fn : Func) (hf : Tryd.pinned.checked.prog.funcNamed "sizar/sizarlaw12.RulesBoolean" = some f) (hfn : Tryd.pinned.checked.prog.funcs[f]? = some fn) :
    false = Tryd.pinned.checked.prog.looks [] ∧ ∀ (j : Nat) t, fn.params[j]? = some t → Tryd.pinned.checked.prog.wantsStandIn t = false := by
  obtain rfl : f = 5 := Option.some.inj ((show Tryd.prog.funcNamed "sizar/sizarlaw12.RulesBoolean" = some 5 by kernel_rfl).symm.trans hf) |>.symm
  obtain rfl : fn = Tryd.f5 := (Option.some.inj (Tryd.func5.symm.trans hfn)).symm
  refine ⟨by kernel_rfl, fun j t ht => ?_⟩
  rw [Tryd.params5] at ht
  have hm : t ∈ [22, 29, 5] := by simpa using Array.mem_of_getElem? ht
  have hall : ([22, 29, 5].all fun u => !Tryd.prog.wantsStandIn u) = true := by kernel_rfl
  exact (show Tryd.prog.wantsStandIn t = false by simpa using List.all_eq_true.1 hall t hm)
theorem boolean : Rows.RulesBooleanCardSaid :=
  Claim7.holds_tied_plain_at .later [] _ _ _ _ rulesBoolean_holds (fun _ h => by cases h) (by kernel_rfl) (fun _ h => by cases h) rulesBoolean_row_tie rfl ⟨rfl, rfl⟩ (by kernel_rfl) rfl rulesBoolean_plain (by kernel_rfl)
#print axioms boolean
end Go.Proofs.YtbmbpannhncpjaaDoor
