/- Proved: for every rule and situation, both valid, without what it says about the courses that the rule does not mention the situation is valid, and the rule holds exactly as before (P12.2 to P12.4): the card RulesOthers holds at every input; conditions: none but the listed table of kinds, tied to the program's text. -/
import Derived.Test.YtbmbpannhncpjaaDoorU22
import Derived.Test.YtbmbpannhncpjaaDoorU26
import Derived.Test.YtbmbpannhncpjaaDoorCards
import Derived.Test.YtbmbpannhncpjaaDoorTie
import Derived.LaidMore
import Derived.Stop.Joined
import Derived.SevenTiedAt
namespace Go.Proofs.YtbmbpannhncpjaaDoor
open Go.RowKit Go.Shelf Go.ChangeShapes Go.WideShapes Go.ChangeAt

theorem rulesOthers_door_met (os : Os) (args : Array Value) : laidMetH Tryd.prog [("sizar/rules.kinds", Rows.laid_sizar_rules_kinds)] ((World.doorLaid Tryd.prog 600 os).forCall (fun _ _ => 0) ⟨#[], args, []⟩).memory :=
  laidMetH_of_parts3 (fuel := 8) (laidMet_of_run' 8 (by kernel_rfl) (by kernel_rfl)) (by kernel_rfl) (by kernel_rfl)
set_option maxRecDepth 100000 in
theorem rulesOthers_lifted (os : Os) (started : os.Started) (H : Type) (enc : TypeId × Value → H) :
    ReturnsInHanded {} Tryd.checked os 8 .any (fun w args => (Rows.rulesOthersSpec.pre enc Tryd.prog Tryd.f8 [] false w args ∧ laidMetH Tryd.prog [("sizar/rules.kinds", Rows.laid_sizar_rules_kinds)] w) ∧ sizedMet enc Tryd.prog Tryd.f8 (OpenSpec.ofChange Rows.rulesOthersSpec) false w args)
      (Rows.rulesOthersSpec.post enc Tryd.prog Tryd.f8 false true false false) := by
  have hc := others_calls
  refine returnsInHanded_of_change_and (C := Tryd.checked) (X := fun w _ => laidMetH Tryd.prog [("sizar/rules.kinds", Rows.laid_sizar_rules_kinds)] w) (fun _ _ _ hh h => h.of_heap hh) Tryd.own started (by kernel_rfl) Tryd.func8
    (ChangeSpec.witness_shaped (enc := enc) (C := Tryd.checked) (os := os) (X := fun w _ => laidMetH Tryd.prog [("sizar/rules.kinds", Rows.laid_sizar_rules_kinds)] w) false (World.doorLaid Tryd.prog 600 os) #[.agg #[.int .i64 0, .int .i64 0, .string ⟨#[]⟩, .int .i64 0, .int .i64 0, .slice none 0 0], .agg #[.slice none 0 0, .int .i64 0, .int .i64 0, .int .i64 0]] 8 rfl (World.shaped_of_RefB (by kernel_rfl) (by kernel_rfl)) (by kernel_rfl) (by kernel_rfl) (by kernel_rfl) (rulesOthers_door_met os _)) ?_
  intro W base args ds gs before hval0 hW hcnd hsz hL _
  have hval : ∀ (j : Nat) t v, Tryd.f8.params[j]? = some t → args[j]? = some v → Value.okWide Tryd.prog W .any base t v := hval0
  have hW' := hW
  obtain ⟨p, q, hA0, hV, rfl, hfz, hnd⟩ := hW
  obtain ⟨rfl, rfl⟩ := trodVars_none hV
  have hA : DataW.TrodAll enc Tryd.prog W 0 (fun _ => true) true Tryd.f8.params.toList args.toList ds p := hA0
  have hT0 := hA
  have hkk := kinds_of_laid hL
  simp only [List.append_nil] at hW'
  rw [Tryd.params8] at hT0 hval
  obtain ⟨v0, vs0, d0, ds0, p0, q0, e0, f0, g0, h0, hT1⟩ := trodAll_cons hT0
  obtain ⟨v1, vs1, d1, ds1, p1, q1, e1, f1, g1, h1, hT2⟩ := trodAll_cons hT1
  subst e1 f1 g1
  obtain ⟨e9, f9, g9⟩ := trodAll_nil hT2
  subst e9 f9 g9
  obtain rfl : args = #[v0, v1] := by cases args; simp_all
  subst f0 g0
  clear e0
  obtain ⟨hh0, x0, rfl, r0⟩ := open_rule (hval 0 24 v0 rfl rfl) h0 (light_arg hsz (j := 0) rfl rfl)
  obtain ⟨s1, rfl, r1⟩ := open_situation (hval 1 29 v1 rfl rfl) h1 (light_arg hsz (j := 1) rfl rfl)
  refine (hc hh0 x0 s1 W r0 r1 hkk).mono fun e W' ⟨he, hb⟩ => ?_
  subst he
  exact ⟨_, rfl, law_post Tryd.laidOut hW' hA (by rfl) rfl (by kernel_rfl) Tryd.underlying4 (of_decide_eq_true (by kernel_rfl)) hb⟩

theorem rulesOthers_holds : Rows.RulesOthersSaid :=
  OpenClaim.holds_of_wide 8 Tryd.f8 rfl rfl rfl rfl rfl rfl rfl ⟨rfl, rfl, rfl, rfl, rfl⟩ rfl rfl rfl rfl rfl (by kernel_rfl) Tryd.func8 (by kernel_rfl)
    (of_decide_eq_true (by kernel_rfl)) (by unfold Func.isWrapper; first | (rw [if_pos (by decide +kernel)]; kernel_rfl) | (rw [if_neg (by decide +kernel)]; exact ⟨rfl, rfl⟩))
    (fun os started H enc _ => rulesOthers_lifted os started H enc)
theorem rulesOthers_plain (f : FuncId) (fn : Func) (hf : Tryd.pinned.checked.prog.funcNamed "sizar/sizarlaw12.RulesOthers" = some f) (hfn : Tryd.pinned.checked.prog.funcs[f]? = some fn) :
    false = Tryd.pinned.checked.prog.looks [] ∧ ∀ (j : Nat) t, fn.params[j]? = some t → Tryd.pinned.checked.prog.wantsStandIn t = false := by
  obtain rfl : f = 8 := Option.some.inj ((show Tryd.prog.funcNamed "sizar/sizarlaw12.RulesOthers" = some 8 by kernel_rfl).symm.trans hf) |>.symm
  obtain rfl : fn = Tryd.f8 := (Option.some.inj (Tryd.func8.symm.trans hfn)).symm
  refine ⟨by kernel_rfl, fun j t ht => ?_⟩
  rw [Tryd.params8] at ht
  have hm : t ∈ [24, 29] := by simpa using Array.mem_of_getElem? ht
  have hall : ([24, 29].all fun u => !Tryd.prog.wantsStandIn u) = true := by kernel_rfl
  exact (show Tryd.prog.wantsStandIn t = false by simpa using List.all_eq_true.1 hall t hm)
theorem others : Rows.RulesOthersCardSaid :=
  Claim7.holds_tied_plain_at .later [] _ _ _ _ rulesOthers_holds (fun _ h => by cases h) (by kernel_rfl) (fun _ h => by cases h) rulesOthers_row_tie rfl ⟨rfl, rfl⟩ (by kernel_rfl) rfl rulesOthers_plain (by kernel_rfl)
#print axioms others
end Go.Proofs.YtbmbpannhncpjaaDoor
