/- Proved: JoinPages holds at every input; no conditions. -/
import Derived.Test.YtbegdcjofnfkiaaGreatDoorQ25
import Derived.Test.YtbegdcjofnfkiaaGreatDoorJD
import Derived.Test.YtbegdcjofnfkiaaGreatDoorCards
import Derived.Test.YtbegdcjofnfkiaaGreatDoorTie
import Derived.LaidMore
import Derived.Stop.Joined
import Derived.SevenTiedAt
namespace Go.Proofs.YtbegdcjofnfkiaaGreatDoor
open Go.RowKit Go.Shelf Go.ChangeShapes Go.WideShapes Go.ChangeAt
theorem jgd (os : Os) (args : Array Value) : laidMetH Tryz.prog [("sizar/query.kindWords", Rows.laid_sizar_query_kindWords)] ((World.doorLaid Tryz.prog 600 os).forCall (fun _ _ => 0) ⟨#[], args, []⟩).memory :=
 laidMetH_of_parts3 (fuel := 8) (laidMet_of_run' 8 (by kernel_rfl) (by kernel_rfl)) (by kernel_rfl) (by kernel_rfl)
set_option maxRecDepth 100000 in
theorem jgl (os : Os) (started : os.Started) (H : Type) (enc : TypeId × Value → H) :
  ReturnsInHanded {} Tryz.checked os 5 .any (fun w args => (Rows.joinPagesSpec.pre enc Tryz.prog Tryz.f5 [] false w args ∧ laidMetH Tryz.prog [("sizar/query.kindWords", Rows.laid_sizar_query_kindWords)] w) ∧ sizedMet enc Tryz.prog Tryz.f5 (OpenSpec.ofChange Rows.joinPagesSpec) false w args)
   (Rows.joinPagesSpec.post enc Tryz.prog Tryz.f5 false true false false) := by
 have hc := pgJ
 refine returnsInHanded_of_change_and (C := Tryz.checked) (X := fun w _ => laidMetH Tryz.prog [("sizar/query.kindWords", Rows.laid_sizar_query_kindWords)] w) (fun _ _ _ hh h => h.of_heap hh) Tryz.own started (by kernel_rfl) Tryz.func5
  (ChangeSpec.witness_shaped (enc := enc) (C := Tryz.checked) (os := os) (X := fun w _ => laidMetH Tryz.prog [("sizar/query.kindWords", Rows.laid_sizar_query_kindWords)] w) false (World.doorLaid Tryz.prog 600 os) #[.agg #[.slice none 0 0, .slice none 0 0, .slice none 0 0, .slice none 0 0], .slice none 0 0] 8 rfl (World.shaped_of_RefB (by kernel_rfl) (by kernel_rfl)) (by kernel_rfl) (by kernel_rfl) (by kernel_rfl) (jgd os _)) ?_
 intro W base args ds gs before hval0 hW hcnd hsz hL _
 have hval : ∀ (j : Nat) t v, Tryz.f5.params[j]? = some t → args[j]? = some v → Value.okWide Tryz.prog W .any base t v := hval0
 have hW' := hW
 obtain ⟨p, q, hA0, hV, rfl, hfz, hnd⟩ := hW
 obtain ⟨rfl, rfl⟩ := trodVars_none hV
 have hA : DataW.TrodAll enc Tryz.prog W 0 (fun _ => true) true Tryz.f5.params.toList args.toList ds p := hA0
 have hT0 := hA
 have hkk := words_of_laid hL
 simp only [List.append_nil] at hW'
 rw [Tryz.params5] at hT0 hval
 obtain ⟨v0, vs0, d0, ds0, p0, q0, e0, f0, g0, h0, hT1⟩ := trodAll_cons hT0
 obtain ⟨v1, vs1, d1, ds1, p1, q1, e1, f1, g1, h1, hT2⟩ := trodAll_cons hT1
 subst e1 f1 g1
 obtain ⟨e9, f9, g9⟩ := trodAll_nil hT2
 subst e9 f9 g9
 obtain rfl : args = #[v0, v1] := by cases args; simp_all
 subst f0 g0
 clear e0
 obtain ⟨q0, rfl, r0⟩ := open_query (hval 0 27 v0 rfl rfl) h0 (light_arg hsz (j := 0) rfl rfl)
 obtain ⟨A1, n1, c1, l1, rfl, r1, z1⟩ := open_facts (hval 1 28 v1 rfl rfl) h1 (light_arg hsz (j := 1) rfl rfl)
 refine (hc q0 A1 n1 c1 l1 W r0 hkk r1).mono fun e W' ⟨he, hb⟩ => ?_
 subst he
 exact ⟨_, rfl, law_post Tryz.laidOut hW' hA (by rfl) rfl (by kernel_rfl) Tryz.underlying4 (of_decide_eq_true (by kernel_rfl)) hb⟩
theorem jgh : Rows.JoinPagesSaid :=
 OpenClaim.holds_of_wide 5 Tryz.f5 rfl rfl rfl rfl rfl rfl rfl ⟨rfl, rfl, rfl, rfl, rfl⟩ rfl rfl rfl rfl rfl (by kernel_rfl) Tryz.func5 (by kernel_rfl)
  (of_decide_eq_true (by kernel_rfl)) (by unfold Func.isWrapper; first | (rw [if_pos (by decide +kernel)]; kernel_rfl) | (rw [if_neg (by decide +kernel)]; exact ⟨rfl, rfl⟩))
  (fun os started H enc _ => jgl os started H enc)
theorem jgp (f : FuncId) (fn : Func) (hf : Tryz.pinned.checked.prog.funcNamed "sizar/sizarlaw51.JoinPages" = some f) (hfn : Tryz.pinned.checked.prog.funcs[f]? = some fn) :
  true = Tryz.pinned.checked.prog.looks [] ∧ ∀ (j : Nat) t, fn.params[j]? = some t → Tryz.pinned.checked.prog.wantsStandIn t = false := by
 obtain rfl : f = 5 := Option.some.inj ((show Tryz.prog.funcNamed "sizar/sizarlaw51.JoinPages" = some 5 by kernel_rfl).symm.trans hf) |>.symm
 obtain rfl : fn = Tryz.f5 := (Option.some.inj (Tryz.func5.symm.trans hfn)).symm
 refine ⟨by kernel_rfl, fun j t ht => ?_⟩
 rw [Tryz.params5] at ht
 have hm : t ∈ [27, 28] := by simpa using Array.mem_of_getElem? ht
 have hall : ([27, 28].all fun u => !Tryz.prog.wantsStandIn u) = true := by kernel_rfl
 exact (show Tryz.prog.wantsStandIn t = false by simpa using List.all_eq_true.1 hall t hm)
theorem pages51 : Rows.JoinPagesCardSaid :=
 Claim7.holds_tied_plain_at .later [] _ _ _ _ jgh (fun _ h => by cases h) (by kernel_rfl) (fun _ h => by cases h) joinPages_row_tie rfl ⟨rfl, rfl⟩ (by kernel_rfl) rfl jgp (by kernel_rfl)
end Go.Proofs.YtbegdcjofnfkiaaGreatDoor
