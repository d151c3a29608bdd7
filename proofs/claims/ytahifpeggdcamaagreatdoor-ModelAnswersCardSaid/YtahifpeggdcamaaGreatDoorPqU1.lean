/- A part of an interpreter of the model's code that is proved sound, and of laws told by it: DamRowAnswers. -/
import Derived.Test.YtahifpeggdcamaaGreatDoorPqD9
import Derived.Test.YtahifpeggdcamaaGreatDoorPqK2
set_option linter.unusedVariables false
set_option linter.unusedSimpArgs false
/- The row of ModelAnswers, out of what the interpreter tells: written by wip/mkrow.py. -/
namespace Go.Proofs.YtahifpeggdcamaaGreatDoor.modelAnswers
open Go.ChangeShapes Go.WideShapes Go.ChangeAt Go.RowKit Go.Dam
set_option linter.unusedVariables false
theorem good : ∀ t ∈ goods, goodOne tab goods t = true := goods_ok
set_option maxRecDepth 100000 in
theorem lifted (os : Os) (started : os.Started) (H : Type) (enc : TypeId × Value → H) :
    ReturnsInHanded {} Tryz.checked os 3 .any (fun w args => (Rows.modelAnswersSpec.pre enc Tryz.prog Tryz.f3 Rows.modelAnswersRow.domain Rows.modelAnswersRow.apart w args ∧ laidMetH Tryz.prog Rows.modelAnswersRow.laid w) ∧ sizedMet enc Tryz.prog Tryz.f3 (OpenSpec.ofChange Rows.modelAnswersSpec) Rows.modelAnswersRow.apart w args)
      (Rows.modelAnswersSpec.post enc Tryz.prog Tryz.f3 Rows.modelAnswersRow.apart true false false) := by
  refine returnsInHanded_of_change_and (C := Tryz.checked) (X := fun w _ => laidMetH Tryz.prog Rows.modelAnswersRow.laid w) (fun _ _ _ hh h => h.of_heap hh) own started (by kernel_rfl) Tryz.func3
    (ChangeSpec.witness_at (enc := enc) (C := Tryz.checked) (os := os) (X := fun w _ => laidMetH Tryz.prog Rows.modelAnswersRow.laid w) false (laidWorld os) #[.agg #[.int .i64 0, .int .i64 0, .int .i64 0, .int .i64 0, .slice none 0 0], .int .i64 0, .slice none 0 0] 8 rfl (by kernel_rfl) (by kernel_rfl) (by kernel_rfl) (by kernel_rfl) (by kernel_rfl) (laidWorld_met os _)) ?_
  intro W base args ds gs before hval0 hW _ hsz0 _ _
  have hsz : (DataW.weightsEach Tryz.prog (Tryz.f3.params.toList ++ Rows.modelAnswersSpec.plain.varTypes Tryz.prog) (ds ++ gs)).all (· ≤ reachBytes) = true := hsz0
  have hval : ∀ (j : Nat) t v, Tryz.f3.params[j]? = some t → args[j]? = some v → Value.okWide Tryz.prog W .any base t v := hval0
  have hW' := hW
  obtain ⟨p, q, hA0, hV, rfl, hfz, hnd⟩ := hW
  have hA : DataW.TrodAll enc Tryz.prog W 0 (fun _ => true) true Tryz.f3.params.toList args.toList ds p := hA0
  rw [Tryz.params3] at hA hval hsz
  obtain ⟨rfl, rfl⟩ := trodVars_none hV
  have hsz1 : (DataW.weightsEach Tryz.prog [24, 3, 25] ds).all (· ≤ reachBytes) = true := by
    have h := hsz
    rw [List.append_nil] at h
    exact h
  have hc := law_calls tab_ok tab_ok2 tab_eq good (f := 3) rfl (tb := 4) rfl rfl rfl (ts := [24, 3, 25]) (by decide) (fun av hl h => law3 av hl h) hA (fun j t v ht hv => hval j t v (by simpa using ht) hv) hsz1
  refine hc.mono fun e W' ⟨he, bel⟩ => ?_
  subst he
  obtain ⟨pa, hpa⟩ := args_back laidOut bel _ _ _ _ (readable [24, 3, 25] (by decide)) hA
  obtain ⟨v0, vs0, d0, ds0, p0, q0, hargs, rfl, hp0, h0, r0⟩ := trodAll_cons hA
  obtain ⟨v1, vs1, d1, ds1, p1, q1, rfl, rfl, hp1, h1, r1⟩ := trodAll_cons r0
  obtain ⟨v2, vs2, d2, ds2, p2, q2, rfl, rfl, hp2, h2, r2⟩ := trodAll_cons r1
  obtain ⟨rfl, rfl, hq⟩ := trodAll_nil r2
  exact ⟨_, rfl, _, _, _, [], _, [], hW', trodAll_mk1 (shut_bool Tryz.underlying4 _), hpa, rfl, bel.frame _, fun h => by cases h⟩
theorem over : Rows.modelAnswersRow.holds Tryz.pinned (OpenSpec.ofChange Rows.modelAnswersSpec) :=
  OpenClaim.holds_of_wide 3 Tryz.f3 rfl rfl rfl rfl rfl rfl rfl ⟨rfl, rfl, rfl, rfl, rfl⟩ rfl rfl rfl rfl rfl (by kernel_rfl) Tryz.func3 (by kernel_rfl)
    (of_decide_eq_true (by kernel_rfl)) (by unfold Func.isWrapper; first | (rw [if_pos (by decide +kernel)]; kernel_rfl) | (rw [if_neg (by decide +kernel)]; exact ⟨rfl, rfl⟩))
    (fun os started H enc _ => lifted os started H enc)
end Go.Proofs.YtahifpeggdcamaaGreatDoor.modelAnswers
namespace Go.Proofs.YtahifpeggdcamaaGreatDoor
theorem modelAnswers_holds : Rows.ModelAnswersSaid := modelAnswers.over
end Go.Proofs.YtahifpeggdcamaaGreatDoor
