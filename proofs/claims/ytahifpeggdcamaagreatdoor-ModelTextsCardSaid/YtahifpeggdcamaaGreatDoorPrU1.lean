/- A part of an interpreter of the model's code that is proved sound, and of laws told by it: DamRowTexts. -/
import Derived.Test.YtahifpeggdcamaaGreatDoorPrD9
import Derived.Test.YtahifpeggdcamaaGreatDoorPrU0
import Derived.Test.YtahifpeggdcamaaGreatDoorPrJ3
set_option linter.unusedVariables false
set_option linter.unusedSimpArgs false
/- The row of ModelTexts, out of what the interpreter tells: written by wip/mkrow.py. -/
namespace Go.Proofs.YtahifpeggdcamaaGreatDoor.modelTexts
open Go.ChangeShapes Go.WideShapes Go.ChangeAt Go.RowKit Go.Dam
set_option linter.unusedVariables false
theorem good : ∀ t ∈ goods, goodOne tab goods t = true := goods_ok
set_option maxRecDepth 100000 in
theorem lifted (os : Os) (started : os.Started) (H : Type) (enc : TypeId × Value → H) :
    ReturnsInHanded {} Tryz.checked os 4 .any (fun w args => (Rows.modelTextsSpec.pre enc Tryz.prog Tryz.f4 Rows.modelTextsRow.domain Rows.modelTextsRow.apart w args ∧ laidMetH Tryz.prog Rows.modelTextsRow.laid w) ∧ sizedMet enc Tryz.prog Tryz.f4 (OpenSpec.ofChange Rows.modelTextsSpec) Rows.modelTextsRow.apart w args)
      (Rows.modelTextsSpec.post enc Tryz.prog Tryz.f4 Rows.modelTextsRow.apart true false false) := by
  refine returnsInHanded_of_change_and (C := Tryz.checked) (X := fun w _ => laidMetH Tryz.prog Rows.modelTextsRow.laid w) (fun _ _ _ hh h => h.of_heap hh) own started (by kernel_rfl) Tryz.func4
    (ChangeSpec.witness_at (enc := enc) (C := Tryz.checked) (os := os) (X := fun w _ => laidMetH Tryz.prog Rows.modelTextsRow.laid w) false (laidWorldT os) #[.agg #[.int .i64 0, .int .i64 0, .int .i64 0, .int .i64 0, .slice none 0 0], .string ⟨#[]⟩] 8 rfl (by kernel_rfl) (by kernel_rfl) (by kernel_rfl) (by kernel_rfl) (by kernel_rfl) (laidWorldT_met os _)) ?_
  intro W base args ds gs before hval0 hW _ hsz0 _ _
  have hsz : (DataW.weightsEach Tryz.prog (Tryz.f4.params.toList ++ Rows.modelTextsSpec.plain.varTypes Tryz.prog) (ds ++ gs)).all (· ≤ reachBytes) = true := hsz0
  have hval : ∀ (j : Nat) t v, Tryz.f4.params[j]? = some t → args[j]? = some v → Value.okWide Tryz.prog W .any base t v := hval0
  have hW' := hW
  obtain ⟨p, q, hA0, hV, rfl, hfz, hnd⟩ := hW
  have hA : DataW.TrodAll enc Tryz.prog W 0 (fun _ => true) true Tryz.f4.params.toList args.toList ds p := hA0
  rw [Tryz.params4] at hA hval hsz
  obtain ⟨rfl, rfl⟩ := trodVars_none hV
  have hsz1 : (DataW.weightsEach Tryz.prog [24, 9] ds).all (· ≤ reachBytes) = true := by
    have h := hsz
    rw [List.append_nil] at h
    exact h
  have hc := law_calls tab_ok tab_ok2 tab_eq good (f := 4) rfl (tb := 4) rfl rfl rfl (ts := [24, 9]) (by decide) (fun av hl h => law4 av hl h) hA (fun j t v ht hv => hval j t v (by simpa using ht) hv) hsz1
  refine hc.mono fun e W' ⟨he, bel⟩ => ?_
  subst he
  obtain ⟨pa, hpa⟩ := args_back laidOut bel _ _ _ _ (readable [24, 9] (by decide)) hA
  obtain ⟨v0, vs0, d0, ds0, p0, q0, hargs, rfl, hp0, h0, r0⟩ := trodAll_cons hA
  obtain ⟨v1, vs1, d1, ds1, p1, q1, rfl, rfl, hp1, h1, r1⟩ := trodAll_cons r0
  obtain ⟨rfl, rfl, hq⟩ := trodAll_nil r1
  exact ⟨_, rfl, _, _, _, [], _, [], hW', trodAll_mk1 (shut_bool Tryz.underlying4 _), hpa, rfl, bel.frame _, fun h => by cases h⟩
theorem over : Rows.modelTextsRow.holds Tryz.pinned (OpenSpec.ofChange Rows.modelTextsSpec) :=
  OpenClaim.holds_of_wide 4 Tryz.f4 rfl rfl rfl rfl rfl rfl rfl ⟨rfl, rfl, rfl, rfl, rfl⟩ rfl rfl rfl rfl rfl (by kernel_rfl) Tryz.func4 (by kernel_rfl)
    (of_decide_eq_true (by kernel_rfl)) (by unfold Func.isWrapper; first | (rw [if_pos (by decide +kernel)]; kernel_rfl) | (rw [if_neg (by decide +kernel)]; exact ⟨rfl, rfl⟩))
    (fun os started H enc _ => lifted os started H enc)
end Go.Proofs.YtahifpeggdcamaaGreatDoor.modelTexts
namespace Go.Proofs.YtahifpeggdcamaaGreatDoor
theorem modelTexts_holds : Rows.ModelTextsSaid := modelTexts.over
end Go.Proofs.YtahifpeggdcamaaGreatDoor
