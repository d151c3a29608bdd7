/- A part of an interpreter of the model's code that is proved sound, and of laws told by it: DamRowStands. -/
import Derived.Test.YtdhbhedfbdckaaaGreatDoorPuR1
import Derived.Test.YtdhbhedfbdckaaaGreatDoorPuY7
set_option linter.unusedVariables false
set_option linter.unusedSimpArgs false
/- The row of LexisStands, out of what the interpreter tells: written by wip/lx/mkrow.py. -/
namespace Go.Proofs.YtdhbhedfbdckaaaGreatDoor.lexisStands
open Go.ChangeShapes Go.WideShapes Go.ChangeAt Go.RowKit Go.Dam
set_option linter.unusedVariables false
theorem good : ∀ t ∈ goods, goodOne tab2 goods t = true := goods_ok
theorem laidIs : Rows.lexisStandsRow.laid = lxLaid := rfl
set_option maxRecDepth 100000 in
theorem lifted (os : Os) (started : os.Started) (H : Type) (enc : TypeId × Value → H) :
    ReturnsInHanded {} Tryz.checked os 9 .any (fun w args => (Rows.lexisStandsSpec.pre enc Tryz.prog Tryz.f9 Rows.lexisStandsRow.domain Rows.lexisStandsRow.apart w args ∧ laidMetH Tryz.prog Rows.lexisStandsRow.laid w) ∧ sizedMet enc Tryz.prog Tryz.f9 (OpenSpec.ofChange Rows.lexisStandsSpec) Rows.lexisStandsRow.apart w args)
      (Rows.lexisStandsSpec.post enc Tryz.prog Tryz.f9 Rows.lexisStandsRow.apart true false false) := by
  rw [laidIs]
  refine returns_laid (C := Tryz.checked) (X := fun w _ => laidMetH Tryz.prog lxLaid w) (fun _ _ _ hh h => h.of_heap hh) own started (by kernel_rfl) Tryz.func9
    (ChangeSpec.witness_shaped (enc := enc) (C := Tryz.checked) (os := os) (X := fun w _ => laidMetH Tryz.prog lxLaid w) false (laidWorld os) #[.int .i64 0, .string ⟨#[]⟩] 8 (World.laidAll_os _ _ _) (laidWorld_shaped os _) (by kernel_rfl) (by kernel_rfl) (by kernel_rfl) (laidWorld_met os _)) ?_
  intro W base args ds gs before hval0 hW hsz0 hL hsh
  have hsz : (DataW.weightsEach Tryz.prog (Tryz.f9.params.toList ++ Rows.lexisStandsSpec.plain.varTypes Tryz.prog) (ds ++ gs)).all (· ≤ reachBytes) = true := hsz0
  have hval : ∀ (j : Nat) t v, Tryz.f9.params[j]? = some t → args[j]? = some v → Value.okWide Tryz.prog W .any base t v := hval0
  have hW' := hW
  obtain ⟨p, q, hA0, hV, rfl, hfz, hnd⟩ := hW
  have hA : DataW.TrodAll enc Tryz.prog W 0 (fun _ => true) true Tryz.f9.params.toList args.toList ds p := hA0
  rw [Tryz.params9] at hA hval hsz
  obtain ⟨rfl, rfl⟩ := trodVars_none hV
  have hsz1 : (DataW.weightsEach Tryz.prog [3, 9] ds).all (· ≤ reachBytes) = true := by
    have h := hsz
    rw [List.append_nil] at h
    exact h
  have hc := law_calls tab2_ok tab2_ok2 tab2_eq good (f := 9) rfl (tb := 4) rfl rfl rfl (ts := [3, 9]) (by decide) (fun av hl h => lawv9 av hl h) hA (fun j t v ht hv => hval j t v (by simpa using ht) hv) hsz1 (lay_of hL hsh)
  refine hc.mono fun e W' ⟨he, bel⟩ => ?_
  subst he
  obtain ⟨pa, hpa⟩ := args_back laidOut bel _ _ _ _ (readable [3, 9] (by decide)) hA
  obtain ⟨v0, vs0, d0, ds0, p0, q0, hargs, rfl, hp0, h0, r0⟩ := trodAll_cons hA
  obtain ⟨v1, vs1, d1, ds1, p1, q1, rfl, rfl, hp1, h1, r1⟩ := trodAll_cons r0
  obtain ⟨rfl, rfl, hq⟩ := trodAll_nil r1
  exact ⟨_, rfl, _, _, _, [], _, [], hW', trodAll_mk1 (shut_bool Tryz.underlying4 _), hpa, rfl, bel.frame _, fun h => by cases h⟩
theorem over : Rows.lexisStandsRow.holds Tryz.pinned (OpenSpec.ofChange Rows.lexisStandsSpec) :=
  OpenClaim.holds_of_wide 9 Tryz.f9 rfl rfl rfl rfl rfl rfl rfl ⟨rfl, rfl, rfl, rfl, rfl⟩ rfl rfl rfl rfl rfl (by kernel_rfl) Tryz.func9 (by kernel_rfl)
    (of_decide_eq_true (by kernel_rfl)) (by unfold Func.isWrapper; first | (rw [if_pos (by decide +kernel)]; kernel_rfl) | (rw [if_neg (by decide +kernel)]; exact ⟨rfl, rfl⟩))
    (fun os started H enc _ => lifted os started H enc)
end Go.Proofs.YtdhbhedfbdckaaaGreatDoor.lexisStands
namespace Go.Proofs.YtdhbhedfbdckaaaGreatDoor
theorem lexisStands_holds : Rows.LexisStandsSaid := lexisStands.over
end Go.Proofs.YtdhbhedfbdckaaaGreatDoor
