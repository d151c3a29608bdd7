/- A part of an interpreter of the model's code that is proved sound, and of laws told by it: DamRowGoesOn. -/
import Derived.Test.YtdehjednpdbhaaaDoorPvR1
import Derived.Test.YtdehjednpdbhaaaDoorPvR2
set_option linter.unusedVariables false
set_option linter.unusedSimpArgs false
/- The row of CampaignGoesOn, out of what the interpreter tells: written by wip/lx/mkrow.py. -/
namespace Go.Proofs.YtdehjednpdbhaaaDoor.campaignGoesOn
open Go.ChangeShapes Go.WideShapes Go.ChangeAt Go.RowKit Go.Dam
set_option linter.unusedVariables false
theorem good : ∀ t ∈ goods, goodOne tab2 goods t = true := goods_ok
theorem laidIs : Rows.campaignGoesOnRow.laid = cgLaid := rfl
set_option maxRecDepth 100000 in
theorem lifted (os : Os) (started : os.Started) (H : Type) (enc : TypeId × Value → H) :
    ReturnsInHanded {} Tryd.checked os 3 .any (fun w args => (Rows.campaignGoesOnSpec.pre enc Tryd.prog Tryd.f3 Rows.campaignGoesOnRow.domain Rows.campaignGoesOnRow.apart w args ∧ laidMetH Tryd.prog Rows.campaignGoesOnRow.laid w) ∧ sizedMet enc Tryd.prog Tryd.f3 (OpenSpec.ofChange Rows.campaignGoesOnSpec) Rows.campaignGoesOnRow.apart w args)
      (Rows.campaignGoesOnSpec.post enc Tryd.prog Tryd.f3 Rows.campaignGoesOnRow.apart true false false) := by
  rw [laidIs]
  refine returns_laid (C := Tryd.checked) (X := fun w _ => laidMetH Tryd.prog cgLaid w) (fun _ _ _ hh h => h.of_heap hh) own started (by kernel_rfl) Tryd.func3
    (ChangeSpec.witness_shaped (enc := enc) (C := Tryd.checked) (os := os) (X := fun w _ => laidMetH Tryd.prog cgLaid w) false (laidWorld os) #[.slice none 0 0] 8 (World.laidAll_os _ _ _) (laidWorld_shaped os _) (by kernel_rfl) (by kernel_rfl) (by kernel_rfl) (laidWorld_met os _)) ?_
  intro W base args ds gs before hval0 hW hsz0 hL hsh
  have hsz : (DataW.weightsEach Tryd.prog (Tryd.f3.params.toList ++ Rows.campaignGoesOnSpec.plain.varTypes Tryd.prog) (ds ++ gs)).all (· ≤ reachBytes) = true := hsz0
  have hval : ∀ (j : Nat) t v, Tryd.f3.params[j]? = some t → args[j]? = some v → Value.okWide Tryd.prog W .any base t v := hval0
  have hW' := hW
  obtain ⟨p, q, hA0, hV, rfl, hfz, hnd⟩ := hW
  have hA : DataW.TrodAll enc Tryd.prog W 0 (fun _ => true) true Tryd.f3.params.toList args.toList ds p := hA0
  rw [Tryd.params3] at hA hval hsz
  obtain ⟨rfl, rfl⟩ := trodVars_none hV
  have hsz1 : (DataW.weightsEach Tryd.prog [22] ds).all (· ≤ reachBytes) = true := by
    have h := hsz
    rw [List.append_nil] at h
    exact h
  have hc := law_calls tab2_ok tab2_ok2 tab2_eq good (f := 3) rfl (tb := 4) rfl rfl rfl (ts := [22]) (by decide) (fun av hl h => lawv3 av hl h) hA (fun j t v ht hv => hval j t v (by simpa using ht) hv) hsz1 trivial
  refine hc.mono fun e W' ⟨he, bel⟩ => ?_
  subst he
  obtain ⟨pa, hpa⟩ := args_back laidOut bel _ _ _ _ (readable [22] (by decide)) hA
  obtain ⟨v0, vs0, d0, ds0, p0, q0, hargs, rfl, hp0, h0, r0⟩ := trodAll_cons hA
  obtain ⟨rfl, rfl, hq⟩ := trodAll_nil r0
  exact ⟨_, rfl, _, _, _, [], _, [], hW', trodAll_mk1 (shut_bool Tryd.underlying4 _), hpa, rfl, bel.frame _, fun h => by cases h⟩
theorem over : Rows.campaignGoesOnRow.holds Tryd.pinned (OpenSpec.ofChange Rows.campaignGoesOnSpec) :=
  OpenClaim.holds_of_wide 3 Tryd.f3 rfl rfl rfl rfl rfl rfl rfl ⟨rfl, rfl, rfl, rfl, rfl⟩ rfl rfl rfl rfl rfl (by kernel_rfl) Tryd.func3 (by kernel_rfl)
    (of_decide_eq_true (by kernel_rfl)) (by unfold Func.isWrapper; first | (rw [if_pos (by decide +kernel)]; kernel_rfl) | (rw [if_neg (by decide +kernel)]; exact ⟨rfl, rfl⟩))
    (fun os started H enc _ => lifted os started H enc)
end Go.Proofs.YtdehjednpdbhaaaDoor.campaignGoesOn
namespace Go.Proofs.YtdehjednpdbhaaaDoor
theorem campaignGoesOn_holds : Rows.CampaignGoesOnSaid := campaignGoesOn.over
end Go.Proofs.YtdehjednpdbhaaaDoor
