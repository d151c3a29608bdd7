/- A part of an interpreter of the model's code that is proved sound, and of laws told by it: DamRowSmallest. -/
import Derived.Test.YtahifpeggdcamaaDoorPpD4
import Derived.Test.YtahifpeggdcamaaDoorPpK3
set_option linter.unusedVariables false
set_option linter.unusedSimpArgs false
/- The row of ModelSmallest, out of what the interpreter tells: written by wip/mkrow.py. -/
namespace Go.Proofs.YtahifpeggdcamaaDoor.modelSmallest
open Go.ChangeShapes Go.WideShapes Go.ChangeAt Go.RowKit Go.Dam
set_option linter.unusedVariables false
theorem good : ∀ t ∈ goods, goodOne tab goods t = true := goods_ok
set_option maxRecDepth 100000 in
theorem lifted (os : Os) (started : os.Started) (H : Type) (enc : TypeId × Value → H) :
    ReturnsInHanded {} Tryd.checked os 12 .any (fun w args => (Rows.modelSmallestSpec.pre enc Tryd.prog Tryd.f12 Rows.modelSmallestRow.domain Rows.modelSmallestRow.apart w args ∧ laidMetH Tryd.prog Rows.modelSmallestRow.laid w) ∧ sizedMet enc Tryd.prog Tryd.f12 (OpenSpec.ofChange Rows.modelSmallestSpec) Rows.modelSmallestRow.apart w args)
      (Rows.modelSmallestSpec.post enc Tryd.prog Tryd.f12 Rows.modelSmallestRow.apart true false false) := by
  refine returnsInHanded_of_change_and (C := Tryd.checked) (X := fun w _ => laidMetH Tryd.prog Rows.modelSmallestRow.laid w) (fun _ _ _ hh h => h.of_heap hh) own started (by kernel_rfl) Tryd.func12
    (ChangeSpec.witness_at (enc := enc) (C := Tryd.checked) (os := os) (X := fun w _ => laidMetH Tryd.prog Rows.modelSmallestRow.laid w) false (laidWorld os) #[.agg #[.int .i64 0, .int .i64 0, .int .i64 0, .int .i64 0, .slice none 0 0], .agg #[.int .i64 0, .int .i64 0, .int .i64 0, .int .i64 0, .slice none 0 0]] 8 rfl (by kernel_rfl) (by kernel_rfl) (by kernel_rfl) (by kernel_rfl) (by kernel_rfl) (laidWorld_met os _)) ?_
  intro W base args ds gs before hval0 hW _ hsz0 _ _
  have hsz : (DataW.weightsEach Tryd.prog (Tryd.f12.params.toList ++ Rows.modelSmallestSpec.plain.varTypes Tryd.prog) (ds ++ gs)).all (· ≤ reachBytes) = true := hsz0
  have hval : ∀ (j : Nat) t v, Tryd.f12.params[j]? = some t → args[j]? = some v → Value.okWide Tryd.prog W .any base t v := hval0
  have hW' := hW
  obtain ⟨p, q, hA0, hV, rfl, hfz, hnd⟩ := hW
  have hA : DataW.TrodAll enc Tryd.prog W 0 (fun _ => true) true Tryd.f12.params.toList args.toList ds p := hA0
  rw [Tryd.params12] at hA hval hsz
  obtain ⟨rfl, rfl⟩ := trodVars_none hV
  have hsz1 : (DataW.weightsEach Tryd.prog [30, 30] ds).all (· ≤ reachBytes) = true := by
    have h := hsz
    rw [List.append_nil] at h
    exact h
  have hc := law_calls tab_ok tab_ok2 tab_eq good (f := 12) rfl (tb := 4) rfl rfl rfl (ts := [30, 30]) (by decide) (fun av hl h => law12 av hl h) hA (fun j t v ht hv => hval j t v (by simpa using ht) hv) hsz1
  refine hc.mono fun e W' ⟨he, bel⟩ => ?_
  subst he
  obtain ⟨pa, hpa⟩ := args_back laidOut bel _ _ _ _ (readable [30, 30] (by decide)) hA
  obtain ⟨v0, vs0, d0, ds0, p0, q0, hargs, rfl, hp0, h0, r0⟩ := trodAll_cons hA
  obtain ⟨v1, vs1, d1, ds1, p1, q1, rfl, rfl, hp1, h1, r1⟩ := trodAll_cons r0
  obtain ⟨rfl, rfl, hq⟩ := trodAll_nil r1
  exact ⟨_, rfl, _, _, _, [], _, [], hW', trodAll_mk1 (shut_bool Tryd.underlying4 _), hpa, rfl, bel.frame _, fun h => by cases h⟩
theorem over : Rows.modelSmallestRow.holds Tryd.pinned (OpenSpec.ofChange Rows.modelSmallestSpec) :=
  OpenClaim.holds_of_wide 12 Tryd.f12 rfl rfl rfl rfl rfl rfl rfl ⟨rfl, rfl, rfl, rfl, rfl⟩ rfl rfl rfl rfl rfl (by kernel_rfl) Tryd.func12 (by kernel_rfl)
    (of_decide_eq_true (by kernel_rfl)) (by unfold Func.isWrapper; first | (rw [if_pos (by decide +kernel)]; kernel_rfl) | (rw [if_neg (by decide +kernel)]; exact ⟨rfl, rfl⟩))
    (fun os started H enc _ => lifted os started H enc)
end Go.Proofs.YtahifpeggdcamaaDoor.modelSmallest
namespace Go.Proofs.YtahifpeggdcamaaDoor
theorem modelSmallest_holds : Rows.ModelSmallestSaid := modelSmallest.over
end Go.Proofs.YtahifpeggdcamaaDoor
