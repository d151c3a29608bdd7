/- A part of an interpreter of the model's code that is proved sound, and of laws told by it: DamFacts. -/
import Derived.Test.YtdhbhedfbdckaaaGreatDoorPuD1
import Derived.Test.YtdhbhedfbdckaaaGreatDoorPuC6
import Derived.Test.YtdhbhedfbdckaaaGreatDoorPuB1
import Derived.Test.YtdhbhedfbdckaaaGreatDoorChecked
import Derived.Eval
import Derived.KernelRfl
set_option linter.unusedVariables false
set_option linter.unusedSimpArgs false
/- The table of this seat tells the seat's program: written by wip/mkfacts.py. -/
namespace Go.Proofs.YtdhbhedfbdckaaaGreatDoor
open Go.Dam
set_option linter.unusedVariables false
theorem fb3 : Tryz.f3.body.isSome = true ∧ (Tryz.f3.name == "runtime.NumGoroutine") = false := ⟨by kernel_rfl, by kernel_rfl⟩
theorem fb4 : Tryz.f4.body.isSome = true ∧ (Tryz.f4.name == "runtime.NumGoroutine") = false := ⟨by kernel_rfl, by kernel_rfl⟩
theorem fb5 : Tryz.f5.body.isSome = true ∧ (Tryz.f5.name == "runtime.NumGoroutine") = false := ⟨by kernel_rfl, by kernel_rfl⟩
theorem fb6 : Tryz.f6.body.isSome = true ∧ (Tryz.f6.name == "runtime.NumGoroutine") = false := ⟨by kernel_rfl, by kernel_rfl⟩
theorem fb7 : Tryz.f7.body.isSome = true ∧ (Tryz.f7.name == "runtime.NumGoroutine") = false := ⟨by kernel_rfl, by kernel_rfl⟩
theorem fb8 : Tryz.f8.body.isSome = true ∧ (Tryz.f8.name == "runtime.NumGoroutine") = false := ⟨by kernel_rfl, by kernel_rfl⟩
theorem fb9 : Tryz.f9.body.isSome = true ∧ (Tryz.f9.name == "runtime.NumGoroutine") = false := ⟨by kernel_rfl, by kernel_rfl⟩
theorem fb10 : Tryz.f10.body.isSome = true ∧ (Tryz.f10.name == "runtime.NumGoroutine") = false := ⟨by kernel_rfl, by kernel_rfl⟩
theorem fb11 : Tryz.f11.body.isSome = true ∧ (Tryz.f11.name == "runtime.NumGoroutine") = false := ⟨by kernel_rfl, by kernel_rfl⟩
theorem fb12 : Tryz.f12.body.isSome = true ∧ (Tryz.f12.name == "runtime.NumGoroutine") = false := ⟨by kernel_rfl, by kernel_rfl⟩
theorem fb13 : Tryz.f13.body.isSome = true ∧ (Tryz.f13.name == "runtime.NumGoroutine") = false := ⟨by kernel_rfl, by kernel_rfl⟩
theorem fb14 : Tryz.f14.body.isSome = true ∧ (Tryz.f14.name == "runtime.NumGoroutine") = false := ⟨by kernel_rfl, by kernel_rfl⟩
theorem fb15 : Tryz.f15.body.isSome = true ∧ (Tryz.f15.name == "runtime.NumGoroutine") = false := ⟨by kernel_rfl, by kernel_rfl⟩
theorem fb16 : Tryz.f16.body.isSome = true ∧ (Tryz.f16.name == "runtime.NumGoroutine") = false := ⟨by kernel_rfl, by kernel_rfl⟩
theorem fb17 : Tryz.f17.body.isSome = true ∧ (Tryz.f17.name == "runtime.NumGoroutine") = false := ⟨by kernel_rfl, by kernel_rfl⟩
theorem fb18 : Tryz.f18.body.isSome = true ∧ (Tryz.f18.name == "runtime.NumGoroutine") = false := ⟨by kernel_rfl, by kernel_rfl⟩
theorem fb19 : Tryz.f19.body.isSome = true ∧ (Tryz.f19.name == "runtime.NumGoroutine") = false := ⟨by kernel_rfl, by kernel_rfl⟩
theorem fb20 : Tryz.f20.body.isSome = true ∧ (Tryz.f20.name == "runtime.NumGoroutine") = false := ⟨by kernel_rfl, by kernel_rfl⟩
theorem fb21 : Tryz.f21.body.isSome = true ∧ (Tryz.f21.name == "runtime.NumGoroutine") = false := ⟨by kernel_rfl, by kernel_rfl⟩
theorem fb23 : Tryz.f23.body.isSome = true ∧ (Tryz.f23.name == "runtime.NumGoroutine") = false := ⟨by kernel_rfl, by kernel_rfl⟩
theorem fb24 : Tryz.f24.body.isSome = true ∧ (Tryz.f24.name == "runtime.NumGoroutine") = false := ⟨by kernel_rfl, by kernel_rfl⟩
theorem fb25 : Tryz.f25.body.isSome = true ∧ (Tryz.f25.name == "runtime.NumGoroutine") = false := ⟨by kernel_rfl, by kernel_rfl⟩
theorem fb26 : Tryz.f26.body.isSome = true ∧ (Tryz.f26.name == "runtime.NumGoroutine") = false := ⟨by kernel_rfl, by kernel_rfl⟩
theorem fb27 : Tryz.f27.body.isSome = true ∧ (Tryz.f27.name == "runtime.NumGoroutine") = false := ⟨by kernel_rfl, by kernel_rfl⟩
theorem fb28 : Tryz.f28.body.isSome = true ∧ (Tryz.f28.name == "runtime.NumGoroutine") = false := ⟨by kernel_rfl, by kernel_rfl⟩
theorem fb29 : Tryz.f29.body.isSome = true ∧ (Tryz.f29.name == "runtime.NumGoroutine") = false := ⟨by kernel_rfl, by kernel_rfl⟩
theorem fb30 : Tryz.f30.body.isSome = true ∧ (Tryz.f30.name == "runtime.NumGoroutine") = false := ⟨by kernel_rfl, by kernel_rfl⟩
theorem fb31 : Tryz.f31.body.isSome = true ∧ (Tryz.f31.name == "runtime.NumGoroutine") = false := ⟨by kernel_rfl, by kernel_rfl⟩
theorem fb32 : Tryz.f32.body.isSome = true ∧ (Tryz.f32.name == "runtime.NumGoroutine") = false := ⟨by kernel_rfl, by kernel_rfl⟩
theorem fb33 : Tryz.f33.body.isSome = true ∧ (Tryz.f33.name == "runtime.NumGoroutine") = false := ⟨by kernel_rfl, by kernel_rfl⟩
theorem fb34 : Tryz.f34.body.isSome = true ∧ (Tryz.f34.name == "runtime.NumGoroutine") = false := ⟨by kernel_rfl, by kernel_rfl⟩
theorem fb35 : Tryz.f35.body.isSome = true ∧ (Tryz.f35.name == "runtime.NumGoroutine") = false := ⟨by kernel_rfl, by kernel_rfl⟩
theorem fb36 : Tryz.f36.body.isSome = true ∧ (Tryz.f36.name == "runtime.NumGoroutine") = false := ⟨by kernel_rfl, by kernel_rfl⟩
theorem fb37 : Tryz.f37.body.isSome = true ∧ (Tryz.f37.name == "runtime.NumGoroutine") = false := ⟨by kernel_rfl, by kernel_rfl⟩
theorem fb38 : Tryz.f38.body.isSome = true ∧ (Tryz.f38.name == "runtime.NumGoroutine") = false := ⟨by kernel_rfl, by kernel_rfl⟩
theorem fb39 : Tryz.f39.body.isSome = true ∧ (Tryz.f39.name == "runtime.NumGoroutine") = false := ⟨by kernel_rfl, by kernel_rfl⟩
theorem fb40 : Tryz.f40.body.isSome = true ∧ (Tryz.f40.name == "runtime.NumGoroutine") = false := ⟨by kernel_rfl, by kernel_rfl⟩
theorem fb41 : Tryz.f41.body.isSome = true ∧ (Tryz.f41.name == "runtime.NumGoroutine") = false := ⟨by kernel_rfl, by kernel_rfl⟩
theorem fb46 : Tryz.f46.body.isSome = true ∧ (Tryz.f46.name == "runtime.NumGoroutine") = false := ⟨by kernel_rfl, by kernel_rfl⟩
theorem fb47 : Tryz.f47.body.isSome = true ∧ (Tryz.f47.name == "runtime.NumGoroutine") = false := ⟨by kernel_rfl, by kernel_rfl⟩
theorem fb48 : Tryz.f48.body.isSome = true ∧ (Tryz.f48.name == "runtime.NumGoroutine") = false := ⟨by kernel_rfl, by kernel_rfl⟩
theorem fb49 : Tryz.f49.body.isSome = true ∧ (Tryz.f49.name == "runtime.NumGoroutine") = false := ⟨by kernel_rfl, by kernel_rfl⟩
theorem fb50 : Tryz.f50.body.isSome = true ∧ (Tryz.f50.name == "runtime.NumGoroutine") = false := ⟨by kernel_rfl, by kernel_rfl⟩
theorem fb51 : Tryz.f51.body.isSome = true ∧ (Tryz.f51.name == "runtime.NumGoroutine") = false := ⟨by kernel_rfl, by kernel_rfl⟩
theorem fb52 : Tryz.f52.body.isSome = true ∧ (Tryz.f52.name == "runtime.NumGoroutine") = false := ⟨by kernel_rfl, by kernel_rfl⟩
theorem fb53 : Tryz.f53.body.isSome = true ∧ (Tryz.f53.name == "runtime.NumGoroutine") = false := ⟨by kernel_rfl, by kernel_rfl⟩
theorem fb54 : Tryz.f54.body.isSome = true ∧ (Tryz.f54.name == "runtime.NumGoroutine") = false := ⟨by kernel_rfl, by kernel_rfl⟩
theorem fb58 : Tryz.f58.body.isSome = true ∧ (Tryz.f58.name == "runtime.NumGoroutine") = false := ⟨by kernel_rfl, by kernel_rfl⟩
theorem fb59 : Tryz.f59.body.isSome = true ∧ (Tryz.f59.name == "runtime.NumGoroutine") = false := ⟨by kernel_rfl, by kernel_rfl⟩
theorem fb60 : Tryz.f60.body.isSome = true ∧ (Tryz.f60.name == "runtime.NumGoroutine") = false := ⟨by kernel_rfl, by kernel_rfl⟩
theorem fb61 : Tryz.f61.body.isSome = true ∧ (Tryz.f61.name == "runtime.NumGoroutine") = false := ⟨by kernel_rfl, by kernel_rfl⟩
theorem fb62 : Tryz.f62.body.isSome = true ∧ (Tryz.f62.name == "runtime.NumGoroutine") = false := ⟨by kernel_rfl, by kernel_rfl⟩
theorem fb63 : Tryz.f63.body.isSome = true ∧ (Tryz.f63.name == "runtime.NumGoroutine") = false := ⟨by kernel_rfl, by kernel_rfl⟩
theorem fb64 : Tryz.f64.body.isSome = true ∧ (Tryz.f64.name == "runtime.NumGoroutine") = false := ⟨by kernel_rfl, by kernel_rfl⟩
theorem fb65 : Tryz.f65.body.isSome = true ∧ (Tryz.f65.name == "runtime.NumGoroutine") = false := ⟨by kernel_rfl, by kernel_rfl⟩
theorem fb66 : Tryz.f66.body.isSome = true ∧ (Tryz.f66.name == "runtime.NumGoroutine") = false := ⟨by kernel_rfl, by kernel_rfl⟩
theorem fb71 : Tryz.f71.body.isSome = true ∧ (Tryz.f71.name == "runtime.NumGoroutine") = false := ⟨by kernel_rfl, by kernel_rfl⟩
theorem fb72 : Tryz.f72.body.isSome = true ∧ (Tryz.f72.name == "runtime.NumGoroutine") = false := ⟨by kernel_rfl, by kernel_rfl⟩
theorem fb73 : Tryz.f73.body.isSome = true ∧ (Tryz.f73.name == "runtime.NumGoroutine") = false := ⟨by kernel_rfl, by kernel_rfl⟩
theorem fb74 : Tryz.f74.body.isSome = true ∧ (Tryz.f74.name == "runtime.NumGoroutine") = false := ⟨by kernel_rfl, by kernel_rfl⟩
theorem fb81 : Tryz.f81.body.isSome = true ∧ (Tryz.f81.name == "runtime.NumGoroutine") = false := ⟨by kernel_rfl, by kernel_rfl⟩
theorem fb82 : Tryz.f82.body.isSome = true ∧ (Tryz.f82.name == "runtime.NumGoroutine") = false := ⟨by kernel_rfl, by kernel_rfl⟩
theorem fb83 : Tryz.f83.body.isSome = true ∧ (Tryz.f83.name == "runtime.NumGoroutine") = false := ⟨by kernel_rfl, by kernel_rfl⟩
theorem fb84 : Tryz.f84.body.isSome = true ∧ (Tryz.f84.name == "runtime.NumGoroutine") = false := ⟨by kernel_rfl, by kernel_rfl⟩
theorem fb85 : Tryz.f85.body.isSome = true ∧ (Tryz.f85.name == "runtime.NumGoroutine") = false := ⟨by kernel_rfl, by kernel_rfl⟩
theorem fb86 : Tryz.f86.body.isSome = true ∧ (Tryz.f86.name == "runtime.NumGoroutine") = false := ⟨by kernel_rfl, by kernel_rfl⟩
theorem fb87 : Tryz.f87.body.isSome = true ∧ (Tryz.f87.name == "runtime.NumGoroutine") = false := ⟨by kernel_rfl, by kernel_rfl⟩
theorem fb88 : Tryz.f88.body.isSome = true ∧ (Tryz.f88.name == "runtime.NumGoroutine") = false := ⟨by kernel_rfl, by kernel_rfl⟩
theorem fb89 : Tryz.f89.body.isSome = true ∧ (Tryz.f89.name == "runtime.NumGoroutine") = false := ⟨by kernel_rfl, by kernel_rfl⟩
theorem fb90 : Tryz.f90.body.isSome = true ∧ (Tryz.f90.name == "runtime.NumGoroutine") = false := ⟨by kernel_rfl, by kernel_rfl⟩
theorem fb91 : Tryz.f91.body.isSome = true ∧ (Tryz.f91.name == "runtime.NumGoroutine") = false := ⟨by kernel_rfl, by kernel_rfl⟩
theorem fb92 : Tryz.f92.body.isSome = true ∧ (Tryz.f92.name == "runtime.NumGoroutine") = false := ⟨by kernel_rfl, by kernel_rfl⟩
theorem fb93 : Tryz.f93.body.isSome = true ∧ (Tryz.f93.name == "runtime.NumGoroutine") = false := ⟨by kernel_rfl, by kernel_rfl⟩
theorem fb103 : Tryz.f103.body.isSome = true ∧ (Tryz.f103.name == "runtime.NumGoroutine") = false := ⟨by kernel_rfl, by kernel_rfl⟩
theorem fb104 : Tryz.f104.body.isSome = true ∧ (Tryz.f104.name == "runtime.NumGoroutine") = false := ⟨by kernel_rfl, by kernel_rfl⟩
theorem fb105 : Tryz.f105.body.isSome = true ∧ (Tryz.f105.name == "runtime.NumGoroutine") = false := ⟨by kernel_rfl, by kernel_rfl⟩
theorem fb117 : Tryz.f117.body.isSome = true ∧ (Tryz.f117.name == "runtime.NumGoroutine") = false := ⟨by kernel_rfl, by kernel_rfl⟩
theorem fn_ok : ∀ f fn, tabFn f = some fn → Tryz.prog.funcs[f]? = some fn ∧ fn.body.isSome = true ∧ (fn.name == "runtime.NumGoroutine") = false := by
  intro f fn h
  unfold tabFn at h
  split at h
  · cases h; exact ⟨Tryz.func3, fb3⟩
  · cases h; exact ⟨Tryz.func4, fb4⟩
  · cases h; exact ⟨Tryz.func5, fb5⟩
  · cases h; exact ⟨Tryz.func6, fb6⟩
  · cases h; exact ⟨Tryz.func7, fb7⟩
  · cases h; exact ⟨Tryz.func8, fb8⟩
  · cases h; exact ⟨Tryz.func9, fb9⟩
  · cases h; exact ⟨Tryz.func10, fb10⟩
  · cases h; exact ⟨Tryz.func11, fb11⟩
  · cases h; exact ⟨Tryz.func12, fb12⟩
  · cases h; exact ⟨Tryz.func13, fb13⟩
  · cases h; exact ⟨Tryz.func14, fb14⟩
  · cases h; exact ⟨Tryz.func15, fb15⟩
  · cases h; exact ⟨Tryz.func16, fb16⟩
  · cases h; exact ⟨Tryz.func17, fb17⟩
  · cases h; exact ⟨Tryz.func18, fb18⟩
  · cases h; exact ⟨Tryz.func19, fb19⟩
  · cases h; exact ⟨Tryz.func20, fb20⟩
  · cases h; exact ⟨Tryz.func21, fb21⟩
  · cases h; exact ⟨Tryz.func23, fb23⟩
  · cases h; exact ⟨Tryz.func24, fb24⟩
  · cases h; exact ⟨Tryz.func25, fb25⟩
  · cases h; exact ⟨Tryz.func26, fb26⟩
  · cases h; exact ⟨Tryz.func27, fb27⟩
  · cases h; exact ⟨Tryz.func28, fb28⟩
  · cases h; exact ⟨Tryz.func29, fb29⟩
  · cases h; exact ⟨Tryz.func30, fb30⟩
  · cases h; exact ⟨Tryz.func31, fb31⟩
  · cases h; exact ⟨Tryz.func32, fb32⟩
  · cases h; exact ⟨Tryz.func33, fb33⟩
  · cases h; exact ⟨Tryz.func34, fb34⟩
  · cases h; exact ⟨Tryz.func35, fb35⟩
  · cases h; exact ⟨Tryz.func36, fb36⟩
  · cases h; exact ⟨Tryz.func37, fb37⟩
  · cases h; exact ⟨Tryz.func38, fb38⟩
  · cases h; exact ⟨Tryz.func39, fb39⟩
  · cases h; exact ⟨Tryz.func40, fb40⟩
  · cases h; exact ⟨Tryz.func41, fb41⟩
  · cases h; exact ⟨Tryz.func46, fb46⟩
  · cases h; exact ⟨Tryz.func47, fb47⟩
  · cases h; exact ⟨Tryz.func48, fb48⟩
  · cases h; exact ⟨Tryz.func49, fb49⟩
  · cases h; exact ⟨Tryz.func50, fb50⟩
  · cases h; exact ⟨Tryz.func51, fb51⟩
  · cases h; exact ⟨Tryz.func52, fb52⟩
  · cases h; exact ⟨Tryz.func53, fb53⟩
  · cases h; exact ⟨Tryz.func54, fb54⟩
  · cases h; exact ⟨Tryz.func58, fb58⟩
  · cases h; exact ⟨Tryz.func59, fb59⟩
  · cases h; exact ⟨Tryz.func60, fb60⟩
  · cases h; exact ⟨Tryz.func61, fb61⟩
  · cases h; exact ⟨Tryz.func62, fb62⟩
  · cases h; exact ⟨Tryz.func63, fb63⟩
  · cases h; exact ⟨Tryz.func64, fb64⟩
  · cases h; exact ⟨Tryz.func65, fb65⟩
  · cases h; exact ⟨Tryz.func66, fb66⟩
  · cases h; exact ⟨Tryz.func71, fb71⟩
  · cases h; exact ⟨Tryz.func72, fb72⟩
  · cases h; exact ⟨Tryz.func73, fb73⟩
  · cases h; exact ⟨Tryz.func74, fb74⟩
  · cases h; exact ⟨Tryz.func81, fb81⟩
  · cases h; exact ⟨Tryz.func82, fb82⟩
  · cases h; exact ⟨Tryz.func83, fb83⟩
  · cases h; exact ⟨Tryz.func84, fb84⟩
  · cases h; exact ⟨Tryz.func85, fb85⟩
  · cases h; exact ⟨Tryz.func86, fb86⟩
  · cases h; exact ⟨Tryz.func87, fb87⟩
  · cases h; exact ⟨Tryz.func88, fb88⟩
  · cases h; exact ⟨Tryz.func89, fb89⟩
  · cases h; exact ⟨Tryz.func90, fb90⟩
  · cases h; exact ⟨Tryz.func91, fb91⟩
  · cases h; exact ⟨Tryz.func92, fb92⟩
  · cases h; exact ⟨Tryz.func93, fb93⟩
  · cases h; exact ⟨Tryz.func103, fb103⟩
  · cases h; exact ⟨Tryz.func104, fb104⟩
  · cases h; exact ⟨Tryz.func105, fb105⟩
  · cases h; exact ⟨Tryz.func117, fb117⟩
  · cases h
theorem res_ok : ∀ f fn, tabFn f = some fn → tabRes f = fn.resultTypes.toList := by
  intro f fn h
  unfold tabFn at h
  split at h
  · cases h; kernel_rfl
  · cases h; kernel_rfl
  · cases h; kernel_rfl
  · cases h; kernel_rfl
  · cases h; kernel_rfl
  · cases h; kernel_rfl
  · cases h; kernel_rfl
  · cases h; kernel_rfl
  · cases h; kernel_rfl
  · cases h; kernel_rfl
  · cases h; kernel_rfl
  · cases h; kernel_rfl
  · cases h; kernel_rfl
  · cases h; kernel_rfl
  · cases h; kernel_rfl
  · cases h; kernel_rfl
  · cases h; kernel_rfl
  · cases h; kernel_rfl
  · cases h; kernel_rfl
  · cases h; kernel_rfl
  · cases h; kernel_rfl
  · cases h; kernel_rfl
  · cases h; kernel_rfl
  · cases h; kernel_rfl
  · cases h; kernel_rfl
  · cases h; kernel_rfl
  · cases h; kernel_rfl
  · cases h; kernel_rfl
  · cases h; kernel_rfl
  · cases h; kernel_rfl
  · cases h; kernel_rfl
  · cases h; kernel_rfl
  · cases h; kernel_rfl
  · cases h; kernel_rfl
  · cases h; kernel_rfl
  · cases h; kernel_rfl
  · cases h; kernel_rfl
  · cases h; kernel_rfl
  · cases h; kernel_rfl
  · cases h; kernel_rfl
  · cases h; kernel_rfl
  · cases h; kernel_rfl
  · cases h; kernel_rfl
  · cases h; kernel_rfl
  · cases h; kernel_rfl
  · cases h; kernel_rfl
  · cases h; kernel_rfl
  · cases h; kernel_rfl
  · cases h; kernel_rfl
  · cases h; kernel_rfl
  · cases h; kernel_rfl
  · cases h; kernel_rfl
  · cases h; kernel_rfl
  · cases h; kernel_rfl
  · cases h; kernel_rfl
  · cases h; kernel_rfl
  · cases h; kernel_rfl
  · cases h; kernel_rfl
  · cases h; kernel_rfl
  · cases h; kernel_rfl
  · cases h; kernel_rfl
  · cases h; kernel_rfl
  · cases h; kernel_rfl
  · cases h; kernel_rfl
  · cases h; kernel_rfl
  · cases h; kernel_rfl
  · cases h; kernel_rfl
  · cases h; kernel_rfl
  · cases h; kernel_rfl
  · cases h; kernel_rfl
  · cases h; kernel_rfl
  · cases h; kernel_rfl
  · cases h; kernel_rfl
  · cases h; kernel_rfl
  · cases h; kernel_rfl
  · cases h; kernel_rfl
  · cases h; kernel_rfl
  · cases h
theorem pl3 : plansOk (tabPlan 3) (bodyOf Tryz.f3) = true := by kernel_rfl
theorem pl4 : plansOk (tabPlan 4) (bodyOf Tryz.f4) = true := by kernel_rfl
theorem pl5 : plansOk (tabPlan 5) (bodyOf Tryz.f5) = true := by kernel_rfl
theorem pl6 : plansOk (tabPlan 6) (bodyOf Tryz.f6) = true := by kernel_rfl
theorem pl7 : plansOk (tabPlan 7) (bodyOf Tryz.f7) = true := by kernel_rfl
theorem pl8 : plansOk (tabPlan 8) (bodyOf Tryz.f8) = true := by kernel_rfl
theorem pl9 : plansOk (tabPlan 9) (bodyOf Tryz.f9) = true := by kernel_rfl
theorem pl10 : plansOk (tabPlan 10) (bodyOf Tryz.f10) = true := by kernel_rfl
theorem pl11 : plansOk (tabPlan 11) (bodyOf Tryz.f11) = true := by kernel_rfl
theorem pl12 : plansOk (tabPlan 12) (bodyOf Tryz.f12) = true := by kernel_rfl
theorem pl13 : plansOk (tabPlan 13) (bodyOf Tryz.f13) = true := by kernel_rfl
theorem pl14 : plansOk (tabPlan 14) (bodyOf Tryz.f14) = true := by kernel_rfl
theorem pl15 : plansOk (tabPlan 15) (bodyOf Tryz.f15) = true := by kernel_rfl
theorem pl16 : plansOk (tabPlan 16) (bodyOf Tryz.f16) = true := by kernel_rfl
theorem pl17 : plansOk (tabPlan 17) (bodyOf Tryz.f17) = true := by kernel_rfl
theorem pl18 : plansOk (tabPlan 18) (bodyOf Tryz.f18) = true := by kernel_rfl
theorem pl19 : plansOk (tabPlan 19) (bodyOf Tryz.f19) = true := by kernel_rfl
theorem pl20 : plansOk (tabPlan 20) (bodyOf Tryz.f20) = true := by kernel_rfl
theorem pl21 : plansOk (tabPlan 21) (bodyOf Tryz.f21) = true := by kernel_rfl
theorem pl23 : plansOk (tabPlan 23) (bodyOf Tryz.f23) = true := by kernel_rfl
theorem pl24 : plansOk (tabPlan 24) (bodyOf Tryz.f24) = true := by kernel_rfl
theorem pl25 : plansOk (tabPlan 25) (bodyOf Tryz.f25) = true := by kernel_rfl
theorem pl26 : plansOk (tabPlan 26) (bodyOf Tryz.f26) = true := by kernel_rfl
theorem pl27 : plansOk (tabPlan 27) (bodyOf Tryz.f27) = true := by kernel_rfl
theorem pl28 : plansOk (tabPlan 28) (bodyOf Tryz.f28) = true := by kernel_rfl
theorem pl29 : plansOk (tabPlan 29) (bodyOf Tryz.f29) = true := by kernel_rfl
theorem pl30 : plansOk (tabPlan 30) (bodyOf Tryz.f30) = true := by kernel_rfl
theorem pl31 : plansOk (tabPlan 31) (bodyOf Tryz.f31) = true := by kernel_rfl
theorem pl32 : plansOk (tabPlan 32) (bodyOf Tryz.f32) = true := by kernel_rfl
theorem pl33 : plansOk (tabPlan 33) (bodyOf Tryz.f33) = true := by kernel_rfl
theorem pl34 : plansOk (tabPlan 34) (bodyOf Tryz.f34) = true := by kernel_rfl
theorem pl35 : plansOk (tabPlan 35) (bodyOf Tryz.f35) = true := by kernel_rfl
theorem pl36 : plansOk (tabPlan 36) (bodyOf Tryz.f36) = true := by kernel_rfl
theorem pl37 : plansOk (tabPlan 37) (bodyOf Tryz.f37) = true := by kernel_rfl
theorem pl38 : plansOk (tabPlan 38) (bodyOf Tryz.f38) = true := by kernel_rfl
theorem pl39 : plansOk (tabPlan 39) (bodyOf Tryz.f39) = true := by kernel_rfl
theorem pl40 : plansOk (tabPlan 40) (bodyOf Tryz.f40) = true := by kernel_rfl
theorem pl41 : plansOk (tabPlan 41) (bodyOf Tryz.f41) = true := by kernel_rfl
theorem pl46 : plansOk (tabPlan 46) (bodyOf Tryz.f46) = true := by kernel_rfl
theorem pl47 : plansOk (tabPlan 47) (bodyOf Tryz.f47) = true := by kernel_rfl
theorem pl48 : plansOk (tabPlan 48) (bodyOf Tryz.f48) = true := by kernel_rfl
theorem pl49 : plansOk (tabPlan 49) (bodyOf Tryz.f49) = true := by kernel_rfl
theorem pl50 : plansOk (tabPlan 50) (bodyOf Tryz.f50) = true := by kernel_rfl
theorem pl51 : plansOk (tabPlan 51) (bodyOf Tryz.f51) = true := by kernel_rfl
theorem pl52 : plansOk (tabPlan 52) (bodyOf Tryz.f52) = true := by kernel_rfl
theorem pl53 : plansOk (tabPlan 53) (bodyOf Tryz.f53) = true := by kernel_rfl
theorem pl54 : plansOk (tabPlan 54) (bodyOf Tryz.f54) = true := by kernel_rfl
theorem pl58 : plansOk (tabPlan 58) (bodyOf Tryz.f58) = true := by kernel_rfl
theorem pl59 : plansOk (tabPlan 59) (bodyOf Tryz.f59) = true := by kernel_rfl
theorem pl60 : plansOk (tabPlan 60) (bodyOf Tryz.f60) = true := by kernel_rfl
theorem pl61 : plansOk (tabPlan 61) (bodyOf Tryz.f61) = true := by kernel_rfl
theorem pl62 : plansOk (tabPlan 62) (bodyOf Tryz.f62) = true := by kernel_rfl
theorem pl63 : plansOk (tabPlan 63) (bodyOf Tryz.f63) = true := by kernel_rfl
theorem pl64 : plansOk (tabPlan 64) (bodyOf Tryz.f64) = true := by kernel_rfl
theorem pl65 : plansOk (tabPlan 65) (bodyOf Tryz.f65) = true := by kernel_rfl
theorem pl66 : plansOk (tabPlan 66) (bodyOf Tryz.f66) = true := by kernel_rfl
theorem pl71 : plansOk (tabPlan 71) (bodyOf Tryz.f71) = true := by kernel_rfl
theorem pl72 : plansOk (tabPlan 72) (bodyOf Tryz.f72) = true := by kernel_rfl
theorem pl73 : plansOk (tabPlan 73) (bodyOf Tryz.f73) = true := by kernel_rfl
theorem pl74 : plansOk (tabPlan 74) (bodyOf Tryz.f74) = true := by kernel_rfl
theorem pl81 : plansOk (tabPlan 81) (bodyOf Tryz.f81) = true := by kernel_rfl
theorem pl82 : plansOk (tabPlan 82) (bodyOf Tryz.f82) = true := by kernel_rfl
theorem pl83 : plansOk (tabPlan 83) (bodyOf Tryz.f83) = true := by kernel_rfl
theorem pl84 : plansOk (tabPlan 84) (bodyOf Tryz.f84) = true := by kernel_rfl
theorem pl85 : plansOk (tabPlan 85) (bodyOf Tryz.f85) = true := by kernel_rfl
theorem pl86 : plansOk (tabPlan 86) (bodyOf Tryz.f86) = true := by kernel_rfl
theorem pl87 : plansOk (tabPlan 87) (bodyOf Tryz.f87) = true := by kernel_rfl
theorem pl88 : plansOk (tabPlan 88) (bodyOf Tryz.f88) = true := by kernel_rfl
theorem pl89 : plansOk (tabPlan 89) (bodyOf Tryz.f89) = true := by kernel_rfl
theorem pl90 : plansOk (tabPlan 90) (bodyOf Tryz.f90) = true := by kernel_rfl
theorem pl91 : plansOk (tabPlan 91) (bodyOf Tryz.f91) = true := by kernel_rfl
theorem pl92 : plansOk (tabPlan 92) (bodyOf Tryz.f92) = true := by kernel_rfl
theorem pl93 : plansOk (tabPlan 93) (bodyOf Tryz.f93) = true := by kernel_rfl
theorem pl103 : plansOk (tabPlan 103) (bodyOf Tryz.f103) = true := by kernel_rfl
theorem pl104 : plansOk (tabPlan 104) (bodyOf Tryz.f104) = true := by kernel_rfl
theorem pl105 : plansOk (tabPlan 105) (bodyOf Tryz.f105) = true := by kernel_rfl
theorem pl117 : plansOk (tabPlan 117) (bodyOf Tryz.f117) = true := by kernel_rfl
theorem plans_ok : ∀ f fn, tabFn f = some fn → plansOk (tabPlan f) (bodyOf fn) = true := by
  intro f fn h
  unfold tabFn at h
  split at h
  · cases h; exact pl3
  · cases h; exact pl4
  · cases h; exact pl5
  · cases h; exact pl6
  · cases h; exact pl7
  · cases h; exact pl8
  · cases h; exact pl9
  · cases h; exact pl10
  · cases h; exact pl11
  · cases h; exact pl12
  · cases h; exact pl13
  · cases h; exact pl14
  · cases h; exact pl15
  · cases h; exact pl16
  · cases h; exact pl17
  · cases h; exact pl18
  · cases h; exact pl19
  · cases h; exact pl20
  · cases h; exact pl21
  · cases h; exact pl23
  · cases h; exact pl24
  · cases h; exact pl25
  · cases h; exact pl26
  · cases h; exact pl27
  · cases h; exact pl28
  · cases h; exact pl29
  · cases h; exact pl30
  · cases h; exact pl31
  · cases h; exact pl32
  · cases h; exact pl33
  · cases h; exact pl34
  · cases h; exact pl35
  · cases h; exact pl36
  · cases h; exact pl37
  · cases h; exact pl38
  · cases h; exact pl39
  · cases h; exact pl40
  · cases h; exact pl41
  · cases h; exact pl46
  · cases h; exact pl47
  · cases h; exact pl48
  · cases h; exact pl49
  · cases h; exact pl50
  · cases h; exact pl51
  · cases h; exact pl52
  · cases h; exact pl53
  · cases h; exact pl54
  · cases h; exact pl58
  · cases h; exact pl59
  · cases h; exact pl60
  · cases h; exact pl61
  · cases h; exact pl62
  · cases h; exact pl63
  · cases h; exact pl64
  · cases h; exact pl65
  · cases h; exact pl66
  · cases h; exact pl71
  · cases h; exact pl72
  · cases h; exact pl73
  · cases h; exact pl74
  · cases h; exact pl81
  · cases h; exact pl82
  · cases h; exact pl83
  · cases h; exact pl84
  · cases h; exact pl85
  · cases h; exact pl86
  · cases h; exact pl87
  · cases h; exact pl88
  · cases h; exact pl89
  · cases h; exact pl90
  · cases h; exact pl91
  · cases h; exact pl92
  · cases h; exact pl93
  · cases h; exact pl103
  · cases h; exact pl104
  · cases h; exact pl105
  · cases h; exact pl117
  · cases h
theorem ty_ok : ∀ t d, tabTy t = some d → Tryz.prog.underlying t = some d := by
  intro t d h
  unfold tabTy at h
  split at h
  · cases h; kernel_rfl
  · cases h; kernel_rfl
  · cases h; kernel_rfl
  · cases h; kernel_rfl
  · cases h; kernel_rfl
  · cases h; kernel_rfl
  · cases h; kernel_rfl
  · cases h; kernel_rfl
  · cases h; kernel_rfl
  · cases h; kernel_rfl
  · cases h; kernel_rfl
  · cases h; kernel_rfl
  · cases h; kernel_rfl
  · cases h; kernel_rfl
  · cases h; kernel_rfl
  · cases h; kernel_rfl
  · cases h; kernel_rfl
  · cases h; kernel_rfl
  · cases h; kernel_rfl
  · cases h; kernel_rfl
  · cases h; kernel_rfl
  · cases h; kernel_rfl
  · cases h; kernel_rfl
  · cases h; kernel_rfl
  · cases h; kernel_rfl
  · cases h; kernel_rfl
  · cases h; kernel_rfl
  · cases h; kernel_rfl
  · cases h; kernel_rfl
  · cases h; kernel_rfl
  · cases h; kernel_rfl
  · cases h; kernel_rfl
  · cases h; kernel_rfl
  · cases h; kernel_rfl
  · cases h; kernel_rfl
  · cases h; kernel_rfl
  · cases h; kernel_rfl
  · cases h; kernel_rfl
  · cases h; kernel_rfl
  · cases h; kernel_rfl
  · cases h; kernel_rfl
  · cases h; kernel_rfl
  · cases h; kernel_rfl
  · cases h; kernel_rfl
  · cases h; kernel_rfl
  · cases h; kernel_rfl
  · cases h; kernel_rfl
  · cases h; kernel_rfl
  · cases h; kernel_rfl
  · cases h; kernel_rfl
  · cases h; kernel_rfl
  · cases h; kernel_rfl
  · cases h; kernel_rfl
  · cases h; kernel_rfl
  · cases h; kernel_rfl
  · cases h; kernel_rfl
  · cases h; kernel_rfl
  · cases h; kernel_rfl
  · cases h; kernel_rfl
  · cases h; kernel_rfl
  · cases h; kernel_rfl
  · cases h
def InfoP (t : Nat) (z : List AV) (s b : Nat) : Prop := ∃ i zv, Tryz.prog.info? t = some i ∧ i.size = s ∧ i.bytes = b ∧ i.zero = some zv ∧ z.length = s ∧ zv.cells = (z.map zval).toArray ∧ (∀ a ∈ z, zcell a = true) ∧
    (∃ d, tabTy t = some d ∧ (isAggD d = false → s = 1)) ∧ ((match (match tabTy t with | some d => some (isAggD d) | none => none) with | some true => true | _ => false) = false → zv.cells = #[zv])
theorem inf2 : InfoP 2 [.sc (.int .i64 0)] 1 8 := ⟨Tryz.t2, (.int .i64 0), by kernel_rfl, rfl, rfl, by kernel_rfl, rfl, rfl, List.all_eq_true.1 (by rfl), ⟨_, rfl, fun _ => rfl⟩, fun _ => rfl⟩
theorem inf3 : InfoP 3 [.sc (.int .i64 0)] 1 8 := ⟨Tryz.t3, (.int .i64 0), by kernel_rfl, rfl, rfl, by kernel_rfl, rfl, rfl, List.all_eq_true.1 (by rfl), ⟨_, rfl, fun _ => rfl⟩, fun _ => rfl⟩
theorem inf4 : InfoP 4 [.sc (.bool false)] 1 1 := ⟨Tryz.t4, (.bool false), by kernel_rfl, rfl, rfl, by kernel_rfl, rfl, rfl, List.all_eq_true.1 (by rfl), ⟨_, rfl, fun _ => rfl⟩, fun _ => rfl⟩
theorem inf5 : InfoP 5 [.sc (.int .u8 0)] 1 1 := ⟨Tryz.t5, (.int .u8 0), by kernel_rfl, rfl, rfl, by kernel_rfl, rfl, rfl, List.all_eq_true.1 (by rfl), ⟨_, rfl, fun _ => rfl⟩, fun _ => rfl⟩
theorem inf6 : InfoP 6 [.sc (.int .u8 0)] 1 1 := ⟨Tryz.t6, (.int .u8 0), by kernel_rfl, rfl, rfl, by kernel_rfl, rfl, rfl, List.all_eq_true.1 (by rfl), ⟨_, rfl, fun _ => rfl⟩, fun _ => rfl⟩
theorem inf7 : InfoP 7 [.sc (.int .i64 0), .sc (.int .i64 0), .sc (.bool false), .sc (.int .u8 0)] 4 24 := ⟨Tryz.t7, (.agg #[.int .i64 0, .int .i64 0, .bool false, .int .u8 0]), by kernel_rfl, rfl, rfl, by kernel_rfl, rfl, rfl, List.all_eq_true.1 (by rfl), ⟨_, rfl, fun h => nomatch h⟩, fun h => nomatch h⟩
theorem inf8 : InfoP 8 [.sc (.int .i64 0), .sc (.int .i64 0), .sc (.bool false), .sc (.int .u8 0)] 4 24 := ⟨Tryz.t8, (.agg #[.int .i64 0, .int .i64 0, .bool false, .int .u8 0]), by kernel_rfl, rfl, rfl, by kernel_rfl, rfl, rfl, List.all_eq_true.1 (by rfl), ⟨_, rfl, fun h => nomatch h⟩, fun h => nomatch h⟩
theorem inf9 : InfoP 9 [.sc (.string ByteArray.empty)] 1 16 := ⟨Tryz.t9, (.string ByteArray.empty), by kernel_rfl, rfl, rfl, by kernel_rfl, rfl, rfl, List.all_eq_true.1 (by rfl), ⟨_, rfl, fun _ => rfl⟩, fun _ => rfl⟩
theorem inf10 : InfoP 10 [.sc (.string ByteArray.empty)] 1 16 := ⟨Tryz.t10, (.string ByteArray.empty), by kernel_rfl, rfl, rfl, by kernel_rfl, rfl, rfl, List.all_eq_true.1 (by rfl), ⟨_, rfl, fun _ => rfl⟩, fun _ => rfl⟩
theorem inf11 : InfoP 11 [.sc (.string ByteArray.empty)] 1 16 := ⟨Tryz.t11, (.string ByteArray.empty), by kernel_rfl, rfl, rfl, by kernel_rfl, rfl, rfl, List.all_eq_true.1 (by rfl), ⟨_, rfl, fun _ => rfl⟩, fun _ => rfl⟩
theorem inf12 : InfoP 12 [.sc (.int .u64 0)] 1 8 := ⟨Tryz.t12, (.int .u64 0), by kernel_rfl, rfl, rfl, by kernel_rfl, rfl, rfl, List.all_eq_true.1 (by rfl), ⟨_, rfl, fun _ => rfl⟩, fun _ => rfl⟩
theorem inf13 : InfoP 13 [.sc (.string ByteArray.empty), .sc (.int .u64 0)] 2 24 := ⟨Tryz.t13, (.agg #[.string ByteArray.empty, .int .u64 0]), by kernel_rfl, rfl, rfl, by kernel_rfl, rfl, rfl, List.all_eq_true.1 (by rfl), ⟨_, rfl, fun h => nomatch h⟩, fun h => nomatch h⟩
theorem inf14 : InfoP 14 [.sc (.string ByteArray.empty), .sc (.int .u64 0)] 2 24 := ⟨Tryz.t14, (.agg #[.string ByteArray.empty, .int .u64 0]), by kernel_rfl, rfl, rfl, by kernel_rfl, rfl, rfl, List.all_eq_true.1 (by rfl), ⟨_, rfl, fun h => nomatch h⟩, fun h => nomatch h⟩
theorem inf15 : InfoP 15 [.sc (.pointer none)] 1 8 := ⟨Tryz.t15, (.pointer none), by kernel_rfl, rfl, rfl, by kernel_rfl, rfl, rfl, List.all_eq_true.1 (by rfl), ⟨_, rfl, fun _ => rfl⟩, fun _ => rfl⟩
theorem inf16 : InfoP 16 [.sc (.pointer none)] 1 8 := ⟨Tryz.t16, (.pointer none), by kernel_rfl, rfl, rfl, by kernel_rfl, rfl, rfl, List.all_eq_true.1 (by rfl), ⟨_, rfl, fun _ => rfl⟩, fun _ => rfl⟩
theorem inf17 : InfoP 17 [.sc (.pointer none)] 1 8 := ⟨Tryz.t17, (.pointer none), by kernel_rfl, rfl, rfl, by kernel_rfl, rfl, rfl, List.all_eq_true.1 (by rfl), ⟨_, rfl, fun _ => rfl⟩, fun _ => rfl⟩
theorem inf18 : InfoP 18 [.sc (.pointer none)] 1 8 := ⟨Tryz.t18, (.agg #[.pointer none]), by kernel_rfl, rfl, rfl, by kernel_rfl, rfl, rfl, List.all_eq_true.1 (by rfl), ⟨_, rfl, fun h => nomatch h⟩, fun h => nomatch h⟩
theorem inf19 : InfoP 19 [.sc (.pointer none)] 1 8 := ⟨Tryz.t19, (.agg #[.pointer none]), by kernel_rfl, rfl, rfl, by kernel_rfl, rfl, rfl, List.all_eq_true.1 (by rfl), ⟨_, rfl, fun h => nomatch h⟩, fun h => nomatch h⟩
theorem inf21 : InfoP 21 [.sc (.int .i32 0)] 1 4 := ⟨Tryz.t21, (.int .i32 0), by kernel_rfl, rfl, rfl, by kernel_rfl, rfl, rfl, List.all_eq_true.1 (by rfl), ⟨_, rfl, fun _ => rfl⟩, fun _ => rfl⟩
theorem inf24 : InfoP 24 [.sl 35 []] 1 24 := ⟨Tryz.t24, (.slice none 0 0), by kernel_rfl, rfl, rfl, by kernel_rfl, rfl, rfl, List.all_eq_true.1 (by rfl), ⟨_, rfl, fun _ => rfl⟩, fun _ => rfl⟩
theorem inf25 : InfoP 25 [.sc (.int .i64 0)] 1 8 := ⟨Tryz.t25, (.int .i64 0), by kernel_rfl, rfl, rfl, by kernel_rfl, rfl, rfl, List.all_eq_true.1 (by rfl), ⟨_, rfl, fun _ => rfl⟩, fun _ => rfl⟩
theorem inf28 : InfoP 28 [.sc (.pointer none)] 1 8 := ⟨Tryz.t28, (.pointer none), by kernel_rfl, rfl, rfl, by kernel_rfl, rfl, rfl, List.all_eq_true.1 (by rfl), ⟨_, rfl, fun _ => rfl⟩, fun _ => rfl⟩
theorem inf30 : InfoP 30 [.sl 40 []] 1 24 := ⟨Tryz.t30, (.slice none 0 0), by kernel_rfl, rfl, rfl, by kernel_rfl, rfl, rfl, List.all_eq_true.1 (by rfl), ⟨_, rfl, fun _ => rfl⟩, fun _ => rfl⟩
theorem inf31 : InfoP 31 [.sl 35 [], .sl 40 [], .sc (.int .i64 0), .sc (.int .i64 0)] 4 64 := ⟨Tryz.t31, (.agg #[.slice none 0 0, .slice none 0 0, .int .i64 0, .int .i64 0]), by kernel_rfl, rfl, rfl, by kernel_rfl, rfl, rfl, List.all_eq_true.1 (by rfl), ⟨_, rfl, fun h => nomatch h⟩, fun h => nomatch h⟩
theorem inf32 : InfoP 32 [.sl 35 [], .sl 40 [], .sc (.int .i64 0), .sc (.int .i64 0)] 4 64 := ⟨Tryz.t32, (.agg #[.slice none 0 0, .slice none 0 0, .int .i64 0, .int .i64 0]), by kernel_rfl, rfl, rfl, by kernel_rfl, rfl, rfl, List.all_eq_true.1 (by rfl), ⟨_, rfl, fun h => nomatch h⟩, fun h => nomatch h⟩
theorem inf34 : InfoP 34 [.sc (.int .i64 0), .sc (.string ByteArray.empty), .sc (.int .i64 0)] 3 32 := ⟨Tryz.t34, (.agg #[.int .i64 0, .string ByteArray.empty, .int .i64 0]), by kernel_rfl, rfl, rfl, by kernel_rfl, rfl, rfl, List.all_eq_true.1 (by rfl), ⟨_, rfl, fun h => nomatch h⟩, fun h => nomatch h⟩
theorem inf35 : InfoP 35 [.sc (.int .i64 0), .sc (.string ByteArray.empty), .sc (.int .i64 0)] 3 32 := ⟨Tryz.t35, (.agg #[.int .i64 0, .string ByteArray.empty, .int .i64 0]), by kernel_rfl, rfl, rfl, by kernel_rfl, rfl, rfl, List.all_eq_true.1 (by rfl), ⟨_, rfl, fun h => nomatch h⟩, fun h => nomatch h⟩
theorem inf39 : InfoP 39 [.sc (.int .i64 0), .sc (.int .i64 0)] 2 16 := ⟨Tryz.t39, (.agg #[.int .i64 0, .int .i64 0]), by kernel_rfl, rfl, rfl, by kernel_rfl, rfl, rfl, List.all_eq_true.1 (by rfl), ⟨_, rfl, fun h => nomatch h⟩, fun h => nomatch h⟩
theorem inf40 : InfoP 40 [.sc (.int .i64 0), .sc (.int .i64 0)] 2 16 := ⟨Tryz.t40, (.agg #[.int .i64 0, .int .i64 0]), by kernel_rfl, rfl, rfl, by kernel_rfl, rfl, rfl, List.all_eq_true.1 (by rfl), ⟨_, rfl, fun h => nomatch h⟩, fun h => nomatch h⟩
theorem inf52 : InfoP 52 [.sl 5 []] 1 24 := ⟨Tryz.t52, (.slice none 0 0), by kernel_rfl, rfl, rfl, by kernel_rfl, rfl, rfl, List.all_eq_true.1 (by rfl), ⟨_, rfl, fun _ => rfl⟩, fun _ => rfl⟩
theorem inf54 : InfoP 54 [.sl 9 []] 1 24 := ⟨Tryz.t54, (.slice none 0 0), by kernel_rfl, rfl, rfl, by kernel_rfl, rfl, rfl, List.all_eq_true.1 (by rfl), ⟨_, rfl, fun _ => rfl⟩, fun _ => rfl⟩
theorem inf69 : InfoP 69 [.sc (.pointer none)] 1 8 := ⟨Tryz.t69, (.pointer none), by kernel_rfl, rfl, rfl, by kernel_rfl, rfl, rfl, List.all_eq_true.1 (by rfl), ⟨_, rfl, fun _ => rfl⟩, fun _ => rfl⟩
theorem inf72 : InfoP 72 [.sl 9 [], .sl 9 []] 2 48 := ⟨Tryz.t72, (.agg #[.slice none 0 0, .slice none 0 0]), by kernel_rfl, rfl, rfl, by kernel_rfl, rfl, rfl, List.all_eq_true.1 (by rfl), ⟨_, rfl, fun h => nomatch h⟩, fun h => nomatch h⟩
theorem inf73 : InfoP 73 [.sl 9 [], .sl 9 []] 2 48 := ⟨Tryz.t73, (.agg #[.slice none 0 0, .slice none 0 0]), by kernel_rfl, rfl, rfl, by kernel_rfl, rfl, rfl, List.all_eq_true.1 (by rfl), ⟨_, rfl, fun h => nomatch h⟩, fun h => nomatch h⟩
theorem inf74 : InfoP 74 [.sc (.int .i64 0), .sl 9 [], .sl 9 [], .sc (.string ByteArray.empty), .sc (.int .i64 0), .sl 35 [], .sl 40 []] 7 128 := ⟨Tryz.t74, (.agg #[.int .i64 0, .slice none 0 0, .slice none 0 0, .string ByteArray.empty, .int .i64 0, .slice none 0 0, .slice none 0 0]), by kernel_rfl, rfl, rfl, by kernel_rfl, rfl, rfl, List.all_eq_true.1 (by rfl), ⟨_, rfl, fun h => nomatch h⟩, fun h => nomatch h⟩
theorem inf75 : InfoP 75 [.sc (.int .i64 0), .sl 9 [], .sl 9 [], .sc (.string ByteArray.empty), .sc (.int .i64 0), .sl 35 [], .sl 40 []] 7 128 := ⟨Tryz.t75, (.agg #[.int .i64 0, .slice none 0 0, .slice none 0 0, .string ByteArray.empty, .int .i64 0, .slice none 0 0, .slice none 0 0]), by kernel_rfl, rfl, rfl, by kernel_rfl, rfl, rfl, List.all_eq_true.1 (by rfl), ⟨_, rfl, fun h => nomatch h⟩, fun h => nomatch h⟩
theorem inf76 : InfoP 76 [.sc (.int .i64 0), .sc (.int .i64 0), .sc (.bool false), .sc (.int .i64 0)] 4 32 := ⟨Tryz.t76, (.agg #[.int .i64 0, .int .i64 0, .bool false, .int .i64 0]), by kernel_rfl, rfl, rfl, by kernel_rfl, rfl, rfl, List.all_eq_true.1 (by rfl), ⟨_, rfl, fun h => nomatch h⟩, fun h => nomatch h⟩
theorem inf77 : InfoP 77 [.sc (.int .i64 0), .sc (.int .i64 0), .sc (.bool false), .sc (.int .i64 0)] 4 32 := ⟨Tryz.t77, (.agg #[.int .i64 0, .int .i64 0, .bool false, .int .i64 0]), by kernel_rfl, rfl, rfl, by kernel_rfl, rfl, rfl, List.all_eq_true.1 (by rfl), ⟨_, rfl, fun h => nomatch h⟩, fun h => nomatch h⟩
theorem inf81 : InfoP 81 [.sc (.pointer none)] 1 8 := ⟨Tryz.t81, (.pointer none), by kernel_rfl, rfl, rfl, by kernel_rfl, rfl, rfl, List.all_eq_true.1 (by rfl), ⟨_, rfl, fun _ => rfl⟩, fun _ => rfl⟩
theorem inf82 : InfoP 82 [.sc (.pointer none), .sl 5 []] 2 32 := ⟨Tryz.t82, (.agg #[.pointer none, .slice none 0 0]), by kernel_rfl, rfl, rfl, by kernel_rfl, rfl, rfl, List.all_eq_true.1 (by rfl), ⟨_, rfl, fun h => nomatch h⟩, fun h => nomatch h⟩
theorem inf83 : InfoP 83 [.sc (.pointer none), .sl 5 []] 2 32 := ⟨Tryz.t83, (.agg #[.pointer none, .slice none 0 0]), by kernel_rfl, rfl, rfl, by kernel_rfl, rfl, rfl, List.all_eq_true.1 (by rfl), ⟨_, rfl, fun h => nomatch h⟩, fun h => nomatch h⟩
theorem inf86 : InfoP 86 [.sc .nilIface] 1 16 := ⟨Tryz.t86, (.nilIface), by kernel_rfl, rfl, rfl, by kernel_rfl, rfl, rfl, List.all_eq_true.1 (by rfl), ⟨_, rfl, fun _ => rfl⟩, fun _ => rfl⟩
theorem inf108 : InfoP 108 [.sc (.pointer none)] 1 8 := ⟨Tryz.t108, (.pointer none), by kernel_rfl, rfl, rfl, by kernel_rfl, rfl, rfl, List.all_eq_true.1 (by rfl), ⟨_, rfl, fun _ => rfl⟩, fun _ => rfl⟩
theorem inf124 : InfoP 124 [.sc (.int .u32 0)] 1 4 := ⟨Tryz.t124, (.int .u32 0), by kernel_rfl, rfl, rfl, by kernel_rfl, rfl, rfl, List.all_eq_true.1 (by rfl), ⟨_, rfl, fun _ => rfl⟩, fun _ => rfl⟩
theorem inf127 : InfoP 127 [.sc (.int .u64 0)] 1 8 := ⟨Tryz.t127, (.int .u64 0), by kernel_rfl, rfl, rfl, by kernel_rfl, rfl, rfl, List.all_eq_true.1 (by rfl), ⟨_, rfl, fun _ => rfl⟩, fun _ => rfl⟩
theorem info_ok : ∀ t z s b, tabInfo t = some (z, s, b) → InfoP t z s b := by
  intro t z s b h
  unfold tabInfo at h
  split at h
  · cases h; exact inf2
  · cases h; exact inf3
  · cases h; exact inf4
  · cases h; exact inf5
  · cases h; exact inf6
  · cases h; exact inf7
  · cases h; exact inf8
  · cases h; exact inf9
  · cases h; exact inf10
  · cases h; exact inf11
  · cases h; exact inf12
  · cases h; exact inf13
  · cases h; exact inf14
  · cases h; exact inf15
  · cases h; exact inf16
  · cases h; exact inf17
  · cases h; exact inf18
  · cases h; exact inf19
  · cases h; exact inf21
  · cases h; exact inf24
  · cases h; exact inf25
  · cases h; exact inf28
  · cases h; exact inf30
  · cases h; exact inf31
  · cases h; exact inf32
  · cases h; exact inf34
  · cases h; exact inf35
  · cases h; exact inf39
  · cases h; exact inf40
  · cases h; exact inf52
  · cases h; exact inf54
  · cases h; exact inf69
  · cases h; exact inf72
  · cases h; exact inf73
  · cases h; exact inf74
  · cases h; exact inf75
  · cases h; exact inf76
  · cases h; exact inf77
  · cases h; exact inf81
  · cases h; exact inf82
  · cases h; exact inf83
  · cases h; exact inf86
  · cases h; exact inf108
  · cases h; exact inf124
  · cases h; exact inf127
  · cases h
theorem elem_ok : ∀ t e, tabTy t = some (.slice e) → ∃ i, tabInfo e = some i := by
  intro t e h
  unfold tabTy at h
  split at h
  · cases h
  · cases h
  · cases h
  · cases h
  · cases h
  · cases h
  · cases h
  · cases h
  · cases h
  · cases h
  · cases h
  · cases h
  · cases h
  · cases h
  · cases h; exact ⟨_, rfl⟩
  · cases h
  · cases h
  · cases h
  · cases h; exact ⟨_, rfl⟩
  · cases h
  · cases h
  · cases h
  · cases h; exact ⟨_, rfl⟩
  · cases h; exact ⟨_, rfl⟩
  · cases h
  · cases h
  · cases h
  · cases h
  · cases h
  · cases h
  · cases h
  · cases h
  · cases h
  · cases h
  · cases h
  · cases h
  · cases h
  · cases h
  · cases h
  · cases h
  · cases h
  · cases h
  · cases h
  · cases h
  · cases h
  · cases h
  · cases h
  · cases h
  · cases h
  · cases h
  · cases h
  · cases h
  · cases h
  · cases h
  · cases h
  · cases h
  · cases h
  · cases h
  · cases h
  · cases h
  · cases h
  · cases h
theorem fl7 : ∀ fs, TD7 = .struct fs → ∀ f ∈ fs.toList, ∃ i, Tryz.prog.info? f.type = some i := by
  intro fs h f hf
  unfold TD7 at h
  cases h
  simp only [List.mem_cons, List.not_mem_nil, or_false] at hf
  rcases hf with rfl | rfl | rfl | rfl
  · exact ⟨Tryz.t2, by kernel_rfl⟩
  · exact ⟨Tryz.t3, by kernel_rfl⟩
  · exact ⟨Tryz.t4, by kernel_rfl⟩
  · exact ⟨Tryz.t6, by kernel_rfl⟩
theorem fl13 : ∀ fs, TD13 = .struct fs → ∀ f ∈ fs.toList, ∃ i, Tryz.prog.info? f.type = some i := by
  intro fs h f hf
  unfold TD13 at h
  cases h
  simp only [List.mem_cons, List.not_mem_nil, or_false] at hf
  rcases hf with rfl | rfl
  · exact ⟨Tryz.t9, by kernel_rfl⟩
  · exact ⟨Tryz.t12, by kernel_rfl⟩
theorem fl18 : ∀ fs, TD18 = .struct fs → ∀ f ∈ fs.toList, ∃ i, Tryz.prog.info? f.type = some i := by
  intro fs h f hf
  unfold TD18 at h
  cases h
  simp only [List.mem_cons, List.not_mem_nil, or_false] at hf
  subst hf
  · exact ⟨Tryz.t17, by kernel_rfl⟩
theorem fl31 : ∀ fs, TD31 = .struct fs → ∀ f ∈ fs.toList, ∃ i, Tryz.prog.info? f.type = some i := by
  intro fs h f hf
  unfold TD31 at h
  cases h
  simp only [List.mem_cons, List.not_mem_nil, or_false] at hf
  rcases hf with rfl | rfl | rfl | rfl
  · exact ⟨Tryz.t24, by kernel_rfl⟩
  · exact ⟨Tryz.t30, by kernel_rfl⟩
  · exact ⟨Tryz.t3, by kernel_rfl⟩
  · exact ⟨Tryz.t3, by kernel_rfl⟩
theorem fl34 : ∀ fs, TD34 = .struct fs → ∀ f ∈ fs.toList, ∃ i, Tryz.prog.info? f.type = some i := by
  intro fs h f hf
  unfold TD34 at h
  cases h
  simp only [List.mem_cons, List.not_mem_nil, or_false] at hf
  rcases hf with rfl | rfl | rfl
  · exact ⟨Tryz.t3, by kernel_rfl⟩
  · exact ⟨Tryz.t9, by kernel_rfl⟩
  · exact ⟨Tryz.t3, by kernel_rfl⟩
theorem fl39 : ∀ fs, TD39 = .struct fs → ∀ f ∈ fs.toList, ∃ i, Tryz.prog.info? f.type = some i := by
  intro fs h f hf
  unfold TD39 at h
  cases h
  simp only [List.mem_cons, List.not_mem_nil, or_false] at hf
  rcases hf with rfl | rfl
  · exact ⟨Tryz.t3, by kernel_rfl⟩
  · exact ⟨Tryz.t3, by kernel_rfl⟩
theorem fl72 : ∀ fs, TD72 = .struct fs → ∀ f ∈ fs.toList, ∃ i, Tryz.prog.info? f.type = some i := by
  intro fs h f hf
  unfold TD72 at h
  cases h
  simp only [List.mem_cons, List.not_mem_nil, or_false] at hf
  rcases hf with rfl | rfl
  · exact ⟨Tryz.t54, by kernel_rfl⟩
  · exact ⟨Tryz.t54, by kernel_rfl⟩
theorem fl74 : ∀ fs, TD74 = .struct fs → ∀ f ∈ fs.toList, ∃ i, Tryz.prog.info? f.type = some i := by
  intro fs h f hf
  unfold TD74 at h
  cases h
  simp only [List.mem_cons, List.not_mem_nil, or_false] at hf
  rcases hf with rfl | rfl | rfl | rfl | rfl | rfl
  · exact ⟨Tryz.t3, by kernel_rfl⟩
  · exact ⟨Tryz.t73, by kernel_rfl⟩
  · exact ⟨Tryz.t9, by kernel_rfl⟩
  · exact ⟨Tryz.t3, by kernel_rfl⟩
  · exact ⟨Tryz.t24, by kernel_rfl⟩
  · exact ⟨Tryz.t30, by kernel_rfl⟩
theorem fl76 : ∀ fs, TD76 = .struct fs → ∀ f ∈ fs.toList, ∃ i, Tryz.prog.info? f.type = some i := by
  intro fs h f hf
  unfold TD76 at h
  cases h
  simp only [List.mem_cons, List.not_mem_nil, or_false] at hf
  rcases hf with rfl | rfl | rfl | rfl
  · exact ⟨Tryz.t3, by kernel_rfl⟩
  · exact ⟨Tryz.t3, by kernel_rfl⟩
  · exact ⟨Tryz.t4, by kernel_rfl⟩
  · exact ⟨Tryz.t3, by kernel_rfl⟩
theorem fl82 : ∀ fs, TD82 = .struct fs → ∀ f ∈ fs.toList, ∃ i, Tryz.prog.info? f.type = some i := by
  intro fs h f hf
  unfold TD82 at h
  cases h
  simp only [List.mem_cons, List.not_mem_nil, or_false] at hf
  rcases hf with rfl | rfl
  · exact ⟨Tryz.t81, by kernel_rfl⟩
  · exact ⟨Tryz.t52, by kernel_rfl⟩
theorem fld_ok : ∀ T fs, tabTy T = some (.struct fs) → ∀ f ∈ fs.toList, ∃ i, Tryz.prog.info? f.type = some i := by
  intro t fs h
  unfold tabTy at h
  split at h
  · cases h
  · cases h
  · cases h
  · cases h
  · cases h
  · cases h
  · cases h
  · cases h
  · cases h
  · cases h
  · cases h
  · cases h
  · cases h
  · cases h
  · cases h
  · cases h
  · cases h
  · cases h
  · cases h
  · cases h
  · cases h
  · cases h
  · cases h
  · cases h
  · cases h
  · cases h
  · cases h
  · cases h
  · cases h
  · cases h
  · cases h
  · cases h
  · cases h
  · cases h
  · cases h
  · cases h
  · cases h
  · cases h
  · cases h
  · cases h
  · cases h
  · exact fl7 fs (Option.some.inj h)
  · exact fl7 fs (Option.some.inj h)
  · exact fl13 fs (Option.some.inj h)
  · exact fl13 fs (Option.some.inj h)
  · exact fl18 fs (Option.some.inj h)
  · exact fl18 fs (Option.some.inj h)
  · exact fl31 fs (Option.some.inj h)
  · exact fl31 fs (Option.some.inj h)
  · exact fl34 fs (Option.some.inj h)
  · exact fl34 fs (Option.some.inj h)
  · exact fl39 fs (Option.some.inj h)
  · exact fl39 fs (Option.some.inj h)
  · exact fl72 fs (Option.some.inj h)
  · exact fl72 fs (Option.some.inj h)
  · exact fl74 fs (Option.some.inj h)
  · exact fl74 fs (Option.some.inj h)
  · exact fl76 fs (Option.some.inj h)
  · exact fl76 fs (Option.some.inj h)
  · exact fl82 fs (Option.some.inj h)
  · exact fl82 fs (Option.some.inj h)
  · cases h
theorem zsl_ok : ∀ t z s b T l, tabInfo t = some (z, s, b) → .sl T l ∈ z → ∃ i, tabInfo T = some i := by
  intro t z s b T l h hm
  unfold tabInfo at h
  split at h
  · cases h; simp at hm
  · cases h; simp at hm
  · cases h; simp at hm
  · cases h; simp at hm
  · cases h; simp at hm
  · cases h; simp at hm
  · cases h; simp at hm
  · cases h; simp at hm
  · cases h; simp at hm
  · cases h; simp at hm
  · cases h; simp at hm
  · cases h; simp at hm
  · cases h; simp at hm
  · cases h; simp at hm
  · cases h; simp at hm
  · cases h; simp at hm
  · cases h; simp at hm
  · cases h; simp at hm
  · cases h; simp at hm
  · cases h; simp only [List.mem_cons, List.not_mem_nil, or_false, reduceCtorEq, false_or, AV.sl.injEq] at hm
    obtain ⟨rfl, _⟩ := hm <;> exact ⟨_, rfl⟩
  · cases h; simp at hm
  · cases h; simp at hm
  · cases h; simp only [List.mem_cons, List.not_mem_nil, or_false, reduceCtorEq, false_or, AV.sl.injEq] at hm
    obtain ⟨rfl, _⟩ := hm <;> exact ⟨_, rfl⟩
  · cases h; simp only [List.mem_cons, List.not_mem_nil, or_false, reduceCtorEq, false_or, AV.sl.injEq] at hm
    rcases hm with ⟨rfl, _⟩ | ⟨rfl, _⟩ <;> exact ⟨_, rfl⟩
  · cases h; simp only [List.mem_cons, List.not_mem_nil, or_false, reduceCtorEq, false_or, AV.sl.injEq] at hm
    rcases hm with ⟨rfl, _⟩ | ⟨rfl, _⟩ <;> exact ⟨_, rfl⟩
  · cases h; simp at hm
  · cases h; simp at hm
  · cases h; simp at hm
  · cases h; simp at hm
  · cases h; simp only [List.mem_cons, List.not_mem_nil, or_false, reduceCtorEq, false_or, AV.sl.injEq] at hm
    obtain ⟨rfl, _⟩ := hm <;> exact ⟨_, rfl⟩
  · cases h; simp only [List.mem_cons, List.not_mem_nil, or_false, reduceCtorEq, false_or, AV.sl.injEq] at hm
    obtain ⟨rfl, _⟩ := hm <;> exact ⟨_, rfl⟩
  · cases h; simp at hm
  · cases h; simp only [List.mem_cons, List.not_mem_nil, or_false, reduceCtorEq, false_or, AV.sl.injEq] at hm
    rcases hm with ⟨rfl, _⟩ | ⟨rfl, _⟩ <;> exact ⟨_, rfl⟩
  · cases h; simp only [List.mem_cons, List.not_mem_nil, or_false, reduceCtorEq, false_or, AV.sl.injEq] at hm
    rcases hm with ⟨rfl, _⟩ | ⟨rfl, _⟩ <;> exact ⟨_, rfl⟩
  · cases h; simp only [List.mem_cons, List.not_mem_nil, or_false, reduceCtorEq, false_or, AV.sl.injEq] at hm
    rcases hm with ⟨rfl, _⟩ | ⟨rfl, _⟩ | ⟨rfl, _⟩ | ⟨rfl, _⟩ <;> exact ⟨_, rfl⟩
  · cases h; simp only [List.mem_cons, List.not_mem_nil, or_false, reduceCtorEq, false_or, AV.sl.injEq] at hm
    rcases hm with ⟨rfl, _⟩ | ⟨rfl, _⟩ | ⟨rfl, _⟩ | ⟨rfl, _⟩ <;> exact ⟨_, rfl⟩
  · cases h; simp at hm
  · cases h; simp at hm
  · cases h; simp at hm
  · cases h; simp only [List.mem_cons, List.not_mem_nil, or_false, reduceCtorEq, false_or, AV.sl.injEq] at hm
    obtain ⟨rfl, _⟩ := hm <;> exact ⟨_, rfl⟩
  · cases h; simp only [List.mem_cons, List.not_mem_nil, or_false, reduceCtorEq, false_or, AV.sl.injEq] at hm
    obtain ⟨rfl, _⟩ := hm <;> exact ⟨_, rfl⟩
  · cases h; simp at hm
  · cases h; simp at hm
  · cases h; simp at hm
  · cases h; simp at hm
  · cases h
theorem eqt35 : eqTypeOk Tryz.prog 35 [.sc (.int .i64 0), .sc (.string ByteArray.empty), .sc (.int .i64 0)] = true := by kernel_rfl
theorem eqt40 : eqTypeOk Tryz.prog 40 [.sc (.int .i64 0), .sc (.int .i64 0)] = true := by kernel_rfl
theorem eq_ok : ∀ t z s b, tabInfo t = some (z, s, b) → (match (match tabTy t with | some d => some (isAggD d) | none => none) with | some true => true | _ => false) = true → tabCmp t = true → z.all isPlain = true → eqTypeOk Tryz.prog t z = true := by
  intro t z s b h ha hm hp
  unfold tabInfo at h
  split at h
  · cases h; exact nomatch ha
  · cases h; exact nomatch ha
  · cases h; exact nomatch ha
  · cases h; exact nomatch ha
  · cases h; exact nomatch ha
  · cases h; exact nomatch hm
  · cases h; exact nomatch hm
  · cases h; exact nomatch ha
  · cases h; exact nomatch ha
  · cases h; exact nomatch ha
  · cases h; exact nomatch ha
  · cases h; exact nomatch hm
  · cases h; exact nomatch hm
  · cases h; exact nomatch ha
  · cases h; exact nomatch ha
  · cases h; exact nomatch ha
  · cases h; exact nomatch hm
  · cases h; exact nomatch hm
  · cases h; exact nomatch ha
  · cases h; exact nomatch ha
  · cases h; exact nomatch ha
  · cases h; exact nomatch ha
  · cases h; exact nomatch ha
  · cases h; exact nomatch hm
  · cases h; exact nomatch hm
  · cases h; exact nomatch hm
  · cases h; exact eqt35
  · cases h; exact nomatch hm
  · cases h; exact eqt40
  · cases h; exact nomatch ha
  · cases h; exact nomatch ha
  · cases h; exact nomatch ha
  · cases h; exact nomatch hm
  · cases h; exact nomatch hm
  · cases h; exact nomatch hm
  · cases h; exact nomatch hm
  · cases h; exact nomatch hm
  · cases h; exact nomatch hm
  · cases h; exact nomatch ha
  · cases h; exact nomatch hm
  · cases h; exact nomatch hm
  · cases h; exact nomatch ha
  · cases h; exact nomatch ha
  · cases h; exact nomatch ha
  · cases h; exact nomatch ha
  · cases h
theorem tab_ok : Tab.Ok tab Tryz.prog := ⟨fun f fn h _ => fn_ok f fn h, ty_ok, info_ok, elem_ok, fld_ok, zsl_ok⟩
theorem tab_eq : EqOk tab Tryz.prog := EqOk.of eq_ok
end Go.Proofs.YtdhbhedfbdckaaaGreatDoor
