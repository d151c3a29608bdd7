/- A part of an interpreter of the model's code that is proved sound, and of laws told by it: DamFacts. -/
import Derived.Test.YtahifpeggdcamaaGreatDoorPrD1
import Derived.Test.YtahifpeggdcamaaGreatDoorPrC6
import Derived.Test.YtahifpeggdcamaaGreatDoorPrB1
import Derived.Test.YtahifpeggdcamaaGreatDoorChecked
import Derived.Eval
import Derived.KernelRfl
set_option linter.unusedVariables false
set_option linter.unusedSimpArgs false
/- The table of this seat tells the seat's program: written by wip/mkfacts.py. -/
namespace Go.Proofs.YtahifpeggdcamaaGreatDoor
open Go.Dam
set_option linter.unusedVariables false
theorem fb3 : Tryz.f3.body.isSome = true ∧ (Tryz.f3.name == "runtime.NumGoroutine") = false := ⟨by kernel_rfl, by kernel_rfl⟩
theorem fb4 : Tryz.f4.body.isSome = true ∧ (Tryz.f4.name == "runtime.NumGoroutine") = false := ⟨by kernel_rfl, by kernel_rfl⟩
theorem fb5 : Tryz.f5.body.isSome = true ∧ (Tryz.f5.name == "runtime.NumGoroutine") = false := ⟨by kernel_rfl, by kernel_rfl⟩
theorem fb6 : Tryz.f6.body.isSome = true ∧ (Tryz.f6.name == "runtime.NumGoroutine") = false := ⟨by kernel_rfl, by kernel_rfl⟩
theorem fb7 : Tryz.f7.body.isSome = true ∧ (Tryz.f7.name == "runtime.NumGoroutine") = false := ⟨by kernel_rfl, by kernel_rfl⟩
theorem fb8 : Tryz.f8.body.isSome = true ∧ (Tryz.f8.name == "runtime.NumGoroutine") = false := ⟨by kernel_rfl, by kernel_rfl⟩
theorem fb9 : Tryz.f9.body.isSome = true ∧ (Tryz.f9.name == "runtime.NumGoroutine") = false := ⟨by kernel_rfl, by kernel_rfl⟩
theorem fb10 : Tryz.f10.body.isSome = true ∧ (Tryz.f10.name == "runtime.NumGoroutine") = false := ⟨by kernel_rfl, by kernel_rfl⟩
theorem fb11 : Tryz.f11.body.isSome = true ∧ (Tryz.f11.name == "runtime.NumGoroutine") = false := ⟨by kernel_rfl, by kernel_rfl⟩
theorem fb12 : Tryz.f12.body.isSome = true ∧ (Tryz.f12.name == "runtime.NumGoroutine") = false := ⟨by kernel_rfl, by kernel_rfl⟩
theorem fb13 : Tryz.f13.body.isSome = true ∧ (Tryz.f13.name == "runtime.NumGoroutine") = false := ⟨by kernel_rfl, by kernel_rfl⟩
theorem fb14 : Tryz.f14.body.isSome = true ∧ (Tryz.f14.name == "runtime.NumGoroutine") = false := ⟨by kernel_rfl, by kernel_rfl⟩
theorem fb15 : Tryz.f15.body.isSome = true ∧ (Tryz.f15.name == "runtime.NumGoroutine") = false := ⟨by kernel_rfl, by kernel_rfl⟩
theorem fb16 : Tryz.f16.body.isSome = true ∧ (Tryz.f16.name == "runtime.NumGoroutine") = false := ⟨by kernel_rfl, by kernel_rfl⟩
theorem fb17 : Tryz.f17.body.isSome = true ∧ (Tryz.f17.name == "runtime.NumGoroutine") = false := ⟨by kernel_rfl, by kernel_rfl⟩
theorem fb18 : Tryz.f18.body.isSome = true ∧ (Tryz.f18.name == "runtime.NumGoroutine") = false := ⟨by kernel_rfl, by kernel_rfl⟩
theorem fb19 : Tryz.f19.body.isSome = true ∧ (Tryz.f19.name == "runtime.NumGoroutine") = false := ⟨by kernel_rfl, by kernel_rfl⟩
theorem fb20 : Tryz.f20.body.isSome = true ∧ (Tryz.f20.name == "runtime.NumGoroutine") = false := ⟨by kernel_rfl, by kernel_rfl⟩
theorem fb21 : Tryz.f21.body.isSome = true ∧ (Tryz.f21.name == "runtime.NumGoroutine") = false := ⟨by kernel_rfl, by kernel_rfl⟩
theorem fb22 : Tryz.f22.body.isSome = true ∧ (Tryz.f22.name == "runtime.NumGoroutine") = false := ⟨by kernel_rfl, by kernel_rfl⟩
theorem fb23 : Tryz.f23.body.isSome = true ∧ (Tryz.f23.name == "runtime.NumGoroutine") = false := ⟨by kernel_rfl, by kernel_rfl⟩
theorem fb24 : Tryz.f24.body.isSome = true ∧ (Tryz.f24.name == "runtime.NumGoroutine") = false := ⟨by kernel_rfl, by kernel_rfl⟩
theorem fb25 : Tryz.f25.body.isSome = true ∧ (Tryz.f25.name == "runtime.NumGoroutine") = false := ⟨by kernel_rfl, by kernel_rfl⟩
theorem fb26 : Tryz.f26.body.isSome = true ∧ (Tryz.f26.name == "runtime.NumGoroutine") = false := ⟨by kernel_rfl, by kernel_rfl⟩
theorem fb27 : Tryz.f27.body.isSome = true ∧ (Tryz.f27.name == "runtime.NumGoroutine") = false := ⟨by kernel_rfl, by kernel_rfl⟩
theorem fb30 : Tryz.f30.body.isSome = true ∧ (Tryz.f30.name == "runtime.NumGoroutine") = false := ⟨by kernel_rfl, by kernel_rfl⟩
theorem fb31 : Tryz.f31.body.isSome = true ∧ (Tryz.f31.name == "runtime.NumGoroutine") = false := ⟨by kernel_rfl, by kernel_rfl⟩
theorem fb32 : Tryz.f32.body.isSome = true ∧ (Tryz.f32.name == "runtime.NumGoroutine") = false := ⟨by kernel_rfl, by kernel_rfl⟩
theorem fb33 : Tryz.f33.body.isSome = true ∧ (Tryz.f33.name == "runtime.NumGoroutine") = false := ⟨by kernel_rfl, by kernel_rfl⟩
theorem fb34 : Tryz.f34.body.isSome = true ∧ (Tryz.f34.name == "runtime.NumGoroutine") = false := ⟨by kernel_rfl, by kernel_rfl⟩
theorem fb35 : Tryz.f35.body.isSome = true ∧ (Tryz.f35.name == "runtime.NumGoroutine") = false := ⟨by kernel_rfl, by kernel_rfl⟩
theorem fb37 : Tryz.f37.body.isSome = true ∧ (Tryz.f37.name == "runtime.NumGoroutine") = false := ⟨by kernel_rfl, by kernel_rfl⟩
theorem fb38 : Tryz.f38.body.isSome = true ∧ (Tryz.f38.name == "runtime.NumGoroutine") = false := ⟨by kernel_rfl, by kernel_rfl⟩
theorem fb41 : Tryz.f41.body.isSome = true ∧ (Tryz.f41.name == "runtime.NumGoroutine") = false := ⟨by kernel_rfl, by kernel_rfl⟩
theorem fb42 : Tryz.f42.body.isSome = true ∧ (Tryz.f42.name == "runtime.NumGoroutine") = false := ⟨by kernel_rfl, by kernel_rfl⟩
theorem fb43 : Tryz.f43.body.isSome = true ∧ (Tryz.f43.name == "runtime.NumGoroutine") = false := ⟨by kernel_rfl, by kernel_rfl⟩
theorem fb44 : Tryz.f44.body.isSome = true ∧ (Tryz.f44.name == "runtime.NumGoroutine") = false := ⟨by kernel_rfl, by kernel_rfl⟩
theorem fb45 : Tryz.f45.body.isSome = true ∧ (Tryz.f45.name == "runtime.NumGoroutine") = false := ⟨by kernel_rfl, by kernel_rfl⟩
theorem fb46 : Tryz.f46.body.isSome = true ∧ (Tryz.f46.name == "runtime.NumGoroutine") = false := ⟨by kernel_rfl, by kernel_rfl⟩
theorem fb47 : Tryz.f47.body.isSome = true ∧ (Tryz.f47.name == "runtime.NumGoroutine") = false := ⟨by kernel_rfl, by kernel_rfl⟩
theorem fb48 : Tryz.f48.body.isSome = true ∧ (Tryz.f48.name == "runtime.NumGoroutine") = false := ⟨by kernel_rfl, by kernel_rfl⟩
theorem fb49 : Tryz.f49.body.isSome = true ∧ (Tryz.f49.name == "runtime.NumGoroutine") = false := ⟨by kernel_rfl, by kernel_rfl⟩
theorem fb50 : Tryz.f50.body.isSome = true ∧ (Tryz.f50.name == "runtime.NumGoroutine") = false := ⟨by kernel_rfl, by kernel_rfl⟩
theorem fb51 : Tryz.f51.body.isSome = true ∧ (Tryz.f51.name == "runtime.NumGoroutine") = false := ⟨by kernel_rfl, by kernel_rfl⟩
theorem fb52 : Tryz.f52.body.isSome = true ∧ (Tryz.f52.name == "runtime.NumGoroutine") = false := ⟨by kernel_rfl, by kernel_rfl⟩
theorem fb53 : Tryz.f53.body.isSome = true ∧ (Tryz.f53.name == "runtime.NumGoroutine") = false := ⟨by kernel_rfl, by kernel_rfl⟩
theorem fb54 : Tryz.f54.body.isSome = true ∧ (Tryz.f54.name == "runtime.NumGoroutine") = false := ⟨by kernel_rfl, by kernel_rfl⟩
theorem fb55 : Tryz.f55.body.isSome = true ∧ (Tryz.f55.name == "runtime.NumGoroutine") = false := ⟨by kernel_rfl, by kernel_rfl⟩
theorem fb60 : Tryz.f60.body.isSome = true ∧ (Tryz.f60.name == "runtime.NumGoroutine") = false := ⟨by kernel_rfl, by kernel_rfl⟩
theorem fb61 : Tryz.f61.body.isSome = true ∧ (Tryz.f61.name == "runtime.NumGoroutine") = false := ⟨by kernel_rfl, by kernel_rfl⟩
theorem fb66 : Tryz.f66.body.isSome = true ∧ (Tryz.f66.name == "runtime.NumGoroutine") = false := ⟨by kernel_rfl, by kernel_rfl⟩
theorem fb67 : Tryz.f67.body.isSome = true ∧ (Tryz.f67.name == "runtime.NumGoroutine") = false := ⟨by kernel_rfl, by kernel_rfl⟩
theorem fb68 : Tryz.f68.body.isSome = true ∧ (Tryz.f68.name == "runtime.NumGoroutine") = false := ⟨by kernel_rfl, by kernel_rfl⟩
theorem fb69 : Tryz.f69.body.isSome = true ∧ (Tryz.f69.name == "runtime.NumGoroutine") = false := ⟨by kernel_rfl, by kernel_rfl⟩
theorem fb71 : Tryz.f71.body.isSome = true ∧ (Tryz.f71.name == "runtime.NumGoroutine") = false := ⟨by kernel_rfl, by kernel_rfl⟩
theorem fb72 : Tryz.f72.body.isSome = true ∧ (Tryz.f72.name == "runtime.NumGoroutine") = false := ⟨by kernel_rfl, by kernel_rfl⟩
theorem fb73 : Tryz.f73.body.isSome = true ∧ (Tryz.f73.name == "runtime.NumGoroutine") = false := ⟨by kernel_rfl, by kernel_rfl⟩
theorem fb74 : Tryz.f74.body.isSome = true ∧ (Tryz.f74.name == "runtime.NumGoroutine") = false := ⟨by kernel_rfl, by kernel_rfl⟩
theorem fb75 : Tryz.f75.body.isSome = true ∧ (Tryz.f75.name == "runtime.NumGoroutine") = false := ⟨by kernel_rfl, by kernel_rfl⟩
theorem fb76 : Tryz.f76.body.isSome = true ∧ (Tryz.f76.name == "runtime.NumGoroutine") = false := ⟨by kernel_rfl, by kernel_rfl⟩
theorem fb80 : Tryz.f80.body.isSome = true ∧ (Tryz.f80.name == "runtime.NumGoroutine") = false := ⟨by kernel_rfl, by kernel_rfl⟩
theorem fb84 : Tryz.f84.body.isSome = true ∧ (Tryz.f84.name == "runtime.NumGoroutine") = false := ⟨by kernel_rfl, by kernel_rfl⟩
theorem fb85 : Tryz.f85.body.isSome = true ∧ (Tryz.f85.name == "runtime.NumGoroutine") = false := ⟨by kernel_rfl, by kernel_rfl⟩
theorem fb86 : Tryz.f86.body.isSome = true ∧ (Tryz.f86.name == "runtime.NumGoroutine") = false := ⟨by kernel_rfl, by kernel_rfl⟩
theorem fb89 : Tryz.f89.body.isSome = true ∧ (Tryz.f89.name == "runtime.NumGoroutine") = false := ⟨by kernel_rfl, by kernel_rfl⟩
theorem fb90 : Tryz.f90.body.isSome = true ∧ (Tryz.f90.name == "runtime.NumGoroutine") = false := ⟨by kernel_rfl, by kernel_rfl⟩
theorem fb91 : Tryz.f91.body.isSome = true ∧ (Tryz.f91.name == "runtime.NumGoroutine") = false := ⟨by kernel_rfl, by kernel_rfl⟩
theorem fb92 : Tryz.f92.body.isSome = true ∧ (Tryz.f92.name == "runtime.NumGoroutine") = false := ⟨by kernel_rfl, by kernel_rfl⟩
theorem fb93 : Tryz.f93.body.isSome = true ∧ (Tryz.f93.name == "runtime.NumGoroutine") = false := ⟨by kernel_rfl, by kernel_rfl⟩
theorem fb94 : Tryz.f94.body.isSome = true ∧ (Tryz.f94.name == "runtime.NumGoroutine") = false := ⟨by kernel_rfl, by kernel_rfl⟩
theorem fb95 : Tryz.f95.body.isSome = true ∧ (Tryz.f95.name == "runtime.NumGoroutine") = false := ⟨by kernel_rfl, by kernel_rfl⟩
theorem fb119 : Tryz.f119.body.isSome = true ∧ (Tryz.f119.name == "runtime.NumGoroutine") = false := ⟨by kernel_rfl, by kernel_rfl⟩
theorem fb126 : Tryz.f126.body.isSome = true ∧ (Tryz.f126.name == "runtime.NumGoroutine") = false := ⟨by kernel_rfl, by kernel_rfl⟩
theorem fb127 : Tryz.f127.body.isSome = true ∧ (Tryz.f127.name == "runtime.NumGoroutine") = false := ⟨by kernel_rfl, by kernel_rfl⟩
theorem fb128 : Tryz.f128.body.isSome = true ∧ (Tryz.f128.name == "runtime.NumGoroutine") = false := ⟨by kernel_rfl, by kernel_rfl⟩
theorem fb129 : Tryz.f129.body.isSome = true ∧ (Tryz.f129.name == "runtime.NumGoroutine") = false := ⟨by kernel_rfl, by kernel_rfl⟩
theorem fb140 : Tryz.f140.body.isSome = true ∧ (Tryz.f140.name == "runtime.NumGoroutine") = false := ⟨by kernel_rfl, by kernel_rfl⟩
theorem fb147 : Tryz.f147.body.isSome = true ∧ (Tryz.f147.name == "runtime.NumGoroutine") = false := ⟨by kernel_rfl, by kernel_rfl⟩
theorem fn_ok : ∀ f fn, tabFn f = some fn → Tryz.prog.funcs[f]? = some fn ∧ fn.body.isSome = true ∧ (fn.name == "runtime.NumGoroutine") = false := by
  intro f fn h
  unfold tabFn at h
  split at h
  · cases h; exact ⟨Tryz.func3, fb3⟩
  · cases h; exact ⟨Tryz.func4, fb4⟩
  · cases h; exact ⟨Tryz.func5, fb5⟩
  · cases h; exact ⟨Tryz.func6, fb6⟩
  · cases h; exact ⟨Tryz.func7, fb7⟩
  · cases h; exact ⟨Tryz.func8, fb8⟩
  · cases h; exact ⟨Tryz.func9, fb9⟩
  · cases h; exact ⟨Tryz.func10, fb10⟩
  · cases h; exact ⟨Tryz.func11, fb11⟩
  · cases h; exact ⟨Tryz.func12, fb12⟩
  · cases h; exact ⟨Tryz.func13, fb13⟩
  · cases h; exact ⟨Tryz.func14, fb14⟩
  · cases h; exact ⟨Tryz.func15, fb15⟩
  · cases h; exact ⟨Tryz.func16, fb16⟩
  · cases h; exact ⟨Tryz.func17, fb17⟩
  · cases h; exact ⟨Tryz.func18, fb18⟩
  · cases h; exact ⟨Tryz.func19, fb19⟩
  · cases h; exact ⟨Tryz.func20, fb20⟩
  · cases h; exact ⟨Tryz.func21, fb21⟩
  · cases h; exact ⟨Tryz.func22, fb22⟩
  · cases h; exact ⟨Tryz.func23, fb23⟩
  · cases h; exact ⟨Tryz.func24, fb24⟩
  · cases h; exact ⟨Tryz.func25, fb25⟩
  · cases h; exact ⟨Tryz.func26, fb26⟩
  · cases h; exact ⟨Tryz.func27, fb27⟩
  · cases h; exact ⟨Tryz.func30, fb30⟩
  · cases h; exact ⟨Tryz.func31, fb31⟩
  · cases h; exact ⟨Tryz.func32, fb32⟩
  · cases h; exact ⟨Tryz.func33, fb33⟩
  · cases h; exact ⟨Tryz.func34, fb34⟩
  · cases h; exact ⟨Tryz.func35, fb35⟩
  · cases h; exact ⟨Tryz.func37, fb37⟩
  · cases h; exact ⟨Tryz.func38, fb38⟩
  · cases h; exact ⟨Tryz.func41, fb41⟩
  · cases h; exact ⟨Tryz.func42, fb42⟩
  · cases h; exact ⟨Tryz.func43, fb43⟩
  · cases h; exact ⟨Tryz.func44, fb44⟩
  · cases h; exact ⟨Tryz.func45, fb45⟩
  · cases h; exact ⟨Tryz.func46, fb46⟩
  · cases h; exact ⟨Tryz.func47, fb47⟩
  · cases h; exact ⟨Tryz.func48, fb48⟩
  · cases h; exact ⟨Tryz.func49, fb49⟩
  · cases h; exact ⟨Tryz.func50, fb50⟩
  · cases h; exact ⟨Tryz.func51, fb51⟩
  · cases h; exact ⟨Tryz.func52, fb52⟩
  · cases h; exact ⟨Tryz.func53, fb53⟩
  · cases h; exact ⟨Tryz.func54, fb54⟩
  · cases h; exact ⟨Tryz.func55, fb55⟩
  · cases h; exact ⟨Tryz.func60, fb60⟩
  · cases h; exact ⟨Tryz.func61, fb61⟩
  · cases h; exact ⟨Tryz.func66, fb66⟩
  · cases h; exact ⟨Tryz.func67, fb67⟩
  · cases h; exact ⟨Tryz.func68, fb68⟩
  · cases h; exact ⟨Tryz.func69, fb69⟩
  · cases h; exact ⟨Tryz.func71, fb71⟩
  · cases h; exact ⟨Tryz.func72, fb72⟩
  · cases h; exact ⟨Tryz.func73, fb73⟩
  · cases h; exact ⟨Tryz.func74, fb74⟩
  · cases h; exact ⟨Tryz.func75, fb75⟩
  · cases h; exact ⟨Tryz.func76, fb76⟩
  · cases h; exact ⟨Tryz.func80, fb80⟩
  · cases h; exact ⟨Tryz.func84, fb84⟩
  · cases h; exact ⟨Tryz.func85, fb85⟩
  · cases h; exact ⟨Tryz.func86, fb86⟩
  · cases h; exact ⟨Tryz.func89, fb89⟩
  · cases h; exact ⟨Tryz.func90, fb90⟩
  · cases h; exact ⟨Tryz.func91, fb91⟩
  · cases h; exact ⟨Tryz.func92, fb92⟩
  · cases h; exact ⟨Tryz.func93, fb93⟩
  · cases h; exact ⟨Tryz.func94, fb94⟩
  · cases h; exact ⟨Tryz.func95, fb95⟩
  · cases h; exact ⟨Tryz.func119, fb119⟩
  · cases h; exact ⟨Tryz.func126, fb126⟩
  · cases h; exact ⟨Tryz.func127, fb127⟩
  · cases h; exact ⟨Tryz.func128, fb128⟩
  · cases h; exact ⟨Tryz.func129, fb129⟩
  · cases h; exact ⟨Tryz.func140, fb140⟩
  · cases h; exact ⟨Tryz.func147, fb147⟩
  · cases h
theorem res_ok : ∀ f fn, tabFn f = some fn → tabRes f = fn.resultTypes.toList := by
  intro f fn h
  unfold tabFn at h
  split at h
  · cases h; kernel_rfl
  · cases h; kernel_rfl
  · cases h; kernel_rfl
  · cases h; kernel_rfl
  · cases h; kernel_rfl
  · cases h; kernel_rfl
  · cases h; kernel_rfl
  · cases h; kernel_rfl
  · cases h; kernel_rfl
  · cases h; kernel_rfl
  · cases h; kernel_rfl
  · cases h; kernel_rfl
  · cases h; kernel_rfl
  · cases h; kernel_rfl
  · cases h; kernel_rfl
  · cases h; kernel_rfl
  · cases h; kernel_rfl
  · cases h; kernel_rfl
  · cases h; kernel_rfl
  · cases h; kernel_rfl
  · cases h; kernel_rfl
  · cases h; kernel_rfl
  · cases h; kernel_rfl
  · cases h; kernel_rfl
  · cases h; kernel_rfl
  · cases h; kernel_rfl
  · cases h; kernel_rfl
  · cases h; kernel_rfl
  · cases h; kernel_rfl
  · cases h; kernel_rfl
  · cases h; kernel_rfl
  · cases h; kernel_rfl
  · cases h; kernel_rfl
  · cases h; kernel_rfl
  · cases h; kernel_rfl
  · cases h; kernel_rfl
  · cases h; kernel_rfl
  · cases h; kernel_rfl
  · cases h; kernel_rfl
  · cases h; kernel_rfl
  · cases h; kernel_rfl
  · cases h; kernel_rfl
  · cases h; kernel_rfl
  · cases h; kernel_rfl
  · cases h; kernel_rfl
  · cases h; kernel_rfl
  · cases h; kernel_rfl
  · cases h; kernel_rfl
  · cases h; kernel_rfl
  · cases h; kernel_rfl
  · cases h; kernel_rfl
  · cases h; kernel_rfl
  · cases h; kernel_rfl
  · cases h; kernel_rfl
  · cases h; kernel_rfl
  · cases h; kernel_rfl
  · cases h; kernel_rfl
  · cases h; kernel_rfl
  · cases h; kernel_rfl
  · cases h; kernel_rfl
  · cases h; kernel_rfl
  · cases h; kernel_rfl
  · cases h; kernel_rfl
  · cases h; kernel_rfl
  · cases h; kernel_rfl
  · cases h; kernel_rfl
  · cases h; kernel_rfl
  · cases h; kernel_rfl
  · cases h; kernel_rfl
  · cases h; kernel_rfl
  · cases h; kernel_rfl
  · cases h; kernel_rfl
  · cases h; kernel_rfl
  · cases h; kernel_rfl
  · cases h; kernel_rfl
  · cases h; kernel_rfl
  · cases h; kernel_rfl
  · cases h; kernel_rfl
  · cases h
theorem pl3 : plansOk (tabPlan 3) (bodyOf Tryz.f3) = true := by kernel_rfl
theorem pl4 : plansOk (tabPlan 4) (bodyOf Tryz.f4) = true := by kernel_rfl
theorem pl5 : plansOk (tabPlan 5) (bodyOf Tryz.f5) = true := by kernel_rfl
theorem pl6 : plansOk (tabPlan 6) (bodyOf Tryz.f6) = true := by kernel_rfl
theorem pl7 : plansOk (tabPlan 7) (bodyOf Tryz.f7) = true := by kernel_rfl
theorem pl8 : plansOk (tabPlan 8) (bodyOf Tryz.f8) = true := by kernel_rfl
theorem pl9 : plansOk (tabPlan 9) (bodyOf Tryz.f9) = true := by kernel_rfl
theorem pl10 : plansOk (tabPlan 10) (bodyOf Tryz.f10) = true := by kernel_rfl
theorem pl11 : plansOk (tabPlan 11) (bodyOf Tryz.f11) = true := by kernel_rfl
theorem pl12 : plansOk (tabPlan 12) (bodyOf Tryz.f12) = true := by kernel_rfl
theorem pl13 : plansOk (tabPlan 13) (bodyOf Tryz.f13) = true := by kernel_rfl
theorem pl14 : plansOk (tabPlan 14) (bodyOf Tryz.f14) = true := by kernel_rfl
theorem pl15 : plansOk (tabPlan 15) (bodyOf Tryz.f15) = true := by kernel_rfl
theorem pl16 : plansOk (tabPlan 16) (bodyOf Tryz.f16) = true := by kernel_rfl
theorem pl17 : plansOk (tabPlan 17) (bodyOf Tryz.f17) = true := by kernel_rfl
theorem pl18 : plansOk (tabPlan 18) (bodyOf Tryz.f18) = true := by kernel_rfl
theorem pl19 : plansOk (tabPlan 19) (bodyOf Tryz.f19) = true := by kernel_rfl
theorem pl20 : plansOk (tabPlan 20) (bodyOf Tryz.f20) = true := by kernel_rfl
theorem pl21 : plansOk (tabPlan 21) (bodyOf Tryz.f21) = true := by kernel_rfl
theorem pl22 : plansOk (tabPlan 22) (bodyOf Tryz.f22) = true := by kernel_rfl
theorem pl23 : plansOk (tabPlan 23) (bodyOf Tryz.f23) = true := by kernel_rfl
theorem pl24 : plansOk (tabPlan 24) (bodyOf Tryz.f24) = true := by kernel_rfl
theorem pl25 : plansOk (tabPlan 25) (bodyOf Tryz.f25) = true := by kernel_rfl
theorem pl26 : plansOk (tabPlan 26) (bodyOf Tryz.f26) = true := by kernel_rfl
theorem pl27 : plansOk (tabPlan 27) (bodyOf Tryz.f27) = true := by kernel_rfl
theorem pl30 : plansOk (tabPlan 30) (bodyOf Tryz.f30) = true := by kernel_rfl
theorem pl31 : plansOk (tabPlan 31) (bodyOf Tryz.f31) = true := by kernel_rfl
theorem pl32 : plansOk (tabPlan 32) (bodyOf Tryz.f32) = true := by kernel_rfl
theorem pl33 : plansOk (tabPlan 33) (bodyOf Tryz.f33) = true := by kernel_rfl
theorem pl34 : plansOk (tabPlan 34) (bodyOf Tryz.f34) = true := by kernel_rfl
theorem pl35 : plansOk (tabPlan 35) (bodyOf Tryz.f35) = true := by kernel_rfl
theorem pl37 : plansOk (tabPlan 37) (bodyOf Tryz.f37) = true := by kernel_rfl
theorem pl38 : plansOk (tabPlan 38) (bodyOf Tryz.f38) = true := by kernel_rfl
theorem pl41 : plansOk (tabPlan 41) (bodyOf Tryz.f41) = true := by kernel_rfl
theorem pl42 : plansOk (tabPlan 42) (bodyOf Tryz.f42) = true := by kernel_rfl
theorem pl43 : plansOk (tabPlan 43) (bodyOf Tryz.f43) = true := by kernel_rfl
theorem pl44 : plansOk (tabPlan 44) (bodyOf Tryz.f44) = true := by kernel_rfl
theorem pl45 : plansOk (tabPlan 45) (bodyOf Tryz.f45) = true := by kernel_rfl
theorem pl46 : plansOk (tabPlan 46) (bodyOf Tryz.f46) = true := by kernel_rfl
theorem pl47 : plansOk (tabPlan 47) (bodyOf Tryz.f47) = true := by kernel_rfl
theorem pl48 : plansOk (tabPlan 48) (bodyOf Tryz.f48) = true := by kernel_rfl
theorem pl49 : plansOk (tabPlan 49) (bodyOf Tryz.f49) = true := by kernel_rfl
theorem pl50 : plansOk (tabPlan 50) (bodyOf Tryz.f50) = true := by kernel_rfl
theorem pl51 : plansOk (tabPlan 51) (bodyOf Tryz.f51) = true := by kernel_rfl
theorem pl52 : plansOk (tabPlan 52) (bodyOf Tryz.f52) = true := by kernel_rfl
theorem pl53 : plansOk (tabPlan 53) (bodyOf Tryz.f53) = true := by kernel_rfl
theorem pl54 : plansOk (tabPlan 54) (bodyOf Tryz.f54) = true := by kernel_rfl
theorem pl55 : plansOk (tabPlan 55) (bodyOf Tryz.f55) = true := by kernel_rfl
theorem pl60 : plansOk (tabPlan 60) (bodyOf Tryz.f60) = true := by kernel_rfl
theorem pl61 : plansOk (tabPlan 61) (bodyOf Tryz.f61) = true := by kernel_rfl
theorem pl66 : plansOk (tabPlan 66) (bodyOf Tryz.f66) = true := by kernel_rfl
theorem pl67 : plansOk (tabPlan 67) (bodyOf Tryz.f67) = true := by kernel_rfl
theorem pl68 : plansOk (tabPlan 68) (bodyOf Tryz.f68) = true := by kernel_rfl
theorem pl69 : plansOk (tabPlan 69) (bodyOf Tryz.f69) = true := by kernel_rfl
theorem pl71 : plansOk (tabPlan 71) (bodyOf Tryz.f71) = true := by kernel_rfl
theorem pl72 : plansOk (tabPlan 72) (bodyOf Tryz.f72) = true := by kernel_rfl
theorem pl73 : plansOk (tabPlan 73) (bodyOf Tryz.f73) = true := by kernel_rfl
theorem pl74 : plansOk (tabPlan 74) (bodyOf Tryz.f74) = true := by kernel_rfl
theorem pl75 : plansOk (tabPlan 75) (bodyOf Tryz.f75) = true := by kernel_rfl
theorem pl76 : plansOk (tabPlan 76) (bodyOf Tryz.f76) = true := by kernel_rfl
theorem pl80 : plansOk (tabPlan 80) (bodyOf Tryz.f80) = true := by kernel_rfl
theorem pl84 : plansOk (tabPlan 84) (bodyOf Tryz.f84) = true := by kernel_rfl
theorem pl85 : plansOk (tabPlan 85) (bodyOf Tryz.f85) = true := by kernel_rfl
theorem pl86 : plansOk (tabPlan 86) (bodyOf Tryz.f86) = true := by kernel_rfl
theorem pl89 : plansOk (tabPlan 89) (bodyOf Tryz.f89) = true := by kernel_rfl
theorem pl90 : plansOk (tabPlan 90) (bodyOf Tryz.f90) = true := by kernel_rfl
theorem pl91 : plansOk (tabPlan 91) (bodyOf Tryz.f91) = true := by kernel_rfl
theorem pl92 : plansOk (tabPlan 92) (bodyOf Tryz.f92) = true := by kernel_rfl
theorem pl93 : plansOk (tabPlan 93) (bodyOf Tryz.f93) = true := by kernel_rfl
theorem pl94 : plansOk (tabPlan 94) (bodyOf Tryz.f94) = true := by kernel_rfl
theorem pl95 : plansOk (tabPlan 95) (bodyOf Tryz.f95) = true := by kernel_rfl
theorem pl119 : plansOk (tabPlan 119) (bodyOf Tryz.f119) = true := by kernel_rfl
theorem pl126 : plansOk (tabPlan 126) (bodyOf Tryz.f126) = true := by kernel_rfl
theorem pl127 : plansOk (tabPlan 127) (bodyOf Tryz.f127) = true := by kernel_rfl
theorem pl128 : plansOk (tabPlan 128) (bodyOf Tryz.f128) = true := by kernel_rfl
theorem pl129 : plansOk (tabPlan 129) (bodyOf Tryz.f129) = true := by kernel_rfl
theorem pl140 : plansOk (tabPlan 140) (bodyOf Tryz.f140) = true := by kernel_rfl
theorem pl147 : plansOk (tabPlan 147) (bodyOf Tryz.f147) = true := by kernel_rfl
theorem plans_ok : ∀ f fn, tabFn f = some fn → plansOk (tabPlan f) (bodyOf fn) = true := by
  intro f fn h
  unfold tabFn at h
  split at h
  · cases h; exact pl3
  · cases h; exact pl4
  · cases h; exact pl5
  · cases h; exact pl6
  · cases h; exact pl7
  · cases h; exact pl8
  · cases h; exact pl9
  · cases h; exact pl10
  · cases h; exact pl11
  · cases h; exact pl12
  · cases h; exact pl13
  · cases h; exact pl14
  · cases h; exact pl15
  · cases h; exact pl16
  · cases h; exact pl17
  · cases h; exact pl18
  · cases h; exact pl19
  · cases h; exact pl20
  · cases h; exact pl21
  · cases h; exact pl22
  · cases h; exact pl23
  · cases h; exact pl24
  · cases h; exact pl25
  · cases h; exact pl26
  · cases h; exact pl27
  · cases h; exact pl30
  · cases h; exact pl31
  · cases h; exact pl32
  · cases h; exact pl33
  · cases h; exact pl34
  · cases h; exact pl35
  · cases h; exact pl37
  · cases h; exact pl38
  · cases h; exact pl41
  · cases h; exact pl42
  · cases h; exact pl43
  · cases h; exact pl44
  · cases h; exact pl45
  · cases h; exact pl46
  · cases h; exact pl47
  · cases h; exact pl48
  · cases h; exact pl49
  · cases h; exact pl50
  · cases h; exact pl51
  · cases h; exact pl52
  · cases h; exact pl53
  · cases h; exact pl54
  · cases h; exact pl55
  · cases h; exact pl60
  · cases h; exact pl61
  · cases h; exact pl66
  · cases h; exact pl67
  · cases h; exact pl68
  · cases h; exact pl69
  · cases h; exact pl71
  · cases h; exact pl72
  · cases h; exact pl73
  · cases h; exact pl74
  · cases h; exact pl75
  · cases h; exact pl76
  · cases h; exact pl80
  · cases h; exact pl84
  · cases h; exact pl85
  · cases h; exact pl86
  · cases h; exact pl89
  · cases h; exact pl90
  · cases h; exact pl91
  · cases h; exact pl92
  · cases h; exact pl93
  · cases h; exact pl94
  · cases h; exact pl95
  · cases h; exact pl119
  · cases h; exact pl126
  · cases h; exact pl127
  · cases h; exact pl128
  · cases h; exact pl129
  · cases h; exact pl140
  · cases h; exact pl147
  · cases h
theorem ty_ok : ∀ t d, tabTy t = some d → Tryz.prog.underlying t = some d := by
  intro t d h
  unfold tabTy at h
  split at h
  · cases h; kernel_rfl
  · cases h; kernel_rfl
  · cases h; kernel_rfl
  · cases h; kernel_rfl
  · cases h; kernel_rfl
  · cases h; kernel_rfl
  · cases h; kernel_rfl
  · cases h; kernel_rfl
  · cases h; kernel_rfl
  · cases h; kernel_rfl
  · cases h; kernel_rfl
  · cases h; kernel_rfl
  · cases h; kernel_rfl
  · cases h; kernel_rfl
  · cases h; kernel_rfl
  · cases h; kernel_rfl
  · cases h; kernel_rfl
  · cases h; kernel_rfl
  · cases h; kernel_rfl
  · cases h; kernel_rfl
  · cases h; kernel_rfl
  · cases h; kernel_rfl
  · cases h; kernel_rfl
  · cases h; kernel_rfl
  · cases h; kernel_rfl
  · cases h; kernel_rfl
  · cases h; kernel_rfl
  · cases h; kernel_rfl
  · cases h; kernel_rfl
  · cases h; kernel_rfl
  · cases h; kernel_rfl
  · cases h; kernel_rfl
  · cases h; kernel_rfl
  · cases h; kernel_rfl
  · cases h; kernel_rfl
  · cases h; kernel_rfl
  · cases h; kernel_rfl
  · cases h; kernel_rfl
  · cases h; kernel_rfl
  · cases h; kernel_rfl
  · cases h; kernel_rfl
  · cases h; kernel_rfl
  · cases h; kernel_rfl
  · cases h; kernel_rfl
  · cases h; kernel_rfl
  · cases h; kernel_rfl
  · cases h; kernel_rfl
  · cases h; kernel_rfl
  · cases h; kernel_rfl
  · cases h; kernel_rfl
  · cases h; kernel_rfl
  · cases h; kernel_rfl
  · cases h; kernel_rfl
  · cases h; kernel_rfl
  · cases h; kernel_rfl
  · cases h; kernel_rfl
  · cases h; kernel_rfl
  · cases h; kernel_rfl
  · cases h; kernel_rfl
  · cases h; kernel_rfl
  · cases h; kernel_rfl
  · cases h; kernel_rfl
  · cases h; kernel_rfl
  · cases h; kernel_rfl
  · cases h; kernel_rfl
  · cases h; kernel_rfl
  · cases h; kernel_rfl
  · cases h; kernel_rfl
  · cases h; kernel_rfl
  · cases h; kernel_rfl
  · cases h; kernel_rfl
  · cases h; kernel_rfl
  · cases h; kernel_rfl
  · cases h; kernel_rfl
  · cases h; kernel_rfl
  · cases h; kernel_rfl
  · cases h; kernel_rfl
  · cases h; kernel_rfl
  · cases h; kernel_rfl
  · cases h; kernel_rfl
  · cases h; kernel_rfl
  · cases h; kernel_rfl
  · cases h; kernel_rfl
  · cases h; kernel_rfl
  · cases h; kernel_rfl
  · cases h; kernel_rfl
  · cases h; kernel_rfl
  · cases h; kernel_rfl
  · cases h; kernel_rfl
  · cases h; kernel_rfl
  · cases h; kernel_rfl
  · cases h; kernel_rfl
  · cases h; kernel_rfl
  · cases h; kernel_rfl
  · cases h; kernel_rfl
  · cases h; kernel_rfl
  · cases h; kernel_rfl
  · cases h; kernel_rfl
  · cases h; kernel_rfl
  · cases h; kernel_rfl
  · cases h; kernel_rfl
  · cases h; kernel_rfl
  · cases h; kernel_rfl
  · cases h; kernel_rfl
  · cases h; kernel_rfl
  · cases h; kernel_rfl
  · cases h; kernel_rfl
  · cases h; kernel_rfl
  · cases h; kernel_rfl
  · cases h; kernel_rfl
  · cases h; kernel_rfl
  · cases h; kernel_rfl
  · cases h; kernel_rfl
  · cases h; kernel_rfl
  · cases h; kernel_rfl
  · cases h; kernel_rfl
  · cases h; kernel_rfl
  · cases h
def InfoP (t : Nat) (z : List AV) (s b : Nat) : Prop := ∃ i zv, Tryz.prog.info? t = some i ∧ i.size = s ∧ i.bytes = b ∧ i.zero = some zv ∧ z.length = s ∧ zv.cells = (z.map zval).toArray ∧ (∀ a ∈ z, zcell a = true) ∧
    (∃ d, tabTy t = some d ∧ (isAggD d = false → s = 1)) ∧ ((match (match tabTy t with | some d => some (isAggD d) | none => none) with | some true => true | _ => false) = false → zv.cells = #[zv])
theorem inf2 : InfoP 2 [.sc (.int .i64 0)] 1 8 := ⟨Tryz.t2, (.int .i64 0), by kernel_rfl, rfl, rfl, by kernel_rfl, rfl, rfl, List.all_eq_true.1 (by rfl), ⟨_, rfl, fun _ => rfl⟩, fun _ => rfl⟩
theorem inf3 : InfoP 3 [.sc (.int .i64 0)] 1 8 := ⟨Tryz.t3, (.int .i64 0), by kernel_rfl, rfl, rfl, by kernel_rfl, rfl, rfl, List.all_eq_true.1 (by rfl), ⟨_, rfl, fun _ => rfl⟩, fun _ => rfl⟩
theorem inf4 : InfoP 4 [.sc (.bool false)] 1 1 := ⟨Tryz.t4, (.bool false), by kernel_rfl, rfl, rfl, by kernel_rfl, rfl, rfl, List.all_eq_true.1 (by rfl), ⟨_, rfl, fun _ => rfl⟩, fun _ => rfl⟩
theorem inf5 : InfoP 5 [.sc (.int .u8 0)] 1 1 := ⟨Tryz.t5, (.int .u8 0), by kernel_rfl, rfl, rfl, by kernel_rfl, rfl, rfl, List.all_eq_true.1 (by rfl), ⟨_, rfl, fun _ => rfl⟩, fun _ => rfl⟩
theorem inf6 : InfoP 6 [.sc (.int .u8 0)] 1 1 := ⟨Tryz.t6, (.int .u8 0), by kernel_rfl, rfl, rfl, by kernel_rfl, rfl, rfl, List.all_eq_true.1 (by rfl), ⟨_, rfl, fun _ => rfl⟩, fun _ => rfl⟩
theorem inf7 : InfoP 7 [.sc (.int .i64 0), .sc (.int .i64 0), .sc (.bool false), .sc (.int .u8 0)] 4 24 := ⟨Tryz.t7, (.agg #[.int .i64 0, .int .i64 0, .bool false, .int .u8 0]), by kernel_rfl, rfl, rfl, by kernel_rfl, rfl, rfl, List.all_eq_true.1 (by rfl), ⟨_, rfl, fun h => nomatch h⟩, fun h => nomatch h⟩
theorem inf8 : InfoP 8 [.sc (.int .i64 0), .sc (.int .i64 0), .sc (.bool false), .sc (.int .u8 0)] 4 24 := ⟨Tryz.t8, (.agg #[.int .i64 0, .int .i64 0, .bool false, .int .u8 0]), by kernel_rfl, rfl, rfl, by kernel_rfl, rfl, rfl, List.all_eq_true.1 (by rfl), ⟨_, rfl, fun h => nomatch h⟩, fun h => nomatch h⟩
theorem inf9 : InfoP 9 [.sc (.string ByteArray.empty)] 1 16 := ⟨Tryz.t9, (.string ByteArray.empty), by kernel_rfl, rfl, rfl, by kernel_rfl, rfl, rfl, List.all_eq_true.1 (by rfl), ⟨_, rfl, fun _ => rfl⟩, fun _ => rfl⟩
theorem inf10 : InfoP 10 [.sc (.string ByteArray.empty)] 1 16 := ⟨Tryz.t10, (.string ByteArray.empty), by kernel_rfl, rfl, rfl, by kernel_rfl, rfl, rfl, List.all_eq_true.1 (by rfl), ⟨_, rfl, fun _ => rfl⟩, fun _ => rfl⟩
theorem inf11 : InfoP 11 [.sc (.string ByteArray.empty)] 1 16 := ⟨Tryz.t11, (.string ByteArray.empty), by kernel_rfl, rfl, rfl, by kernel_rfl, rfl, rfl, List.all_eq_true.1 (by rfl), ⟨_, rfl, fun _ => rfl⟩, fun _ => rfl⟩
theorem inf12 : InfoP 12 [.sc (.int .u64 0)] 1 8 := ⟨Tryz.t12, (.int .u64 0), by kernel_rfl, rfl, rfl, by kernel_rfl, rfl, rfl, List.all_eq_true.1 (by rfl), ⟨_, rfl, fun _ => rfl⟩, fun _ => rfl⟩
theorem inf13 : InfoP 13 [.sc (.string ByteArray.empty), .sc (.int .u64 0)] 2 24 := ⟨Tryz.t13, (.agg #[.string ByteArray.empty, .int .u64 0]), by kernel_rfl, rfl, rfl, by kernel_rfl, rfl, rfl, List.all_eq_true.1 (by rfl), ⟨_, rfl, fun h => nomatch h⟩, fun h => nomatch h⟩
theorem inf14 : InfoP 14 [.sc (.string ByteArray.empty), .sc (.int .u64 0)] 2 24 := ⟨Tryz.t14, (.agg #[.string ByteArray.empty, .int .u64 0]), by kernel_rfl, rfl, rfl, by kernel_rfl, rfl, rfl, List.all_eq_true.1 (by rfl), ⟨_, rfl, fun h => nomatch h⟩, fun h => nomatch h⟩
theorem inf15 : InfoP 15 [.sc (.pointer none)] 1 8 := ⟨Tryz.t15, (.pointer none), by kernel_rfl, rfl, rfl, by kernel_rfl, rfl, rfl, List.all_eq_true.1 (by rfl), ⟨_, rfl, fun _ => rfl⟩, fun _ => rfl⟩
theorem inf16 : InfoP 16 [.sc (.pointer none)] 1 8 := ⟨Tryz.t16, (.pointer none), by kernel_rfl, rfl, rfl, by kernel_rfl, rfl, rfl, List.all_eq_true.1 (by rfl), ⟨_, rfl, fun _ => rfl⟩, fun _ => rfl⟩
theorem inf17 : InfoP 17 [.sc (.pointer none)] 1 8 := ⟨Tryz.t17, (.pointer none), by kernel_rfl, rfl, rfl, by kernel_rfl, rfl, rfl, List.all_eq_true.1 (by rfl), ⟨_, rfl, fun _ => rfl⟩, fun _ => rfl⟩
theorem inf18 : InfoP 18 [.sc (.pointer none)] 1 8 := ⟨Tryz.t18, (.agg #[.pointer none]), by kernel_rfl, rfl, rfl, by kernel_rfl, rfl, rfl, List.all_eq_true.1 (by rfl), ⟨_, rfl, fun h => nomatch h⟩, fun h => nomatch h⟩
theorem inf19 : InfoP 19 [.sc (.pointer none)] 1 8 := ⟨Tryz.t19, (.agg #[.pointer none]), by kernel_rfl, rfl, rfl, by kernel_rfl, rfl, rfl, List.all_eq_true.1 (by rfl), ⟨_, rfl, fun h => nomatch h⟩, fun h => nomatch h⟩
theorem inf21 : InfoP 21 [.sc (.int .i32 0)] 1 4 := ⟨Tryz.t21, (.int .i32 0), by kernel_rfl, rfl, rfl, by kernel_rfl, rfl, rfl, List.all_eq_true.1 (by rfl), ⟨_, rfl, fun _ => rfl⟩, fun _ => rfl⟩
theorem inf22 : InfoP 22 [.sl 75 []] 1 24 := ⟨Tryz.t22, (.slice none 0 0), by kernel_rfl, rfl, rfl, by kernel_rfl, rfl, rfl, List.all_eq_true.1 (by rfl), ⟨_, rfl, fun _ => rfl⟩, fun _ => rfl⟩
theorem inf23 : InfoP 23 [.sc (.int .i64 0), .sc (.int .i64 0), .sc (.int .i64 0), .sc (.int .i64 0), .sl 75 []] 5 56 := ⟨Tryz.t23, (.agg #[.int .i64 0, .int .i64 0, .int .i64 0, .int .i64 0, .slice none 0 0]), by kernel_rfl, rfl, rfl, by kernel_rfl, rfl, rfl, List.all_eq_true.1 (by rfl), ⟨_, rfl, fun h => nomatch h⟩, fun h => nomatch h⟩
theorem inf24 : InfoP 24 [.sc (.int .i64 0), .sc (.int .i64 0), .sc (.int .i64 0), .sc (.int .i64 0), .sl 75 []] 5 56 := ⟨Tryz.t24, (.agg #[.int .i64 0, .int .i64 0, .int .i64 0, .int .i64 0, .slice none 0 0]), by kernel_rfl, rfl, rfl, by kernel_rfl, rfl, rfl, List.all_eq_true.1 (by rfl), ⟨_, rfl, fun h => nomatch h⟩, fun h => nomatch h⟩
theorem inf25 : InfoP 25 [.sl 3 []] 1 24 := ⟨Tryz.t25, (.slice none 0 0), by kernel_rfl, rfl, rfl, by kernel_rfl, rfl, rfl, List.all_eq_true.1 (by rfl), ⟨_, rfl, fun _ => rfl⟩, fun _ => rfl⟩
theorem inf28 : InfoP 28 [.sl 25 []] 1 24 := ⟨Tryz.t28, (.slice none 0 0), by kernel_rfl, rfl, rfl, by kernel_rfl, rfl, rfl, List.all_eq_true.1 (by rfl), ⟨_, rfl, fun _ => rfl⟩, fun _ => rfl⟩
theorem inf29 : InfoP 29 [.sc (.int .i64 0)] 1 8 := ⟨Tryz.t29, (.int .i64 0), by kernel_rfl, rfl, rfl, by kernel_rfl, rfl, rfl, List.all_eq_true.1 (by rfl), ⟨_, rfl, fun _ => rfl⟩, fun _ => rfl⟩
theorem inf33 : InfoP 33 [.sl 4 []] 1 24 := ⟨Tryz.t33, (.slice none 0 0), by kernel_rfl, rfl, rfl, by kernel_rfl, rfl, rfl, List.all_eq_true.1 (by rfl), ⟨_, rfl, fun _ => rfl⟩, fun _ => rfl⟩
theorem inf57 : InfoP 57 [.sl 118 []] 1 24 := ⟨Tryz.t57, (.slice none 0 0), by kernel_rfl, rfl, rfl, by kernel_rfl, rfl, rfl, List.all_eq_true.1 (by rfl), ⟨_, rfl, fun _ => rfl⟩, fun _ => rfl⟩
theorem inf58 : InfoP 58 [.sl 114 []] 1 24 := ⟨Tryz.t58, (.slice none 0 0), by kernel_rfl, rfl, rfl, by kernel_rfl, rfl, rfl, List.all_eq_true.1 (by rfl), ⟨_, rfl, fun _ => rfl⟩, fun _ => rfl⟩
theorem inf59 : InfoP 59 [.sc (.int .i64 0), .sc (.int .i64 0), .sl 3 [], .sc (.int .i64 0), .sl 118 [], .sl 114 []] 6 96 := ⟨Tryz.t59, (.agg #[.int .i64 0, .int .i64 0, .slice none 0 0, .int .i64 0, .slice none 0 0, .slice none 0 0]), by kernel_rfl, rfl, rfl, by kernel_rfl, rfl, rfl, List.all_eq_true.1 (by rfl), ⟨_, rfl, fun h => nomatch h⟩, fun h => nomatch h⟩
theorem inf60 : InfoP 60 [.sc (.int .i64 0), .sc (.int .i64 0), .sl 3 [], .sc (.int .i64 0), .sl 118 [], .sl 114 []] 6 96 := ⟨Tryz.t60, (.agg #[.int .i64 0, .int .i64 0, .slice none 0 0, .int .i64 0, .slice none 0 0, .slice none 0 0]), by kernel_rfl, rfl, rfl, by kernel_rfl, rfl, rfl, List.all_eq_true.1 (by rfl), ⟨_, rfl, fun h => nomatch h⟩, fun h => nomatch h⟩
theorem inf70 : InfoP 70 [.sc .nilFunc] 1 8 := ⟨Tryz.t70, (.nilFunc), by kernel_rfl, rfl, rfl, by kernel_rfl, rfl, rfl, List.all_eq_true.1 (by rfl), ⟨_, rfl, fun _ => rfl⟩, fun _ => rfl⟩
theorem inf74 : InfoP 74 [.sc (.int .i64 0), .sc (.int .i64 0), .sc (.int .i64 0), .sc (.int .i64 0)] 4 32 := ⟨Tryz.t74, (.agg #[.int .i64 0, .int .i64 0, .int .i64 0, .int .i64 0]), by kernel_rfl, rfl, rfl, by kernel_rfl, rfl, rfl, List.all_eq_true.1 (by rfl), ⟨_, rfl, fun h => nomatch h⟩, fun h => nomatch h⟩
theorem inf75 : InfoP 75 [.sc (.int .i64 0), .sc (.int .i64 0), .sc (.int .i64 0), .sc (.int .i64 0)] 4 32 := ⟨Tryz.t75, (.agg #[.int .i64 0, .int .i64 0, .int .i64 0, .int .i64 0]), by kernel_rfl, rfl, rfl, by kernel_rfl, rfl, rfl, List.all_eq_true.1 (by rfl), ⟨_, rfl, fun h => nomatch h⟩, fun h => nomatch h⟩
theorem inf79 : InfoP 79 [.sl 83 []] 1 24 := ⟨Tryz.t79, (.slice none 0 0), by kernel_rfl, rfl, rfl, by kernel_rfl, rfl, rfl, List.all_eq_true.1 (by rfl), ⟨_, rfl, fun _ => rfl⟩, fun _ => rfl⟩
theorem inf80 : InfoP 80 [.sl 83 []] 1 24 := ⟨Tryz.t80, (.slice none 0 0), by kernel_rfl, rfl, rfl, by kernel_rfl, rfl, rfl, List.all_eq_true.1 (by rfl), ⟨_, rfl, fun _ => rfl⟩, fun _ => rfl⟩
theorem inf82 : InfoP 82 [.sc (.pointer none)] 1 8 := ⟨Tryz.t82, (.pointer none), by kernel_rfl, rfl, rfl, by kernel_rfl, rfl, rfl, List.all_eq_true.1 (by rfl), ⟨_, rfl, fun _ => rfl⟩, fun _ => rfl⟩
theorem inf83 : InfoP 83 [.sl 82 []] 1 24 := ⟨Tryz.t83, (.slice none 0 0), by kernel_rfl, rfl, rfl, by kernel_rfl, rfl, rfl, List.all_eq_true.1 (by rfl), ⟨_, rfl, fun _ => rfl⟩, fun _ => rfl⟩
theorem inf85 : InfoP 85 [.sl 9 []] 1 24 := ⟨Tryz.t85, (.slice none 0 0), by kernel_rfl, rfl, rfl, by kernel_rfl, rfl, rfl, List.all_eq_true.1 (by rfl), ⟨_, rfl, fun _ => rfl⟩, fun _ => rfl⟩
theorem inf91 : InfoP 91 [.sc (.int .i64 0), .sc (.int .i64 0), .sc (.int .i64 0), .sc (.int .i64 0)] 4 32 := ⟨Tryz.t91, (.agg #[.int .i64 0, .int .i64 0, .int .i64 0, .int .i64 0]), by kernel_rfl, rfl, rfl, by kernel_rfl, rfl, rfl, List.all_eq_true.1 (by rfl), ⟨_, rfl, fun h => nomatch h⟩, fun h => nomatch h⟩
theorem inf97 : InfoP 97 [.sl 100 []] 1 24 := ⟨Tryz.t97, (.slice none 0 0), by kernel_rfl, rfl, rfl, by kernel_rfl, rfl, rfl, List.all_eq_true.1 (by rfl), ⟨_, rfl, fun _ => rfl⟩, fun _ => rfl⟩
theorem inf100 : InfoP 100 [.sc (.int .i64 0), .sc (.int .i64 0)] 2 16 := ⟨Tryz.t100, (.agg #[.int .i64 0, .int .i64 0]), by kernel_rfl, rfl, rfl, by kernel_rfl, rfl, rfl, List.all_eq_true.1 (by rfl), ⟨_, rfl, fun h => nomatch h⟩, fun h => nomatch h⟩
theorem inf101 : InfoP 101 [.sl 3 [], .sc (.int .i64 0)] 2 32 := ⟨Tryz.t101, (.agg #[.slice none 0 0, .int .i64 0]), by kernel_rfl, rfl, rfl, by kernel_rfl, rfl, rfl, List.all_eq_true.1 (by rfl), ⟨_, rfl, fun h => nomatch h⟩, fun h => nomatch h⟩
theorem inf102 : InfoP 102 [.sl 3 [], .sc (.int .i64 0)] 2 32 := ⟨Tryz.t102, (.agg #[.slice none 0 0, .int .i64 0]), by kernel_rfl, rfl, rfl, by kernel_rfl, rfl, rfl, List.all_eq_true.1 (by rfl), ⟨_, rfl, fun h => nomatch h⟩, fun h => nomatch h⟩
theorem inf107 : InfoP 107 [.sc (.int .i64 0), .sc (.int .i64 0)] 2 16 := ⟨Tryz.t107, (.agg #[.int .i64 0, .int .i64 0]), by kernel_rfl, rfl, rfl, by kernel_rfl, rfl, rfl, List.all_eq_true.1 (by rfl), ⟨_, rfl, fun h => nomatch h⟩, fun h => nomatch h⟩
theorem inf108 : InfoP 108 [.sc (.int .i64 0), .sc (.int .i64 0)] 2 16 := ⟨Tryz.t108, (.agg #[.int .i64 0, .int .i64 0]), by kernel_rfl, rfl, rfl, by kernel_rfl, rfl, rfl, List.all_eq_true.1 (by rfl), ⟨_, rfl, fun h => nomatch h⟩, fun h => nomatch h⟩
theorem inf109 : InfoP 109 [.sc (.int .i64 0), .sc (.int .i64 0), .sc (.int .i64 0), .sc (.int .i64 0), .sc (.int .i64 0), .sc (.bool false)] 6 48 := ⟨Tryz.t109, (.agg #[.int .i64 0, .int .i64 0, .int .i64 0, .int .i64 0, .int .i64 0, .bool false]), by kernel_rfl, rfl, rfl, by kernel_rfl, rfl, rfl, List.all_eq_true.1 (by rfl), ⟨_, rfl, fun h => nomatch h⟩, fun h => nomatch h⟩
theorem inf110 : InfoP 110 [.sc (.int .i64 0), .sc (.int .i64 0), .sc (.int .i64 0), .sc (.int .i64 0), .sc (.int .i64 0), .sc (.bool false)] 6 48 := ⟨Tryz.t110, (.agg #[.int .i64 0, .int .i64 0, .int .i64 0, .int .i64 0, .int .i64 0, .bool false]), by kernel_rfl, rfl, rfl, by kernel_rfl, rfl, rfl, List.all_eq_true.1 (by rfl), ⟨_, rfl, fun h => nomatch h⟩, fun h => nomatch h⟩
theorem inf111 : InfoP 111 [.sl 110 []] 1 24 := ⟨Tryz.t111, (.slice none 0 0), by kernel_rfl, rfl, rfl, by kernel_rfl, rfl, rfl, List.all_eq_true.1 (by rfl), ⟨_, rfl, fun _ => rfl⟩, fun _ => rfl⟩
theorem inf112 : InfoP 112 [.sl 116 []] 1 24 := ⟨Tryz.t112, (.slice none 0 0), by kernel_rfl, rfl, rfl, by kernel_rfl, rfl, rfl, List.all_eq_true.1 (by rfl), ⟨_, rfl, fun _ => rfl⟩, fun _ => rfl⟩
theorem inf113 : InfoP 113 [.sc (.int .i64 0), .sc (.int .i64 0), .sc (.int .i64 0), .sl 116 [], .sl 110 [], .sc (.int .i64 0), .sc (.int .i64 0)] 7 88 := ⟨Tryz.t113, (.agg #[.int .i64 0, .int .i64 0, .int .i64 0, .slice none 0 0, .slice none 0 0, .int .i64 0, .int .i64 0]), by kernel_rfl, rfl, rfl, by kernel_rfl, rfl, rfl, List.all_eq_true.1 (by rfl), ⟨_, rfl, fun h => nomatch h⟩, fun h => nomatch h⟩
theorem inf114 : InfoP 114 [.sc (.int .i64 0), .sc (.int .i64 0), .sc (.int .i64 0), .sl 116 [], .sl 110 [], .sc (.int .i64 0), .sc (.int .i64 0)] 7 88 := ⟨Tryz.t114, (.agg #[.int .i64 0, .int .i64 0, .int .i64 0, .slice none 0 0, .slice none 0 0, .int .i64 0, .int .i64 0]), by kernel_rfl, rfl, rfl, by kernel_rfl, rfl, rfl, List.all_eq_true.1 (by rfl), ⟨_, rfl, fun h => nomatch h⟩, fun h => nomatch h⟩
theorem inf115 : InfoP 115 [.sc (.int .i64 0), .sc (.int .i64 0), .sc (.int .i64 0), .sc (.int .i64 0), .sc (.int .i64 0)] 5 40 := ⟨Tryz.t115, (.agg #[.int .i64 0, .int .i64 0, .int .i64 0, .int .i64 0, .int .i64 0]), by kernel_rfl, rfl, rfl, by kernel_rfl, rfl, rfl, List.all_eq_true.1 (by rfl), ⟨_, rfl, fun h => nomatch h⟩, fun h => nomatch h⟩
theorem inf116 : InfoP 116 [.sc (.int .i64 0), .sc (.int .i64 0), .sc (.int .i64 0), .sc (.int .i64 0), .sc (.int .i64 0)] 5 40 := ⟨Tryz.t116, (.agg #[.int .i64 0, .int .i64 0, .int .i64 0, .int .i64 0, .int .i64 0]), by kernel_rfl, rfl, rfl, by kernel_rfl, rfl, rfl, List.all_eq_true.1 (by rfl), ⟨_, rfl, fun h => nomatch h⟩, fun h => nomatch h⟩
theorem inf117 : InfoP 117 [.sc (.int .i64 0), .sc (.int .i64 0), .sc (.int .i64 0)] 3 24 := ⟨Tryz.t117, (.agg #[.int .i64 0, .int .i64 0, .int .i64 0]), by kernel_rfl, rfl, rfl, by kernel_rfl, rfl, rfl, List.all_eq_true.1 (by rfl), ⟨_, rfl, fun h => nomatch h⟩, fun h => nomatch h⟩
theorem inf118 : InfoP 118 [.sc (.int .i64 0), .sc (.int .i64 0), .sc (.int .i64 0)] 3 24 := ⟨Tryz.t118, (.agg #[.int .i64 0, .int .i64 0, .int .i64 0]), by kernel_rfl, rfl, rfl, by kernel_rfl, rfl, rfl, List.all_eq_true.1 (by rfl), ⟨_, rfl, fun h => nomatch h⟩, fun h => nomatch h⟩
theorem inf126 : InfoP 126 [.sl 29 []] 1 24 := ⟨Tryz.t126, (.slice none 0 0), by kernel_rfl, rfl, rfl, by kernel_rfl, rfl, rfl, List.all_eq_true.1 (by rfl), ⟨_, rfl, fun _ => rfl⟩, fun _ => rfl⟩
theorem inf128 : InfoP 128 [.sc (.pointer none)] 1 8 := ⟨Tryz.t128, (.pointer none), by kernel_rfl, rfl, rfl, by kernel_rfl, rfl, rfl, List.all_eq_true.1 (by rfl), ⟨_, rfl, fun _ => rfl⟩, fun _ => rfl⟩
theorem inf129 : InfoP 129 [.sl 5 []] 1 24 := ⟨Tryz.t129, (.slice none 0 0), by kernel_rfl, rfl, rfl, by kernel_rfl, rfl, rfl, List.all_eq_true.1 (by rfl), ⟨_, rfl, fun _ => rfl⟩, fun _ => rfl⟩
theorem inf130 : InfoP 130 [.sc (.pointer none), .sl 5 []] 2 32 := ⟨Tryz.t130, (.agg #[.pointer none, .slice none 0 0]), by kernel_rfl, rfl, rfl, by kernel_rfl, rfl, rfl, List.all_eq_true.1 (by rfl), ⟨_, rfl, fun h => nomatch h⟩, fun h => nomatch h⟩
theorem inf131 : InfoP 131 [.sc (.pointer none), .sl 5 []] 2 32 := ⟨Tryz.t131, (.agg #[.pointer none, .slice none 0 0]), by kernel_rfl, rfl, rfl, by kernel_rfl, rfl, rfl, List.all_eq_true.1 (by rfl), ⟨_, rfl, fun h => nomatch h⟩, fun h => nomatch h⟩
theorem inf134 : InfoP 134 [.sc .nilIface] 1 16 := ⟨Tryz.t134, (.nilIface), by kernel_rfl, rfl, rfl, by kernel_rfl, rfl, rfl, List.all_eq_true.1 (by rfl), ⟨_, rfl, fun _ => rfl⟩, fun _ => rfl⟩
theorem inf145 : InfoP 145 [.sl 102 []] 1 24 := ⟨Tryz.t145, (.slice none 0 0), by kernel_rfl, rfl, rfl, by kernel_rfl, rfl, rfl, List.all_eq_true.1 (by rfl), ⟨_, rfl, fun _ => rfl⟩, fun _ => rfl⟩
theorem inf153 : InfoP 153 [.sc (.int .u64 0)] 1 8 := ⟨Tryz.t153, (.int .u64 0), by kernel_rfl, rfl, rfl, by kernel_rfl, rfl, rfl, List.all_eq_true.1 (by rfl), ⟨_, rfl, fun _ => rfl⟩, fun _ => rfl⟩
theorem inf156 : InfoP 156 [.sc (.pointer none)] 1 8 := ⟨Tryz.t156, (.pointer none), by kernel_rfl, rfl, rfl, by kernel_rfl, rfl, rfl, List.all_eq_true.1 (by rfl), ⟨_, rfl, fun _ => rfl⟩, fun _ => rfl⟩
theorem inf167 : InfoP 167 [.sc (.int .i64 0)] 1 8 := ⟨Tryz.t167, (.int .i64 0), by kernel_rfl, rfl, rfl, by kernel_rfl, rfl, rfl, List.all_eq_true.1 (by rfl), ⟨_, rfl, fun _ => rfl⟩, fun _ => rfl⟩
theorem inf175 : InfoP 175 [.sc (.int .u32 0)] 1 4 := ⟨Tryz.t175, (.int .u32 0), by kernel_rfl, rfl, rfl, by kernel_rfl, rfl, rfl, List.all_eq_true.1 (by rfl), ⟨_, rfl, fun _ => rfl⟩, fun _ => rfl⟩
theorem inf177 : InfoP 177 [.sc (.int .u64 0)] 1 8 := ⟨Tryz.t177, (.int .u64 0), by kernel_rfl, rfl, rfl, by kernel_rfl, rfl, rfl, List.all_eq_true.1 (by rfl), ⟨_, rfl, fun _ => rfl⟩, fun _ => rfl⟩
theorem inf178 : InfoP 178 [.sc (.int .u8 0), .sc (.int .u8 0), .sc (.int .u8 0), .sc (.int .u8 0), .sc (.int .u8 0), .sc (.int .u8 0), .sc (.int .u8 0), .sc (.int .u8 0), .sc (.int .u8 0), .sc (.int .u8 0), .sc (.int .u8 0), .sc (.int .u8 0), .sc (.int .u8 0), .sc (.int .u8 0), .sc (.int .u8 0), .sc (.int .u8 0), .sc (.int .u8 0), .sc (.int .u8 0), .sc (.int .u8 0), .sc (.int .u8 0), .sc (.int .u8 0), .sc (.int .u8 0), .sc (.int .u8 0), .sc (.int .u8 0)] 24 24 := ⟨Tryz.t178, (.agg #[.int .u8 0, .int .u8 0, .int .u8 0, .int .u8 0, .int .u8 0, .int .u8 0, .int .u8 0, .int .u8 0, .int .u8 0, .int .u8 0, .int .u8 0, .int .u8 0, .int .u8 0, .int .u8 0, .int .u8 0, .int .u8 0, .int .u8 0, .int .u8 0, .int .u8 0, .int .u8 0, .int .u8 0, .int .u8 0, .int .u8 0, .int .u8 0]), by kernel_rfl, rfl, rfl, by kernel_rfl, rfl, rfl, List.all_eq_true.1 (by rfl), ⟨_, rfl, fun h => nomatch h⟩, fun h => nomatch h⟩
theorem inf189 : InfoP 189 [.sc (.int .i64 0)] 1 8 := ⟨Tryz.t189, (.int .i64 0), by kernel_rfl, rfl, rfl, by kernel_rfl, rfl, rfl, List.all_eq_true.1 (by rfl), ⟨_, rfl, fun _ => rfl⟩, fun _ => rfl⟩
theorem inf192 : InfoP 192 [.sc (.pointer none)] 1 8 := ⟨Tryz.t192, (.pointer none), by kernel_rfl, rfl, rfl, by kernel_rfl, rfl, rfl, List.all_eq_true.1 (by rfl), ⟨_, rfl, fun _ => rfl⟩, fun _ => rfl⟩
theorem inf199 : InfoP 199 [.sc (.int .u64 0)] 1 8 := ⟨Tryz.t199, (.int .u64 0), by kernel_rfl, rfl, rfl, by kernel_rfl, rfl, rfl, List.all_eq_true.1 (by rfl), ⟨_, rfl, fun _ => rfl⟩, fun _ => rfl⟩
theorem inf203 : InfoP 203 [.sc (.pointer none)] 1 8 := ⟨Tryz.t203, (.pointer none), by kernel_rfl, rfl, rfl, by kernel_rfl, rfl, rfl, List.all_eq_true.1 (by rfl), ⟨_, rfl, fun _ => rfl⟩, fun _ => rfl⟩
theorem inf205 : InfoP 205 [.sc (.int .u64 0), .sc (.int .u64 0), .sc (.int .u64 0), .sc (.int .u64 0), .sc (.int .u64 0), .sc (.int .u64 0), .sc (.int .u64 0), .sc (.int .u64 0), .sc (.int .u64 0), .sc (.int .u64 0), .sc (.int .u64 0), .sc (.int .u64 0), .sc (.int .u64 0), .sc (.int .u64 0), .sc (.int .u64 0), .sc (.int .u64 0), .sc (.int .u64 0), .sc (.int .u64 0), .sc (.int .u64 0), .sc (.int .u64 0)] 20 160 := ⟨Tryz.t205, (.agg #[.int .u64 0, .int .u64 0, .int .u64 0, .int .u64 0, .int .u64 0, .int .u64 0, .int .u64 0, .int .u64 0, .int .u64 0, .int .u64 0, .int .u64 0, .int .u64 0, .int .u64 0, .int .u64 0, .int .u64 0, .int .u64 0, .int .u64 0, .int .u64 0, .int .u64 0, .int .u64 0]), by kernel_rfl, rfl, rfl, by kernel_rfl, rfl, rfl, List.all_eq_true.1 (by rfl), ⟨_, rfl, fun h => nomatch h⟩, fun h => nomatch h⟩
theorem inf215 : InfoP 215 [.sc (.string ByteArray.empty), .sc (.string ByteArray.empty), .sc .nilIface] 3 48 := ⟨Tryz.t215, (.agg #[.string ByteArray.empty, .string ByteArray.empty, .nilIface]), by kernel_rfl, rfl, rfl, by kernel_rfl, rfl, rfl, List.all_eq_true.1 (by rfl), ⟨_, rfl, fun h => nomatch h⟩, fun h => nomatch h⟩
theorem inf216 : InfoP 216 [.sc (.string ByteArray.empty), .sc (.string ByteArray.empty), .sc .nilIface] 3 48 := ⟨Tryz.t216, (.agg #[.string ByteArray.empty, .string ByteArray.empty, .nilIface]), by kernel_rfl, rfl, rfl, by kernel_rfl, rfl, rfl, List.all_eq_true.1 (by rfl), ⟨_, rfl, fun h => nomatch h⟩, fun h => nomatch h⟩
theorem inf219 : InfoP 219 [.sc (.pointer none)] 1 8 := ⟨Tryz.t219, (.pointer none), by kernel_rfl, rfl, rfl, by kernel_rfl, rfl, rfl, List.all_eq_true.1 (by rfl), ⟨_, rfl, fun _ => rfl⟩, fun _ => rfl⟩
theorem inf223 : InfoP 223 [.sc (.pointer none)] 1 8 := ⟨Tryz.t223, (.pointer none), by kernel_rfl, rfl, rfl, by kernel_rfl, rfl, rfl, List.all_eq_true.1 (by rfl), ⟨_, rfl, fun _ => rfl⟩, fun _ => rfl⟩
theorem inf224 : InfoP 224 [.sc (.string ByteArray.empty)] 1 16 := ⟨Tryz.t224, (.agg #[.string ByteArray.empty]), by kernel_rfl, rfl, rfl, by kernel_rfl, rfl, rfl, List.all_eq_true.1 (by rfl), ⟨_, rfl, fun h => nomatch h⟩, fun h => nomatch h⟩
theorem inf225 : InfoP 225 [.sc (.string ByteArray.empty)] 1 16 := ⟨Tryz.t225, (.agg #[.string ByteArray.empty]), by kernel_rfl, rfl, rfl, by kernel_rfl, rfl, rfl, List.all_eq_true.1 (by rfl), ⟨_, rfl, fun h => nomatch h⟩, fun h => nomatch h⟩
theorem inf229 : InfoP 229 [.sc (.int .u8 0), .sc (.int .u8 0)] 2 2 := ⟨Tryz.t229, (.agg #[.int .u8 0, .int .u8 0]), by kernel_rfl, rfl, rfl, by kernel_rfl, rfl, rfl, List.all_eq_true.1 (by rfl), ⟨_, rfl, fun h => nomatch h⟩, fun h => nomatch h⟩
theorem inf230 : InfoP 230 [.sc (.int .u8 0), .sc (.int .u8 0)] 2 2 := ⟨Tryz.t230, (.agg #[.int .u8 0, .int .u8 0]), by kernel_rfl, rfl, rfl, by kernel_rfl, rfl, rfl, List.all_eq_true.1 (by rfl), ⟨_, rfl, fun h => nomatch h⟩, fun h => nomatch h⟩
theorem inf232 : InfoP 232 [.sc (.pointer none), .sc (.pointer none), .sc (.pointer none), .sc (.string ByteArray.empty)] 4 40 := ⟨Tryz.t232, (.agg #[.pointer none, .pointer none, .pointer none, .string ByteArray.empty]), by kernel_rfl, rfl, rfl, by kernel_rfl, rfl, rfl, List.all_eq_true.1 (by rfl), ⟨_, rfl, fun h => nomatch h⟩, fun h => nomatch h⟩
theorem inf233 : InfoP 233 [.sc (.pointer none), .sc (.pointer none), .sc (.pointer none), .sc (.string ByteArray.empty)] 4 40 := ⟨Tryz.t233, (.agg #[.pointer none, .pointer none, .pointer none, .string ByteArray.empty]), by kernel_rfl, rfl, rfl, by kernel_rfl, rfl, rfl, List.all_eq_true.1 (by rfl), ⟨_, rfl, fun h => nomatch h⟩, fun h => nomatch h⟩
theorem inf234 : InfoP 234 [] 0 0 := ⟨Tryz.t234, (.agg #[]), by kernel_rfl, rfl, rfl, by kernel_rfl, rfl, rfl, List.all_eq_true.1 (by rfl), ⟨_, rfl, fun h => nomatch h⟩, fun h => nomatch h⟩
theorem inf235 : InfoP 235 [] 0 0 := ⟨Tryz.t235, (.agg #[]), by kernel_rfl, rfl, rfl, by kernel_rfl, rfl, rfl, List.all_eq_true.1 (by rfl), ⟨_, rfl, fun h => nomatch h⟩, fun h => nomatch h⟩
theorem inf236 : InfoP 236 [] 0 0 := ⟨Tryz.t236, (.agg #[]), by kernel_rfl, rfl, rfl, by kernel_rfl, rfl, rfl, List.all_eq_true.1 (by rfl), ⟨_, rfl, fun h => nomatch h⟩, fun h => nomatch h⟩
theorem inf238 : InfoP 238 [.sc (.int .u8 0)] 1 1 := ⟨Tryz.t238, (.int .u8 0), by kernel_rfl, rfl, rfl, by kernel_rfl, rfl, rfl, List.all_eq_true.1 (by rfl), ⟨_, rfl, fun _ => rfl⟩, fun _ => rfl⟩
theorem inf239 : InfoP 239 [.sc (.int .u8 0)] 1 1 := ⟨Tryz.t239, (.int .u8 0), by kernel_rfl, rfl, rfl, by kernel_rfl, rfl, rfl, List.all_eq_true.1 (by rfl), ⟨_, rfl, fun _ => rfl⟩, fun _ => rfl⟩
theorem inf241 : InfoP 241 [.sc (.int .i32 0)] 1 4 := ⟨Tryz.t241, (.int .i32 0), by kernel_rfl, rfl, rfl, by kernel_rfl, rfl, rfl, List.all_eq_true.1 (by rfl), ⟨_, rfl, fun _ => rfl⟩, fun _ => rfl⟩
theorem inf242 : InfoP 242 [.sc (.int .i32 0)] 1 4 := ⟨Tryz.t242, (.int .i32 0), by kernel_rfl, rfl, rfl, by kernel_rfl, rfl, rfl, List.all_eq_true.1 (by rfl), ⟨_, rfl, fun _ => rfl⟩, fun _ => rfl⟩
theorem inf243 : InfoP 243 [.sc (.int .u64 0), .sc (.int .u64 0), .sc (.int .u32 0), .sc (.int .u8 0), .sc (.int .u8 0), .sc (.int .u8 0), .sc (.int .u8 0), .sc .nilFunc, .sc (.pointer none), .sc (.int .i32 0), .sc (.int .i32 0)] 11 48 := ⟨Tryz.t243, (.agg #[.int .u64 0, .int .u64 0, .int .u32 0, .int .u8 0, .int .u8 0, .int .u8 0, .int .u8 0, .nilFunc, .pointer none, .int .i32 0, .int .i32 0]), by kernel_rfl, rfl, rfl, by kernel_rfl, rfl, rfl, List.all_eq_true.1 (by rfl), ⟨_, rfl, fun h => nomatch h⟩, fun h => nomatch h⟩
theorem inf244 : InfoP 244 [.sc (.int .u64 0), .sc (.int .u64 0), .sc (.int .u32 0), .sc (.int .u8 0), .sc (.int .u8 0), .sc (.int .u8 0), .sc (.int .u8 0), .sc .nilFunc, .sc (.pointer none), .sc (.int .i32 0), .sc (.int .i32 0)] 11 48 := ⟨Tryz.t244, (.agg #[.int .u64 0, .int .u64 0, .int .u32 0, .int .u8 0, .int .u8 0, .int .u8 0, .int .u8 0, .nilFunc, .pointer none, .int .i32 0, .int .i32 0]), by kernel_rfl, rfl, rfl, by kernel_rfl, rfl, rfl, List.all_eq_true.1 (by rfl), ⟨_, rfl, fun h => nomatch h⟩, fun h => nomatch h⟩
theorem info_ok : ∀ t z s b, tabInfo t = some (z, s, b) → InfoP t z s b := by
  intro t z s b h
  unfold tabInfo at h
  split at h
  · cases h; exact inf2
  · cases h; exact inf3
  · cases h; exact inf4
  · cases h; exact inf5
  · cases h; exact inf6
  · cases h; exact inf7
  · cases h; exact inf8
  · cases h; exact inf9
  · cases h; exact inf10
  · cases h; exact inf11
  · cases h; exact inf12
  · cases h; exact inf13
  · cases h; exact inf14
  · cases h; exact inf15
  · cases h; exact inf16
  · cases h; exact inf17
  · cases h; exact inf18
  · cases h; exact inf19
  · cases h; exact inf21
  · cases h; exact inf22
  · cases h; exact inf23
  · cases h; exact inf24
  · cases h; exact inf25
  · cases h; exact inf28
  · cases h; exact inf29
  · cases h; exact inf33
  · cases h; exact inf57
  · cases h; exact inf58
  · cases h; exact inf59
  · cases h; exact inf60
  · cases h; exact inf70
  · cases h; exact inf74
  · cases h; exact inf75
  · cases h; exact inf79
  · cases h; exact inf80
  · cases h; exact inf82
  · cases h; exact inf83
  · cases h; exact inf85
  · cases h; exact inf91
  · cases h; exact inf97
  · cases h; exact inf100
  · cases h; exact inf101
  · cases h; exact inf102
  · cases h; exact inf107
  · cases h; exact inf108
  · cases h; exact inf109
  · cases h; exact inf110
  · cases h; exact inf111
  · cases h; exact inf112
  · cases h; exact inf113
  · cases h; exact inf114
  · cases h; exact inf115
  · cases h; exact inf116
  · cases h; exact inf117
  · cases h; exact inf118
  · cases h; exact inf126
  · cases h; exact inf128
  · cases h; exact inf129
  · cases h; exact inf130
  · cases h; exact inf131
  · cases h; exact inf134
  · cases h; exact inf145
  · cases h; exact inf153
  · cases h; exact inf156
  · cases h; exact inf167
  · cases h; exact inf175
  · cases h; exact inf177
  · cases h; exact inf178
  · cases h; exact inf189
  · cases h; exact inf192
  · cases h; exact inf199
  · cases h; exact inf203
  · cases h; exact inf205
  · cases h; exact inf215
  · cases h; exact inf216
  · cases h; exact inf219
  · cases h; exact inf223
  · cases h; exact inf224
  · cases h; exact inf225
  · cases h; exact inf229
  · cases h; exact inf230
  · cases h; exact inf232
  · cases h; exact inf233
  · cases h; exact inf234
  · cases h; exact inf235
  · cases h; exact inf236
  · cases h; exact inf238
  · cases h; exact inf239
  · cases h; exact inf241
  · cases h; exact inf242
  · cases h; exact inf243
  · cases h; exact inf244
  · cases h
theorem elem_ok : ∀ t e, tabTy t = some (.slice e) → ∃ i, tabInfo e = some i := by
  intro t e h
  unfold tabTy at h
  split at h
  · cases h
  · cases h
  · cases h
  · cases h
  · cases h
  · cases h
  · cases h
  · cases h
  · cases h
  · cases h
  · cases h
  · cases h
  · cases h
  · cases h
  · cases h; exact ⟨_, rfl⟩
  · cases h; exact ⟨_, rfl⟩
  · cases h; exact ⟨_, rfl⟩
  · cases h
  · cases h
  · cases h; exact ⟨_, rfl⟩
  · cases h
  · cases h
  · cases h
  · cases h
  · cases h
  · cases h
  · cases h
  · cases h; exact ⟨_, rfl⟩
  · cases h; exact ⟨_, rfl⟩
  · cases h
  · cases h
  · cases h
  · cases h; exact ⟨_, rfl⟩
  · cases h; exact ⟨_, rfl⟩
  · cases h
  · cases h; exact ⟨_, rfl⟩
  · cases h; exact ⟨_, rfl⟩
  · cases h
  · cases h
  · cases h
  · cases h
  · cases h; exact ⟨_, rfl⟩
  · cases h
  · cases h
  · cases h; exact ⟨_, rfl⟩
  · cases h; exact ⟨_, rfl⟩
  · cases h
  · cases h; exact ⟨_, rfl⟩
  · cases h
  · cases h; exact ⟨_, rfl⟩
  · cases h
  · cases h
  · cases h
  · cases h; exact ⟨_, rfl⟩
  · cases h
  · cases h
  · cases h
  · cases h
  · cases h
  · cases h
  · cases h
  · cases h
  · cases h
  · cases h
  · cases h
  · cases h
  · cases h
  · cases h
  · cases h
  · cases h
  · cases h
  · cases h
  · cases h
  · cases h
  · cases h
  · cases h
  · cases h
  · cases h
  · cases h
  · cases h
  · cases h
  · cases h
  · cases h
  · cases h
  · cases h
  · cases h
  · cases h
  · cases h
  · cases h
  · cases h
  · cases h
  · cases h
  · cases h
  · cases h
  · cases h
  · cases h
  · cases h
  · cases h
  · cases h
  · cases h
  · cases h
  · cases h
  · cases h
  · cases h
  · cases h
  · cases h
  · cases h
  · cases h
  · cases h
  · cases h
  · cases h
  · cases h
  · cases h
  · cases h
  · cases h
  · cases h
  · cases h
  · cases h
theorem fl7 : ∀ fs, TD7 = .struct fs → ∀ f ∈ fs.toList, ∃ i, Tryz.prog.info? f.type = some i := by
  intro fs h f hf
  unfold TD7 at h
  cases h
  simp only [List.mem_cons, List.not_mem_nil, or_false] at hf
  rcases hf with rfl | rfl | rfl | rfl
  · exact ⟨Tryz.t2, by kernel_rfl⟩
  · exact ⟨Tryz.t3, by kernel_rfl⟩
  · exact ⟨Tryz.t4, by kernel_rfl⟩
  · exact ⟨Tryz.t6, by kernel_rfl⟩
theorem fl13 : ∀ fs, TD13 = .struct fs → ∀ f ∈ fs.toList, ∃ i, Tryz.prog.info? f.type = some i := by
  intro fs h f hf
  unfold TD13 at h
  cases h
  simp only [List.mem_cons, List.not_mem_nil, or_false] at hf
  rcases hf with rfl | rfl
  · exact ⟨Tryz.t9, by kernel_rfl⟩
  · exact ⟨Tryz.t12, by kernel_rfl⟩
theorem fl18 : ∀ fs, TD18 = .struct fs → ∀ f ∈ fs.toList, ∃ i, Tryz.prog.info? f.type = some i := by
  intro fs h f hf
  unfold TD18 at h
  cases h
  simp only [List.mem_cons, List.not_mem_nil, or_false] at hf
  subst hf
  · exact ⟨Tryz.t17, by kernel_rfl⟩
theorem fl23 : ∀ fs, TD23 = .struct fs → ∀ f ∈ fs.toList, ∃ i, Tryz.prog.info? f.type = some i := by
  intro fs h f hf
  unfold TD23 at h
  cases h
  simp only [List.mem_cons, List.not_mem_nil, or_false] at hf
  rcases hf with rfl | rfl | rfl | rfl | rfl
  · exact ⟨Tryz.t3, by kernel_rfl⟩
  · exact ⟨Tryz.t3, by kernel_rfl⟩
  · exact ⟨Tryz.t3, by kernel_rfl⟩
  · exact ⟨Tryz.t3, by kernel_rfl⟩
  · exact ⟨Tryz.t22, by kernel_rfl⟩
theorem fl59 : ∀ fs, TD59 = .struct fs → ∀ f ∈ fs.toList, ∃ i, Tryz.prog.info? f.type = some i := by
  intro fs h f hf
  unfold TD59 at h
  cases h
  simp only [List.mem_cons, List.not_mem_nil, or_false] at hf
  rcases hf with rfl | rfl | rfl | rfl | rfl | rfl
  · exact ⟨Tryz.t3, by kernel_rfl⟩
  · exact ⟨Tryz.t3, by kernel_rfl⟩
  · exact ⟨Tryz.t25, by kernel_rfl⟩
  · exact ⟨Tryz.t3, by kernel_rfl⟩
  · exact ⟨Tryz.t57, by kernel_rfl⟩
  · exact ⟨Tryz.t58, by kernel_rfl⟩
theorem fl74 : ∀ fs, TD74 = .struct fs → ∀ f ∈ fs.toList, ∃ i, Tryz.prog.info? f.type = some i := by
  intro fs h f hf
  unfold TD74 at h
  cases h
  simp only [List.mem_cons, List.not_mem_nil, or_false] at hf
  rcases hf with rfl | rfl | rfl | rfl
  · exact ⟨Tryz.t3, by kernel_rfl⟩
  · exact ⟨Tryz.t3, by kernel_rfl⟩
  · exact ⟨Tryz.t3, by kernel_rfl⟩
  · exact ⟨Tryz.t3, by kernel_rfl⟩
theorem fl101 : ∀ fs, TD101 = .struct fs → ∀ f ∈ fs.toList, ∃ i, Tryz.prog.info? f.type = some i := by
  intro fs h f hf
  unfold TD101 at h
  cases h
  simp only [List.mem_cons, List.not_mem_nil, or_false] at hf
  rcases hf with rfl | rfl
  · exact ⟨Tryz.t25, by kernel_rfl⟩
  · exact ⟨Tryz.t3, by kernel_rfl⟩
theorem fl107 : ∀ fs, TD107 = .struct fs → ∀ f ∈ fs.toList, ∃ i, Tryz.prog.info? f.type = some i := by
  intro fs h f hf
  unfold TD107 at h
  cases h
  simp only [List.mem_cons, List.not_mem_nil, or_false] at hf
  rcases hf with rfl | rfl
  · exact ⟨Tryz.t3, by kernel_rfl⟩
  · exact ⟨Tryz.t3, by kernel_rfl⟩
theorem fl109 : ∀ fs, TD109 = .struct fs → ∀ f ∈ fs.toList, ∃ i, Tryz.prog.info? f.type = some i := by
  intro fs h f hf
  unfold TD109 at h
  cases h
  simp only [List.mem_cons, List.not_mem_nil, or_false] at hf
  rcases hf with rfl | rfl | rfl | rfl
  · exact ⟨Tryz.t3, by kernel_rfl⟩
  · exact ⟨Tryz.t108, by kernel_rfl⟩
  · exact ⟨Tryz.t108, by kernel_rfl⟩
  · exact ⟨Tryz.t4, by kernel_rfl⟩
theorem fl113 : ∀ fs, TD113 = .struct fs → ∀ f ∈ fs.toList, ∃ i, Tryz.prog.info? f.type = some i := by
  intro fs h f hf
  unfold TD113 at h
  cases h
  simp only [List.mem_cons, List.not_mem_nil, or_false] at hf
  rcases hf with rfl | rfl | rfl | rfl | rfl | rfl
  · exact ⟨Tryz.t3, by kernel_rfl⟩
  · exact ⟨Tryz.t3, by kernel_rfl⟩
  · exact ⟨Tryz.t3, by kernel_rfl⟩
  · exact ⟨Tryz.t112, by kernel_rfl⟩
  · exact ⟨Tryz.t111, by kernel_rfl⟩
  · exact ⟨Tryz.t108, by kernel_rfl⟩
theorem fl115 : ∀ fs, TD115 = .struct fs → ∀ f ∈ fs.toList, ∃ i, Tryz.prog.info? f.type = some i := by
  intro fs h f hf
  unfold TD115 at h
  cases h
  simp only [List.mem_cons, List.not_mem_nil, or_false] at hf
  rcases hf with rfl | rfl | rfl
  · exact ⟨Tryz.t3, by kernel_rfl⟩
  · exact ⟨Tryz.t108, by kernel_rfl⟩
  · exact ⟨Tryz.t108, by kernel_rfl⟩
theorem fl117 : ∀ fs, TD117 = .struct fs → ∀ f ∈ fs.toList, ∃ i, Tryz.prog.info? f.type = some i := by
  intro fs h f hf
  unfold TD117 at h
  cases h
  simp only [List.mem_cons, List.not_mem_nil, or_false] at hf
  rcases hf with rfl | rfl | rfl
  · exact ⟨Tryz.t3, by kernel_rfl⟩
  · exact ⟨Tryz.t3, by kernel_rfl⟩
  · exact ⟨Tryz.t3, by kernel_rfl⟩
theorem fl130 : ∀ fs, TD130 = .struct fs → ∀ f ∈ fs.toList, ∃ i, Tryz.prog.info? f.type = some i := by
  intro fs h f hf
  unfold TD130 at h
  cases h
  simp only [List.mem_cons, List.not_mem_nil, or_false] at hf
  rcases hf with rfl | rfl
  · exact ⟨Tryz.t128, by kernel_rfl⟩
  · exact ⟨Tryz.t129, by kernel_rfl⟩
theorem fl215 : ∀ fs, TD215 = .struct fs → ∀ f ∈ fs.toList, ∃ i, Tryz.prog.info? f.type = some i := by
  intro fs h f hf
  unfold TD215 at h
  cases h
  simp only [List.mem_cons, List.not_mem_nil, or_false] at hf
  rcases hf with rfl | rfl | rfl
  · exact ⟨Tryz.t9, by kernel_rfl⟩
  · exact ⟨Tryz.t9, by kernel_rfl⟩
  · exact ⟨Tryz.t134, by kernel_rfl⟩
theorem fl224 : ∀ fs, TD224 = .struct fs → ∀ f ∈ fs.toList, ∃ i, Tryz.prog.info? f.type = some i := by
  intro fs h f hf
  unfold TD224 at h
  cases h
  simp only [List.mem_cons, List.not_mem_nil, or_false] at hf
  subst hf
  · exact ⟨Tryz.t9, by kernel_rfl⟩
theorem fl229 : ∀ fs, TD229 = .struct fs → ∀ f ∈ fs.toList, ∃ i, Tryz.prog.info? f.type = some i := by
  intro fs h f hf
  unfold TD229 at h
  cases h
  simp only [List.mem_cons, List.not_mem_nil, or_false] at hf
  rcases hf with rfl | rfl
  · exact ⟨Tryz.t5, by kernel_rfl⟩
  · exact ⟨Tryz.t5, by kernel_rfl⟩
theorem fl232 : ∀ fs, TD232 = .struct fs → ∀ f ∈ fs.toList, ∃ i, Tryz.prog.info? f.type = some i := by
  intro fs h f hf
  unfold TD232 at h
  cases h
  simp only [List.mem_cons, List.not_mem_nil, or_false] at hf
  rcases hf with rfl | rfl | rfl | rfl
  · exact ⟨Tryz.t17, by kernel_rfl⟩
  · exact ⟨Tryz.t17, by kernel_rfl⟩
  · exact ⟨Tryz.t17, by kernel_rfl⟩
  · exact ⟨Tryz.t9, by kernel_rfl⟩
theorem fl235 : ∀ fs, TD235 = .struct fs → ∀ f ∈ fs.toList, ∃ i, Tryz.prog.info? f.type = some i := by
  intro fs h f hf
  unfold TD235 at h
  cases h
  simp only [List.mem_cons, List.not_mem_nil, or_false] at hf
  subst hf
  · exact ⟨Tryz.t234, by kernel_rfl⟩
theorem fl243 : ∀ fs, TD243 = .struct fs → ∀ f ∈ fs.toList, ∃ i, Tryz.prog.info? f.type = some i := by
  intro fs h f hf
  unfold TD243 at h
  cases h
  simp only [List.mem_cons, List.not_mem_nil, or_false] at hf
  rcases hf with rfl | rfl | rfl | rfl | rfl | rfl | rfl | rfl | rfl | rfl | rfl
  · exact ⟨Tryz.t12, by kernel_rfl⟩
  · exact ⟨Tryz.t12, by kernel_rfl⟩
  · exact ⟨Tryz.t175, by kernel_rfl⟩
  · exact ⟨Tryz.t238, by kernel_rfl⟩
  · exact ⟨Tryz.t5, by kernel_rfl⟩
  · exact ⟨Tryz.t5, by kernel_rfl⟩
  · exact ⟨Tryz.t239, by kernel_rfl⟩
  · exact ⟨Tryz.t240, by kernel_rfl⟩
  · exact ⟨Tryz.t156, by kernel_rfl⟩
  · exact ⟨Tryz.t241, by kernel_rfl⟩
  · exact ⟨Tryz.t242, by kernel_rfl⟩
theorem fld_ok : ∀ T fs, tabTy T = some (.struct fs) → ∀ f ∈ fs.toList, ∃ i, Tryz.prog.info? f.type = some i := by
  intro t fs h
  unfold tabTy at h
  split at h
  · cases h
  · cases h
  · cases h
  · cases h
  · cases h
  · cases h
  · cases h
  · cases h
  · cases h
  · cases h
  · cases h
  · cases h
  · cases h
  · cases h
  · cases h
  · cases h
  · cases h
  · cases h
  · cases h
  · cases h
  · cases h
  · cases h
  · cases h
  · cases h
  · cases h
  · cases h
  · cases h
  · cases h
  · cases h
  · cases h
  · cases h
  · cases h
  · cases h
  · cases h
  · cases h
  · cases h
  · cases h
  · cases h
  · cases h
  · cases h
  · cases h
  · cases h
  · cases h
  · cases h
  · cases h
  · cases h
  · cases h
  · cases h
  · cases h
  · cases h
  · cases h
  · cases h
  · cases h
  · cases h
  · cases h
  · cases h
  · cases h
  · cases h
  · cases h
  · cases h
  · cases h
  · cases h
  · cases h
  · cases h
  · cases h
  · cases h
  · cases h
  · cases h
  · cases h
  · cases h
  · cases h
  · cases h
  · cases h
  · cases h
  · cases h
  · cases h
  · cases h
  · cases h
  · cases h
  · exact fl7 fs (Option.some.inj h)
  · exact fl7 fs (Option.some.inj h)
  · exact fl13 fs (Option.some.inj h)
  · exact fl13 fs (Option.some.inj h)
  · exact fl18 fs (Option.some.inj h)
  · exact fl18 fs (Option.some.inj h)
  · exact fl23 fs (Option.some.inj h)
  · exact fl23 fs (Option.some.inj h)
  · exact fl59 fs (Option.some.inj h)
  · exact fl59 fs (Option.some.inj h)
  · exact fl74 fs (Option.some.inj h)
  · exact fl74 fs (Option.some.inj h)
  · exact fl101 fs (Option.some.inj h)
  · exact fl101 fs (Option.some.inj h)
  · exact fl107 fs (Option.some.inj h)
  · exact fl107 fs (Option.some.inj h)
  · exact fl109 fs (Option.some.inj h)
  · exact fl109 fs (Option.some.inj h)
  · exact fl113 fs (Option.some.inj h)
  · exact fl113 fs (Option.some.inj h)
  · exact fl115 fs (Option.some.inj h)
  · exact fl115 fs (Option.some.inj h)
  · exact fl117 fs (Option.some.inj h)
  · exact fl117 fs (Option.some.inj h)
  · exact fl130 fs (Option.some.inj h)
  · exact fl130 fs (Option.some.inj h)
  · exact fl215 fs (Option.some.inj h)
  · exact fl215 fs (Option.some.inj h)
  · exact fl224 fs (Option.some.inj h)
  · exact fl224 fs (Option.some.inj h)
  · exact fl229 fs (Option.some.inj h)
  · exact fl229 fs (Option.some.inj h)
  · exact fl232 fs (Option.some.inj h)
  · exact fl232 fs (Option.some.inj h)
  · exact fl235 fs (Option.some.inj h)
  · exact fl235 fs (Option.some.inj h)
  · exact fl243 fs (Option.some.inj h)
  · exact fl243 fs (Option.some.inj h)
  · cases h
theorem zsl_ok : ∀ t z s b T l, tabInfo t = some (z, s, b) → .sl T l ∈ z → ∃ i, tabInfo T = some i := by
  intro t z s b T l h hm
  unfold tabInfo at h
  split at h
  · cases h; simp at hm
  · cases h; simp at hm
  · cases h; simp at hm
  · cases h; simp at hm
  · cases h; simp at hm
  · cases h; simp at hm
  · cases h; simp at hm
  · cases h; simp at hm
  · cases h; simp at hm
  · cases h; simp at hm
  · cases h; simp at hm
  · cases h; simp at hm
  · cases h; simp at hm
  · cases h; simp at hm
  · cases h; simp at hm
  · cases h; simp at hm
  · cases h; simp at hm
  · cases h; simp at hm
  · cases h; simp at hm
  · cases h; simp only [List.mem_cons, List.not_mem_nil, or_false, reduceCtorEq, false_or, AV.sl.injEq] at hm
    obtain ⟨rfl, _⟩ := hm <;> exact ⟨_, rfl⟩
  · cases h; simp only [List.mem_cons, List.not_mem_nil, or_false, reduceCtorEq, false_or, AV.sl.injEq] at hm
    obtain ⟨rfl, _⟩ := hm <;> exact ⟨_, rfl⟩
  · cases h; simp only [List.mem_cons, List.not_mem_nil, or_false, reduceCtorEq, false_or, AV.sl.injEq] at hm
    obtain ⟨rfl, _⟩ := hm <;> exact ⟨_, rfl⟩
  · cases h; simp only [List.mem_cons, List.not_mem_nil, or_false, reduceCtorEq, false_or, AV.sl.injEq] at hm
    obtain ⟨rfl, _⟩ := hm <;> exact ⟨_, rfl⟩
  · cases h; simp only [List.mem_cons, List.not_mem_nil, or_false, reduceCtorEq, false_or, AV.sl.injEq] at hm
    obtain ⟨rfl, _⟩ := hm <;> exact ⟨_, rfl⟩
  · cases h; simp at hm
  · cases h; simp only [List.mem_cons, List.not_mem_nil, or_false, reduceCtorEq, false_or, AV.sl.injEq] at hm
    obtain ⟨rfl, _⟩ := hm <;> exact ⟨_, rfl⟩
  · cases h; simp only [List.mem_cons, List.not_mem_nil, or_false, reduceCtorEq, false_or, AV.sl.injEq] at hm
    obtain ⟨rfl, _⟩ := hm <;> exact ⟨_, rfl⟩
  · cases h; simp only [List.mem_cons, List.not_mem_nil, or_false, reduceCtorEq, false_or, AV.sl.injEq] at hm
    obtain ⟨rfl, _⟩ := hm <;> exact ⟨_, rfl⟩
  · cases h; simp only [List.mem_cons, List.not_mem_nil, or_false, reduceCtorEq, false_or, AV.sl.injEq] at hm
    rcases hm with ⟨rfl, _⟩ | ⟨rfl, _⟩ | ⟨rfl, _⟩ <;> exact ⟨_, rfl⟩
  · cases h; simp only [List.mem_cons, List.not_mem_nil, or_false, reduceCtorEq, false_or, AV.sl.injEq] at hm
    rcases hm with ⟨rfl, _⟩ | ⟨rfl, _⟩ | ⟨rfl, _⟩ <;> exact ⟨_, rfl⟩
  · cases h; simp at hm
  · cases h; simp at hm
  · cases h; simp at hm
  · cases h; simp only [List.mem_cons, List.not_mem_nil, or_false, reduceCtorEq, false_or, AV.sl.injEq] at hm
    obtain ⟨rfl, _⟩ := hm <;> exact ⟨_, rfl⟩
  · cases h; simp only [List.mem_cons, List.not_mem_nil, or_false, reduceCtorEq, false_or, AV.sl.injEq] at hm
    obtain ⟨rfl, _⟩ := hm <;> exact ⟨_, rfl⟩
  · cases h; simp at hm
  · cases h; simp only [List.mem_cons, List.not_mem_nil, or_false, reduceCtorEq, false_or, AV.sl.injEq] at hm
    obtain ⟨rfl, _⟩ := hm <;> exact ⟨_, rfl⟩
  · cases h; simp only [List.mem_cons, List.not_mem_nil, or_false, reduceCtorEq, false_or, AV.sl.injEq] at hm
    obtain ⟨rfl, _⟩ := hm <;> exact ⟨_, rfl⟩
  · cases h; simp at hm
  · cases h; simp only [List.mem_cons, List.not_mem_nil, or_false, reduceCtorEq, false_or, AV.sl.injEq] at hm
    obtain ⟨rfl, _⟩ := hm <;> exact ⟨_, rfl⟩
  · cases h; simp at hm
  · cases h; simp only [List.mem_cons, List.not_mem_nil, or_false, reduceCtorEq, false_or, AV.sl.injEq] at hm
    obtain ⟨rfl, _⟩ := hm <;> exact ⟨_, rfl⟩
  · cases h; simp only [List.mem_cons, List.not_mem_nil, or_false, reduceCtorEq, false_or, AV.sl.injEq] at hm
    obtain ⟨rfl, _⟩ := hm <;> exact ⟨_, rfl⟩
  · cases h; simp at hm
  · cases h; simp at hm
  · cases h; simp at hm
  · cases h; simp at hm
  · cases h; simp only [List.mem_cons, List.not_mem_nil, or_false, reduceCtorEq, false_or, AV.sl.injEq] at hm
    obtain ⟨rfl, _⟩ := hm <;> exact ⟨_, rfl⟩
  · cases h; simp only [List.mem_cons, List.not_mem_nil, or_false, reduceCtorEq, false_or, AV.sl.injEq] at hm
    obtain ⟨rfl, _⟩ := hm <;> exact ⟨_, rfl⟩
  · cases h; simp only [List.mem_cons, List.not_mem_nil, or_false, reduceCtorEq, false_or, AV.sl.injEq] at hm
    rcases hm with ⟨rfl, _⟩ | ⟨rfl, _⟩ <;> exact ⟨_, rfl⟩
  · cases h; simp only [List.mem_cons, List.not_mem_nil, or_false, reduceCtorEq, false_or, AV.sl.injEq] at hm
    rcases hm with ⟨rfl, _⟩ | ⟨rfl, _⟩ <;> exact ⟨_, rfl⟩
  · cases h; simp at hm
  · cases h; simp at hm
  · cases h; simp at hm
  · cases h; simp at hm
  · cases h; simp only [List.mem_cons, List.not_mem_nil, or_false, reduceCtorEq, false_or, AV.sl.injEq] at hm
    obtain ⟨rfl, _⟩ := hm <;> exact ⟨_, rfl⟩
  · cases h; simp at hm
  · cases h; simp only [List.mem_cons, List.not_mem_nil, or_false, reduceCtorEq, false_or, AV.sl.injEq] at hm
    obtain ⟨rfl, _⟩ := hm <;> exact ⟨_, rfl⟩
  · cases h; simp only [List.mem_cons, List.not_mem_nil, or_false, reduceCtorEq, false_or, AV.sl.injEq] at hm
    obtain ⟨rfl, _⟩ := hm <;> exact ⟨_, rfl⟩
  · cases h; simp only [List.mem_cons, List.not_mem_nil, or_false, reduceCtorEq, false_or, AV.sl.injEq] at hm
    obtain ⟨rfl, _⟩ := hm <;> exact ⟨_, rfl⟩
  · cases h; simp at hm
  · cases h; simp only [List.mem_cons, List.not_mem_nil, or_false, reduceCtorEq, false_or, AV.sl.injEq] at hm
    obtain ⟨rfl, _⟩ := hm <;> exact ⟨_, rfl⟩
  · cases h; simp at hm
  · cases h; simp at hm
  · cases h; simp at hm
  · cases h; simp at hm
  · cases h; simp at hm
  · cases h; simp at hm
  · cases h; simp at hm
  · cases h; simp at hm
  · cases h; simp at hm
  · cases h; simp at hm
  · cases h; simp at hm
  · cases h; simp at hm
  · cases h; simp at hm
  · cases h; simp at hm
  · cases h; simp at hm
  · cases h; simp at hm
  · cases h; simp at hm
  · cases h; simp at hm
  · cases h; simp at hm
  · cases h; simp at hm
  · cases h; simp at hm
  · cases h; simp at hm
  · cases h; simp at hm
  · cases h; simp at hm
  · cases h; simp at hm
  · cases h; simp at hm
  · cases h; simp at hm
  · cases h; simp at hm
  · cases h; simp at hm
  · cases h; simp at hm
  · cases h
theorem eqt75 : eqTypeOk Tryz.prog 75 [.sc (.int .i64 0), .sc (.int .i64 0), .sc (.int .i64 0), .sc (.int .i64 0)] = true := by kernel_rfl
theorem eq_ok : ∀ t z s b, tabInfo t = some (z, s, b) → (match (match tabTy t with | some d => some (isAggD d) | none => none) with | some true => true | _ => false) = true → tabCmp t = true → z.all isPlain = true → eqTypeOk Tryz.prog t z = true := by
  intro t z s b h ha hm hp
  unfold tabInfo at h
  split at h
  · cases h; exact nomatch ha
  · cases h; exact nomatch ha
  · cases h; exact nomatch ha
  · cases h; exact nomatch ha
  · cases h; exact nomatch ha
  · cases h; exact nomatch hm
  · cases h; exact nomatch hm
  · cases h; exact nomatch ha
  · cases h; exact nomatch ha
  · cases h; exact nomatch ha
  · cases h; exact nomatch ha
  · cases h; exact nomatch hm
  · cases h; exact nomatch hm
  · cases h; exact nomatch ha
  · cases h; exact nomatch ha
  · cases h; exact nomatch ha
  · cases h; exact nomatch hm
  · cases h; exact nomatch hm
  · cases h; exact nomatch ha
  · cases h; exact nomatch ha
  · cases h; exact nomatch hm
  · cases h; exact nomatch hm
  · cases h; exact nomatch ha
  · cases h; exact nomatch ha
  · cases h; exact nomatch ha
  · cases h; exact nomatch ha
  · cases h; exact nomatch ha
  · cases h; exact nomatch ha
  · cases h; exact nomatch hm
  · cases h; exact nomatch hm
  · cases h; exact nomatch ha
  · cases h; exact nomatch hm
  · cases h; exact eqt75
  · cases h; exact nomatch ha
  · cases h; exact nomatch ha
  · cases h; exact nomatch ha
  · cases h; exact nomatch ha
  · cases h; exact nomatch ha
  · cases h; exact nomatch hm
  · cases h; exact nomatch ha
  · cases h; exact nomatch hm
  · cases h; exact nomatch hm
  · cases h; exact nomatch hm
  · cases h; exact nomatch hm
  · cases h; exact nomatch hm
  · cases h; exact nomatch hm
  · cases h; exact nomatch hm
  · cases h; exact nomatch ha
  · cases h; exact nomatch ha
  · cases h; exact nomatch hm
  · cases h; exact nomatch hm
  · cases h; exact nomatch hm
  · cases h; exact nomatch hm
  · cases h; exact nomatch hm
  · cases h; exact nomatch hm
  · cases h; exact nomatch ha
  · cases h; exact nomatch ha
  · cases h; exact nomatch ha
  · cases h; exact nomatch hm
  · cases h; exact nomatch hm
  · cases h; exact nomatch ha
  · cases h; exact nomatch ha
  · cases h; exact nomatch ha
  · cases h; exact nomatch ha
  · cases h; exact nomatch ha
  · cases h; exact nomatch ha
  · cases h; exact nomatch ha
  · cases h; exact nomatch hm
  · cases h; exact nomatch ha
  · cases h; exact nomatch ha
  · cases h; exact nomatch ha
  · cases h; exact nomatch ha
  · cases h; exact nomatch hm
  · cases h; exact nomatch hm
  · cases h; exact nomatch hm
  · cases h; exact nomatch ha
  · cases h; exact nomatch ha
  · cases h; exact nomatch hm
  · cases h; exact nomatch hm
  · cases h; exact nomatch hm
  · cases h; exact nomatch hm
  · cases h; exact nomatch hm
  · cases h; exact nomatch hm
  · cases h; exact nomatch hm
  · cases h; exact nomatch hm
  · cases h; exact nomatch hm
  · cases h; exact nomatch ha
  · cases h; exact nomatch ha
  · cases h; exact nomatch ha
  · cases h; exact nomatch ha
  · cases h; exact nomatch hm
  · cases h; exact nomatch hm
  · cases h
theorem tab_ok : Tab.Ok tab Tryz.prog := ⟨fun f fn h _ => fn_ok f fn h, ty_ok, info_ok, elem_ok, fld_ok, zsl_ok⟩
theorem tab_eq : EqOk tab Tryz.prog := EqOk.of eq_ok
end Go.Proofs.YtahifpeggdcamaaGreatDoor
