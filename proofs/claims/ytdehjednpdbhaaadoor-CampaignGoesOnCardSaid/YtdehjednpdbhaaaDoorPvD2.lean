/- A part of an interpreter of the model's code that is proved sound, and of laws told by it: DamFacts. -/
import Derived.Test.YtdehjednpdbhaaaDoorPvD1
import Derived.Test.YtdehjednpdbhaaaDoorPvC6
import Derived.Test.YtdehjednpdbhaaaDoorPvB1
import Derived.Test.YtdehjednpdbhaaaDoorChecked
import Derived.Eval
import Derived.KernelRfl
set_option linter.unusedVariables false
set_option linter.unusedSimpArgs false
/- The table of this seat tells the seat's program: written by wip/mkfacts.py. -/
namespace Go.Proofs.YtdehjednpdbhaaaDoor
open Go.Dam
set_option linter.unusedVariables false
theorem fb3 : Tryd.f3.body.isSome = true ∧ (Tryd.f3.name == "runtime.NumGoroutine") = false := ⟨by kernel_rfl, by kernel_rfl⟩
theorem fb4 : Tryd.f4.body.isSome = true ∧ (Tryd.f4.name == "runtime.NumGoroutine") = false := ⟨by kernel_rfl, by kernel_rfl⟩
theorem fb5 : Tryd.f5.body.isSome = true ∧ (Tryd.f5.name == "runtime.NumGoroutine") = false := ⟨by kernel_rfl, by kernel_rfl⟩
theorem fb6 : Tryd.f6.body.isSome = true ∧ (Tryd.f6.name == "runtime.NumGoroutine") = false := ⟨by kernel_rfl, by kernel_rfl⟩
theorem fb9 : Tryd.f9.body.isSome = true ∧ (Tryd.f9.name == "runtime.NumGoroutine") = false := ⟨by kernel_rfl, by kernel_rfl⟩
theorem fb10 : Tryd.f10.body.isSome = true ∧ (Tryd.f10.name == "runtime.NumGoroutine") = false := ⟨by kernel_rfl, by kernel_rfl⟩
theorem fb11 : Tryd.f11.body.isSome = true ∧ (Tryd.f11.name == "runtime.NumGoroutine") = false := ⟨by kernel_rfl, by kernel_rfl⟩
theorem fb12 : Tryd.f12.body.isSome = true ∧ (Tryd.f12.name == "runtime.NumGoroutine") = false := ⟨by kernel_rfl, by kernel_rfl⟩
theorem fb14 : Tryd.f14.body.isSome = true ∧ (Tryd.f14.name == "runtime.NumGoroutine") = false := ⟨by kernel_rfl, by kernel_rfl⟩
theorem fb15 : Tryd.f15.body.isSome = true ∧ (Tryd.f15.name == "runtime.NumGoroutine") = false := ⟨by kernel_rfl, by kernel_rfl⟩
theorem fb16 : Tryd.f16.body.isSome = true ∧ (Tryd.f16.name == "runtime.NumGoroutine") = false := ⟨by kernel_rfl, by kernel_rfl⟩
theorem fb18 : Tryd.f18.body.isSome = true ∧ (Tryd.f18.name == "runtime.NumGoroutine") = false := ⟨by kernel_rfl, by kernel_rfl⟩
theorem fb20 : Tryd.f20.body.isSome = true ∧ (Tryd.f20.name == "runtime.NumGoroutine") = false := ⟨by kernel_rfl, by kernel_rfl⟩
theorem fb23 : Tryd.f23.body.isSome = true ∧ (Tryd.f23.name == "runtime.NumGoroutine") = false := ⟨by kernel_rfl, by kernel_rfl⟩
theorem fb24 : Tryd.f24.body.isSome = true ∧ (Tryd.f24.name == "runtime.NumGoroutine") = false := ⟨by kernel_rfl, by kernel_rfl⟩
theorem fb26 : Tryd.f26.body.isSome = true ∧ (Tryd.f26.name == "runtime.NumGoroutine") = false := ⟨by kernel_rfl, by kernel_rfl⟩
theorem fb27 : Tryd.f27.body.isSome = true ∧ (Tryd.f27.name == "runtime.NumGoroutine") = false := ⟨by kernel_rfl, by kernel_rfl⟩
theorem fb28 : Tryd.f28.body.isSome = true ∧ (Tryd.f28.name == "runtime.NumGoroutine") = false := ⟨by kernel_rfl, by kernel_rfl⟩
theorem fb30 : Tryd.f30.body.isSome = true ∧ (Tryd.f30.name == "runtime.NumGoroutine") = false := ⟨by kernel_rfl, by kernel_rfl⟩
theorem fb31 : Tryd.f31.body.isSome = true ∧ (Tryd.f31.name == "runtime.NumGoroutine") = false := ⟨by kernel_rfl, by kernel_rfl⟩
theorem fb32 : Tryd.f32.body.isSome = true ∧ (Tryd.f32.name == "runtime.NumGoroutine") = false := ⟨by kernel_rfl, by kernel_rfl⟩
theorem fb33 : Tryd.f33.body.isSome = true ∧ (Tryd.f33.name == "runtime.NumGoroutine") = false := ⟨by kernel_rfl, by kernel_rfl⟩
theorem fb35 : Tryd.f35.body.isSome = true ∧ (Tryd.f35.name == "runtime.NumGoroutine") = false := ⟨by kernel_rfl, by kernel_rfl⟩
theorem fb36 : Tryd.f36.body.isSome = true ∧ (Tryd.f36.name == "runtime.NumGoroutine") = false := ⟨by kernel_rfl, by kernel_rfl⟩
theorem fb38 : Tryd.f38.body.isSome = true ∧ (Tryd.f38.name == "runtime.NumGoroutine") = false := ⟨by kernel_rfl, by kernel_rfl⟩
theorem fb39 : Tryd.f39.body.isSome = true ∧ (Tryd.f39.name == "runtime.NumGoroutine") = false := ⟨by kernel_rfl, by kernel_rfl⟩
theorem fb40 : Tryd.f40.body.isSome = true ∧ (Tryd.f40.name == "runtime.NumGoroutine") = false := ⟨by kernel_rfl, by kernel_rfl⟩
theorem fb41 : Tryd.f41.body.isSome = true ∧ (Tryd.f41.name == "runtime.NumGoroutine") = false := ⟨by kernel_rfl, by kernel_rfl⟩
theorem fb42 : Tryd.f42.body.isSome = true ∧ (Tryd.f42.name == "runtime.NumGoroutine") = false := ⟨by kernel_rfl, by kernel_rfl⟩
theorem fn_ok : ∀ f fn, tabFn f = some fn → Tryd.prog.funcs[f]? = some fn ∧ fn.body.isSome = true ∧ (fn.name == "runtime.NumGoroutine") = false := by
  intro f fn h
  unfold tabFn at h
  split at h
  · cases h; exact ⟨Tryd.func3, fb3⟩
  · cases h; exact ⟨Tryd.func4, fb4⟩
  · cases h; exact ⟨Tryd.func5, fb5⟩
  · cases h; exact ⟨Tryd.func6, fb6⟩
  · cases h; exact ⟨Tryd.func9, fb9⟩
  · cases h; exact ⟨Tryd.func10, fb10⟩
  · cases h; exact ⟨Tryd.func11, fb11⟩
  · cases h; exact ⟨Tryd.func12, fb12⟩
  · cases h; exact ⟨Tryd.func14, fb14⟩
  · cases h; exact ⟨Tryd.func15, fb15⟩
  · cases h; exact ⟨Tryd.func16, fb16⟩
  · cases h; exact ⟨Tryd.func18, fb18⟩
  · cases h; exact ⟨Tryd.func20, fb20⟩
  · cases h; exact ⟨Tryd.func23, fb23⟩
  · cases h; exact ⟨Tryd.func24, fb24⟩
  · cases h; exact ⟨Tryd.func26, fb26⟩
  · cases h; exact ⟨Tryd.func27, fb27⟩
  · cases h; exact ⟨Tryd.func28, fb28⟩
  · cases h; exact ⟨Tryd.func30, fb30⟩
  · cases h; exact ⟨Tryd.func31, fb31⟩
  · cases h; exact ⟨Tryd.func32, fb32⟩
  · cases h; exact ⟨Tryd.func33, fb33⟩
  · cases h; exact ⟨Tryd.func35, fb35⟩
  · cases h; exact ⟨Tryd.func36, fb36⟩
  · cases h; exact ⟨Tryd.func38, fb38⟩
  · cases h; exact ⟨Tryd.func39, fb39⟩
  · cases h; exact ⟨Tryd.func40, fb40⟩
  · cases h; exact ⟨Tryd.func41, fb41⟩
  · cases h; exact ⟨Tryd.func42, fb42⟩
  · cases h
theorem res_ok : ∀ f fn, tabFn f = some fn → tabRes f = fn.resultTypes.toList := by
  intro f fn h
  unfold tabFn at h
  split at h
  · cases h; kernel_rfl
  · cases h; kernel_rfl
  · cases h; kernel_rfl
  · cases h; kernel_rfl
  · cases h; kernel_rfl
  · cases h; kernel_rfl
  · cases h; kernel_rfl
  · cases h; kernel_rfl
  · cases h; kernel_rfl
  · cases h; kernel_rfl
  · cases h; kernel_rfl
  · cases h; kernel_rfl
  · cases h; kernel_rfl
  · cases h; kernel_rfl
  · cases h; kernel_rfl
  · cases h; kernel_rfl
  · cases h; kernel_rfl
  · cases h; kernel_rfl
  · cases h; kernel_rfl
  · cases h; kernel_rfl
  · cases h; kernel_rfl
  · cases h; kernel_rfl
  · cases h; kernel_rfl
  · cases h; kernel_rfl
  · cases h; kernel_rfl
  · cases h; kernel_rfl
  · cases h; kernel_rfl
  · cases h; kernel_rfl
  · cases h; kernel_rfl
  · cases h
theorem pl3 : plansOk (tabPlan 3) (bodyOf Tryd.f3) = true := by kernel_rfl
theorem pl4 : plansOk (tabPlan 4) (bodyOf Tryd.f4) = true := by kernel_rfl
theorem pl5 : plansOk (tabPlan 5) (bodyOf Tryd.f5) = true := by kernel_rfl
theorem pl6 : plansOk (tabPlan 6) (bodyOf Tryd.f6) = true := by kernel_rfl
theorem pl9 : plansOk (tabPlan 9) (bodyOf Tryd.f9) = true := by kernel_rfl
theorem pl10 : plansOk (tabPlan 10) (bodyOf Tryd.f10) = true := by kernel_rfl
theorem pl11 : plansOk (tabPlan 11) (bodyOf Tryd.f11) = true := by kernel_rfl
theorem pl12 : plansOk (tabPlan 12) (bodyOf Tryd.f12) = true := by kernel_rfl
theorem pl14 : plansOk (tabPlan 14) (bodyOf Tryd.f14) = true := by kernel_rfl
theorem pl15 : plansOk (tabPlan 15) (bodyOf Tryd.f15) = true := by kernel_rfl
theorem pl16 : plansOk (tabPlan 16) (bodyOf Tryd.f16) = true := by kernel_rfl
theorem pl18 : plansOk (tabPlan 18) (bodyOf Tryd.f18) = true := by kernel_rfl
theorem pl20 : plansOk (tabPlan 20) (bodyOf Tryd.f20) = true := by kernel_rfl
theorem pl23 : plansOk (tabPlan 23) (bodyOf Tryd.f23) = true := by kernel_rfl
theorem pl24 : plansOk (tabPlan 24) (bodyOf Tryd.f24) = true := by kernel_rfl
theorem pl26 : plansOk (tabPlan 26) (bodyOf Tryd.f26) = true := by kernel_rfl
theorem pl27 : plansOk (tabPlan 27) (bodyOf Tryd.f27) = true := by kernel_rfl
theorem pl28 : plansOk (tabPlan 28) (bodyOf Tryd.f28) = true := by kernel_rfl
theorem pl30 : plansOk (tabPlan 30) (bodyOf Tryd.f30) = true := by kernel_rfl
theorem pl31 : plansOk (tabPlan 31) (bodyOf Tryd.f31) = true := by kernel_rfl
theorem pl32 : plansOk (tabPlan 32) (bodyOf Tryd.f32) = true := by kernel_rfl
theorem pl33 : plansOk (tabPlan 33) (bodyOf Tryd.f33) = true := by kernel_rfl
theorem pl35 : plansOk (tabPlan 35) (bodyOf Tryd.f35) = true := by kernel_rfl
theorem pl36 : plansOk (tabPlan 36) (bodyOf Tryd.f36) = true := by kernel_rfl
theorem pl38 : plansOk (tabPlan 38) (bodyOf Tryd.f38) = true := by kernel_rfl
theorem pl39 : plansOk (tabPlan 39) (bodyOf Tryd.f39) = true := by kernel_rfl
theorem pl40 : plansOk (tabPlan 40) (bodyOf Tryd.f40) = true := by kernel_rfl
theorem pl41 : plansOk (tabPlan 41) (bodyOf Tryd.f41) = true := by kernel_rfl
theorem pl42 : plansOk (tabPlan 42) (bodyOf Tryd.f42) = true := by kernel_rfl
theorem plans_ok : ∀ f fn, tabFn f = some fn → plansOk (tabPlan f) (bodyOf fn) = true := by
  intro f fn h
  unfold tabFn at h
  split at h
  · cases h; exact pl3
  · cases h; exact pl4
  · cases h; exact pl5
  · cases h; exact pl6
  · cases h; exact pl9
  · cases h; exact pl10
  · cases h; exact pl11
  · cases h; exact pl12
  · cases h; exact pl14
  · cases h; exact pl15
  · cases h; exact pl16
  · cases h; exact pl18
  · cases h; exact pl20
  · cases h; exact pl23
  · cases h; exact pl24
  · cases h; exact pl26
  · cases h; exact pl27
  · cases h; exact pl28
  · cases h; exact pl30
  · cases h; exact pl31
  · cases h; exact pl32
  · cases h; exact pl33
  · cases h; exact pl35
  · cases h; exact pl36
  · cases h; exact pl38
  · cases h; exact pl39
  · cases h; exact pl40
  · cases h; exact pl41
  · cases h; exact pl42
  · cases h
theorem ty_ok : ∀ t d, tabTy t = some d → Tryd.prog.underlying t = some d := by
  intro t d h
  unfold tabTy at h
  split at h
  · cases h; kernel_rfl
  · cases h; kernel_rfl
  · cases h; kernel_rfl
  · cases h; kernel_rfl
  · cases h; kernel_rfl
  · cases h; kernel_rfl
  · cases h; kernel_rfl
  · cases h; kernel_rfl
  · cases h; kernel_rfl
  · cases h; kernel_rfl
  · cases h; kernel_rfl
  · cases h; kernel_rfl
  · cases h; kernel_rfl
  · cases h; kernel_rfl
  · cases h; kernel_rfl
  · cases h; kernel_rfl
  · cases h; kernel_rfl
  · cases h; kernel_rfl
  · cases h; kernel_rfl
  · cases h; kernel_rfl
  · cases h; kernel_rfl
  · cases h; kernel_rfl
  · cases h; kernel_rfl
  · cases h; kernel_rfl
  · cases h; kernel_rfl
  · cases h; kernel_rfl
  · cases h; kernel_rfl
  · cases h; kernel_rfl
  · cases h; kernel_rfl
  · cases h; kernel_rfl
  · cases h; kernel_rfl
  · cases h; kernel_rfl
  · cases h; kernel_rfl
  · cases h; kernel_rfl
  · cases h; kernel_rfl
  · cases h; kernel_rfl
  · cases h; kernel_rfl
  · cases h; kernel_rfl
  · cases h; kernel_rfl
  · cases h; kernel_rfl
  · cases h; kernel_rfl
  · cases h; kernel_rfl
  · cases h; kernel_rfl
  · cases h; kernel_rfl
  · cases h; kernel_rfl
  · cases h; kernel_rfl
  · cases h; kernel_rfl
  · cases h; kernel_rfl
  · cases h; kernel_rfl
  · cases h; kernel_rfl
  · cases h; kernel_rfl
  · cases h; kernel_rfl
  · cases h; kernel_rfl
  · cases h; kernel_rfl
  · cases h; kernel_rfl
  · cases h; kernel_rfl
  · cases h; kernel_rfl
  · cases h; kernel_rfl
  · cases h; kernel_rfl
  · cases h; kernel_rfl
  · cases h; kernel_rfl
  · cases h; kernel_rfl
  · cases h; kernel_rfl
  · cases h; kernel_rfl
  · cases h
def InfoP (t : Nat) (z : List AV) (s b : Nat) : Prop := ∃ i zv, Tryd.prog.info? t = some i ∧ i.size = s ∧ i.bytes = b ∧ i.zero = some zv ∧ z.length = s ∧ zv.cells = (z.map zval).toArray ∧ (∀ a ∈ z, zcell a = true) ∧
    (∃ d, tabTy t = some d ∧ (isAggD d = false → s = 1)) ∧ ((match (match tabTy t with | some d => some (isAggD d) | none => none) with | some true => true | _ => false) = false → zv.cells = #[zv])
theorem inf2 : InfoP 2 [.sc (.int .i64 0)] 1 8 := ⟨Tryd.t2, (.int .i64 0), by kernel_rfl, rfl, rfl, by kernel_rfl, rfl, rfl, List.all_eq_true.1 (by rfl), ⟨_, rfl, fun _ => rfl⟩, fun _ => rfl⟩
theorem inf3 : InfoP 3 [.sc (.int .i64 0)] 1 8 := ⟨Tryd.t3, (.int .i64 0), by kernel_rfl, rfl, rfl, by kernel_rfl, rfl, rfl, List.all_eq_true.1 (by rfl), ⟨_, rfl, fun _ => rfl⟩, fun _ => rfl⟩
theorem inf4 : InfoP 4 [.sc (.bool false)] 1 1 := ⟨Tryd.t4, (.bool false), by kernel_rfl, rfl, rfl, by kernel_rfl, rfl, rfl, List.all_eq_true.1 (by rfl), ⟨_, rfl, fun _ => rfl⟩, fun _ => rfl⟩
theorem inf5 : InfoP 5 [.sc (.int .u8 0)] 1 1 := ⟨Tryd.t5, (.int .u8 0), by kernel_rfl, rfl, rfl, by kernel_rfl, rfl, rfl, List.all_eq_true.1 (by rfl), ⟨_, rfl, fun _ => rfl⟩, fun _ => rfl⟩
theorem inf6 : InfoP 6 [.sc (.int .u8 0)] 1 1 := ⟨Tryd.t6, (.int .u8 0), by kernel_rfl, rfl, rfl, by kernel_rfl, rfl, rfl, List.all_eq_true.1 (by rfl), ⟨_, rfl, fun _ => rfl⟩, fun _ => rfl⟩
theorem inf7 : InfoP 7 [.sc (.int .i64 0), .sc (.int .i64 0), .sc (.bool false), .sc (.int .u8 0)] 4 24 := ⟨Tryd.t7, (.agg #[.int .i64 0, .int .i64 0, .bool false, .int .u8 0]), by kernel_rfl, rfl, rfl, by kernel_rfl, rfl, rfl, List.all_eq_true.1 (by rfl), ⟨_, rfl, fun h => nomatch h⟩, fun h => nomatch h⟩
theorem inf8 : InfoP 8 [.sc (.int .i64 0), .sc (.int .i64 0), .sc (.bool false), .sc (.int .u8 0)] 4 24 := ⟨Tryd.t8, (.agg #[.int .i64 0, .int .i64 0, .bool false, .int .u8 0]), by kernel_rfl, rfl, rfl, by kernel_rfl, rfl, rfl, List.all_eq_true.1 (by rfl), ⟨_, rfl, fun h => nomatch h⟩, fun h => nomatch h⟩
theorem inf9 : InfoP 9 [.sc (.string ByteArray.empty)] 1 16 := ⟨Tryd.t9, (.string ByteArray.empty), by kernel_rfl, rfl, rfl, by kernel_rfl, rfl, rfl, List.all_eq_true.1 (by rfl), ⟨_, rfl, fun _ => rfl⟩, fun _ => rfl⟩
theorem inf10 : InfoP 10 [.sc (.string ByteArray.empty)] 1 16 := ⟨Tryd.t10, (.string ByteArray.empty), by kernel_rfl, rfl, rfl, by kernel_rfl, rfl, rfl, List.all_eq_true.1 (by rfl), ⟨_, rfl, fun _ => rfl⟩, fun _ => rfl⟩
theorem inf11 : InfoP 11 [.sc (.string ByteArray.empty)] 1 16 := ⟨Tryd.t11, (.string ByteArray.empty), by kernel_rfl, rfl, rfl, by kernel_rfl, rfl, rfl, List.all_eq_true.1 (by rfl), ⟨_, rfl, fun _ => rfl⟩, fun _ => rfl⟩
theorem inf12 : InfoP 12 [.sc (.int .u64 0)] 1 8 := ⟨Tryd.t12, (.int .u64 0), by kernel_rfl, rfl, rfl, by kernel_rfl, rfl, rfl, List.all_eq_true.1 (by rfl), ⟨_, rfl, fun _ => rfl⟩, fun _ => rfl⟩
theorem inf13 : InfoP 13 [.sc (.string ByteArray.empty), .sc (.int .u64 0)] 2 24 := ⟨Tryd.t13, (.agg #[.string ByteArray.empty, .int .u64 0]), by kernel_rfl, rfl, rfl, by kernel_rfl, rfl, rfl, List.all_eq_true.1 (by rfl), ⟨_, rfl, fun h => nomatch h⟩, fun h => nomatch h⟩
theorem inf14 : InfoP 14 [.sc (.string ByteArray.empty), .sc (.int .u64 0)] 2 24 := ⟨Tryd.t14, (.agg #[.string ByteArray.empty, .int .u64 0]), by kernel_rfl, rfl, rfl, by kernel_rfl, rfl, rfl, List.all_eq_true.1 (by rfl), ⟨_, rfl, fun h => nomatch h⟩, fun h => nomatch h⟩
theorem inf15 : InfoP 15 [.sc (.pointer none)] 1 8 := ⟨Tryd.t15, (.pointer none), by kernel_rfl, rfl, rfl, by kernel_rfl, rfl, rfl, List.all_eq_true.1 (by rfl), ⟨_, rfl, fun _ => rfl⟩, fun _ => rfl⟩
theorem inf16 : InfoP 16 [.sc (.pointer none)] 1 8 := ⟨Tryd.t16, (.pointer none), by kernel_rfl, rfl, rfl, by kernel_rfl, rfl, rfl, List.all_eq_true.1 (by rfl), ⟨_, rfl, fun _ => rfl⟩, fun _ => rfl⟩
theorem inf17 : InfoP 17 [.sc (.pointer none)] 1 8 := ⟨Tryd.t17, (.pointer none), by kernel_rfl, rfl, rfl, by kernel_rfl, rfl, rfl, List.all_eq_true.1 (by rfl), ⟨_, rfl, fun _ => rfl⟩, fun _ => rfl⟩
theorem inf18 : InfoP 18 [.sc (.pointer none)] 1 8 := ⟨Tryd.t18, (.agg #[.pointer none]), by kernel_rfl, rfl, rfl, by kernel_rfl, rfl, rfl, List.all_eq_true.1 (by rfl), ⟨_, rfl, fun h => nomatch h⟩, fun h => nomatch h⟩
theorem inf19 : InfoP 19 [.sc (.pointer none)] 1 8 := ⟨Tryd.t19, (.agg #[.pointer none]), by kernel_rfl, rfl, rfl, by kernel_rfl, rfl, rfl, List.all_eq_true.1 (by rfl), ⟨_, rfl, fun h => nomatch h⟩, fun h => nomatch h⟩
theorem inf21 : InfoP 21 [.sc (.int .i32 0)] 1 4 := ⟨Tryd.t21, (.int .i32 0), by kernel_rfl, rfl, rfl, by kernel_rfl, rfl, rfl, List.all_eq_true.1 (by rfl), ⟨_, rfl, fun _ => rfl⟩, fun _ => rfl⟩
theorem inf22 : InfoP 22 [.sl 27 []] 1 24 := ⟨Tryd.t22, (.slice none 0 0), by kernel_rfl, rfl, rfl, by kernel_rfl, rfl, rfl, List.all_eq_true.1 (by rfl), ⟨_, rfl, fun _ => rfl⟩, fun _ => rfl⟩
theorem inf24 : InfoP 24 [.sl 46 []] 1 24 := ⟨Tryd.t24, (.slice none 0 0), by kernel_rfl, rfl, rfl, by kernel_rfl, rfl, rfl, List.all_eq_true.1 (by rfl), ⟨_, rfl, fun _ => rfl⟩, fun _ => rfl⟩
theorem inf25 : InfoP 25 [.sl 5 []] 1 24 := ⟨Tryd.t25, (.slice none 0 0), by kernel_rfl, rfl, rfl, by kernel_rfl, rfl, rfl, List.all_eq_true.1 (by rfl), ⟨_, rfl, fun _ => rfl⟩, fun _ => rfl⟩
theorem inf26 : InfoP 26 [.sl 46 [], .sl 5 []] 2 48 := ⟨Tryd.t26, (.agg #[.slice none 0 0, .slice none 0 0]), by kernel_rfl, rfl, rfl, by kernel_rfl, rfl, rfl, List.all_eq_true.1 (by rfl), ⟨_, rfl, fun h => nomatch h⟩, fun h => nomatch h⟩
theorem inf27 : InfoP 27 [.sl 46 [], .sl 5 []] 2 48 := ⟨Tryd.t27, (.agg #[.slice none 0 0, .slice none 0 0]), by kernel_rfl, rfl, rfl, by kernel_rfl, rfl, rfl, List.all_eq_true.1 (by rfl), ⟨_, rfl, fun h => nomatch h⟩, fun h => nomatch h⟩
theorem inf29 : InfoP 29 [.sl 57 []] 1 24 := ⟨Tryd.t29, (.slice none 0 0), by kernel_rfl, rfl, rfl, by kernel_rfl, rfl, rfl, List.all_eq_true.1 (by rfl), ⟨_, rfl, fun _ => rfl⟩, fun _ => rfl⟩
theorem inf30 : InfoP 30 [.sc (.int .i64 0)] 1 8 := ⟨Tryd.t30, (.int .i64 0), by kernel_rfl, rfl, rfl, by kernel_rfl, rfl, rfl, List.all_eq_true.1 (by rfl), ⟨_, rfl, fun _ => rfl⟩, fun _ => rfl⟩
theorem inf33 : InfoP 33 [.sl 3 []] 1 24 := ⟨Tryd.t33, (.slice none 0 0), by kernel_rfl, rfl, rfl, by kernel_rfl, rfl, rfl, List.all_eq_true.1 (by rfl), ⟨_, rfl, fun _ => rfl⟩, fun _ => rfl⟩
theorem inf45 : InfoP 45 [.sc (.string ByteArray.empty), .sc (.int .i64 0), .sc (.int .i64 0), .sc (.int .i64 0)] 4 40 := ⟨Tryd.t45, (.agg #[.string ByteArray.empty, .int .i64 0, .int .i64 0, .int .i64 0]), by kernel_rfl, rfl, rfl, by kernel_rfl, rfl, rfl, List.all_eq_true.1 (by rfl), ⟨_, rfl, fun h => nomatch h⟩, fun h => nomatch h⟩
theorem inf46 : InfoP 46 [.sc (.string ByteArray.empty), .sc (.int .i64 0), .sc (.int .i64 0), .sc (.int .i64 0)] 4 40 := ⟨Tryd.t46, (.agg #[.string ByteArray.empty, .int .i64 0, .int .i64 0, .int .i64 0]), by kernel_rfl, rfl, rfl, by kernel_rfl, rfl, rfl, List.all_eq_true.1 (by rfl), ⟨_, rfl, fun h => nomatch h⟩, fun h => nomatch h⟩
theorem inf51 : InfoP 51 [.sl 9 []] 1 24 := ⟨Tryd.t51, (.slice none 0 0), by kernel_rfl, rfl, rfl, by kernel_rfl, rfl, rfl, List.all_eq_true.1 (by rfl), ⟨_, rfl, fun _ => rfl⟩, fun _ => rfl⟩
theorem inf56 : InfoP 56 [.sc (.int .i64 0), .sc (.string ByteArray.empty)] 2 24 := ⟨Tryd.t56, (.agg #[.int .i64 0, .string ByteArray.empty]), by kernel_rfl, rfl, rfl, by kernel_rfl, rfl, rfl, List.all_eq_true.1 (by rfl), ⟨_, rfl, fun h => nomatch h⟩, fun h => nomatch h⟩
theorem inf57 : InfoP 57 [.sc (.int .i64 0), .sc (.string ByteArray.empty)] 2 24 := ⟨Tryd.t57, (.agg #[.int .i64 0, .string ByteArray.empty]), by kernel_rfl, rfl, rfl, by kernel_rfl, rfl, rfl, List.all_eq_true.1 (by rfl), ⟨_, rfl, fun h => nomatch h⟩, fun h => nomatch h⟩
theorem inf61 : InfoP 61 [.sc (.pointer none)] 1 8 := ⟨Tryd.t61, (.pointer none), by kernel_rfl, rfl, rfl, by kernel_rfl, rfl, rfl, List.all_eq_true.1 (by rfl), ⟨_, rfl, fun _ => rfl⟩, fun _ => rfl⟩
theorem inf62 : InfoP 62 [.sc (.pointer none), .sl 5 []] 2 32 := ⟨Tryd.t62, (.agg #[.pointer none, .slice none 0 0]), by kernel_rfl, rfl, rfl, by kernel_rfl, rfl, rfl, List.all_eq_true.1 (by rfl), ⟨_, rfl, fun h => nomatch h⟩, fun h => nomatch h⟩
theorem inf63 : InfoP 63 [.sc (.pointer none), .sl 5 []] 2 32 := ⟨Tryd.t63, (.agg #[.pointer none, .slice none 0 0]), by kernel_rfl, rfl, rfl, by kernel_rfl, rfl, rfl, List.all_eq_true.1 (by rfl), ⟨_, rfl, fun h => nomatch h⟩, fun h => nomatch h⟩
theorem inf78 : InfoP 78 [.sc (.pointer none)] 1 8 := ⟨Tryd.t78, (.pointer none), by kernel_rfl, rfl, rfl, by kernel_rfl, rfl, rfl, List.all_eq_true.1 (by rfl), ⟨_, rfl, fun _ => rfl⟩, fun _ => rfl⟩
theorem inf83 : InfoP 83 [.sc (.int .u64 0)] 1 8 := ⟨Tryd.t83, (.int .u64 0), by kernel_rfl, rfl, rfl, by kernel_rfl, rfl, rfl, List.all_eq_true.1 (by rfl), ⟨_, rfl, fun _ => rfl⟩, fun _ => rfl⟩
theorem inf96 : InfoP 96 [.sc (.pointer none)] 1 8 := ⟨Tryd.t96, (.pointer none), by kernel_rfl, rfl, rfl, by kernel_rfl, rfl, rfl, List.all_eq_true.1 (by rfl), ⟨_, rfl, fun _ => rfl⟩, fun _ => rfl⟩
theorem inf102 : InfoP 102 [.sc (.int .u8 0), .sc (.int .u8 0)] 2 2 := ⟨Tryd.t102, (.agg #[.int .u8 0, .int .u8 0]), by kernel_rfl, rfl, rfl, by kernel_rfl, rfl, rfl, List.all_eq_true.1 (by rfl), ⟨_, rfl, fun h => nomatch h⟩, fun h => nomatch h⟩
theorem inf103 : InfoP 103 [.sc (.int .u8 0), .sc (.int .u8 0)] 2 2 := ⟨Tryd.t103, (.agg #[.int .u8 0, .int .u8 0]), by kernel_rfl, rfl, rfl, by kernel_rfl, rfl, rfl, List.all_eq_true.1 (by rfl), ⟨_, rfl, fun h => nomatch h⟩, fun h => nomatch h⟩
theorem inf109 : InfoP 109 [.sc (.pointer none), .sc (.pointer none), .sc (.pointer none), .sc (.string ByteArray.empty)] 4 40 := ⟨Tryd.t109, (.agg #[.pointer none, .pointer none, .pointer none, .string ByteArray.empty]), by kernel_rfl, rfl, rfl, by kernel_rfl, rfl, rfl, List.all_eq_true.1 (by rfl), ⟨_, rfl, fun h => nomatch h⟩, fun h => nomatch h⟩
theorem inf110 : InfoP 110 [.sc (.pointer none), .sc (.pointer none), .sc (.pointer none), .sc (.string ByteArray.empty)] 4 40 := ⟨Tryd.t110, (.agg #[.pointer none, .pointer none, .pointer none, .string ByteArray.empty]), by kernel_rfl, rfl, rfl, by kernel_rfl, rfl, rfl, List.all_eq_true.1 (by rfl), ⟨_, rfl, fun h => nomatch h⟩, fun h => nomatch h⟩
theorem inf111 : InfoP 111 [] 0 0 := ⟨Tryd.t111, (.agg #[]), by kernel_rfl, rfl, rfl, by kernel_rfl, rfl, rfl, List.all_eq_true.1 (by rfl), ⟨_, rfl, fun h => nomatch h⟩, fun h => nomatch h⟩
theorem inf112 : InfoP 112 [] 0 0 := ⟨Tryd.t112, (.agg #[]), by kernel_rfl, rfl, rfl, by kernel_rfl, rfl, rfl, List.all_eq_true.1 (by rfl), ⟨_, rfl, fun h => nomatch h⟩, fun h => nomatch h⟩
theorem inf113 : InfoP 113 [] 0 0 := ⟨Tryd.t113, (.agg #[]), by kernel_rfl, rfl, rfl, by kernel_rfl, rfl, rfl, List.all_eq_true.1 (by rfl), ⟨_, rfl, fun h => nomatch h⟩, fun h => nomatch h⟩
theorem inf115 : InfoP 115 [.sc (.int .u32 0)] 1 4 := ⟨Tryd.t115, (.int .u32 0), by kernel_rfl, rfl, rfl, by kernel_rfl, rfl, rfl, List.all_eq_true.1 (by rfl), ⟨_, rfl, fun _ => rfl⟩, fun _ => rfl⟩
theorem inf116 : InfoP 116 [.sc (.int .u8 0)] 1 1 := ⟨Tryd.t116, (.int .u8 0), by kernel_rfl, rfl, rfl, by kernel_rfl, rfl, rfl, List.all_eq_true.1 (by rfl), ⟨_, rfl, fun _ => rfl⟩, fun _ => rfl⟩
theorem inf117 : InfoP 117 [.sc (.int .u8 0)] 1 1 := ⟨Tryd.t117, (.int .u8 0), by kernel_rfl, rfl, rfl, by kernel_rfl, rfl, rfl, List.all_eq_true.1 (by rfl), ⟨_, rfl, fun _ => rfl⟩, fun _ => rfl⟩
theorem inf119 : InfoP 119 [.sc (.int .i32 0)] 1 4 := ⟨Tryd.t119, (.int .i32 0), by kernel_rfl, rfl, rfl, by kernel_rfl, rfl, rfl, List.all_eq_true.1 (by rfl), ⟨_, rfl, fun _ => rfl⟩, fun _ => rfl⟩
theorem inf120 : InfoP 120 [.sc (.int .i32 0)] 1 4 := ⟨Tryd.t120, (.int .i32 0), by kernel_rfl, rfl, rfl, by kernel_rfl, rfl, rfl, List.all_eq_true.1 (by rfl), ⟨_, rfl, fun _ => rfl⟩, fun _ => rfl⟩
theorem inf121 : InfoP 121 [.sc (.int .u64 0), .sc (.int .u64 0), .sc (.int .u32 0), .sc (.int .u8 0), .sc (.int .u8 0), .sc (.int .u8 0), .sc (.int .u8 0), .sc .nilFunc, .sc (.pointer none), .sc (.int .i32 0), .sc (.int .i32 0)] 11 48 := ⟨Tryd.t121, (.agg #[.int .u64 0, .int .u64 0, .int .u32 0, .int .u8 0, .int .u8 0, .int .u8 0, .int .u8 0, .nilFunc, .pointer none, .int .i32 0, .int .i32 0]), by kernel_rfl, rfl, rfl, by kernel_rfl, rfl, rfl, List.all_eq_true.1 (by rfl), ⟨_, rfl, fun h => nomatch h⟩, fun h => nomatch h⟩
theorem inf122 : InfoP 122 [.sc (.int .u64 0), .sc (.int .u64 0), .sc (.int .u32 0), .sc (.int .u8 0), .sc (.int .u8 0), .sc (.int .u8 0), .sc (.int .u8 0), .sc .nilFunc, .sc (.pointer none), .sc (.int .i32 0), .sc (.int .i32 0)] 11 48 := ⟨Tryd.t122, (.agg #[.int .u64 0, .int .u64 0, .int .u32 0, .int .u8 0, .int .u8 0, .int .u8 0, .int .u8 0, .nilFunc, .pointer none, .int .i32 0, .int .i32 0]), by kernel_rfl, rfl, rfl, by kernel_rfl, rfl, rfl, List.all_eq_true.1 (by rfl), ⟨_, rfl, fun h => nomatch h⟩, fun h => nomatch h⟩
theorem info_ok : ∀ t z s b, tabInfo t = some (z, s, b) → InfoP t z s b := by
  intro t z s b h
  unfold tabInfo at h
  split at h
  · cases h; exact inf2
  · cases h; exact inf3
  · cases h; exact inf4
  · cases h; exact inf5
  · cases h; exact inf6
  · cases h; exact inf7
  · cases h; exact inf8
  · cases h; exact inf9
  · cases h; exact inf10
  · cases h; exact inf11
  · cases h; exact inf12
  · cases h; exact inf13
  · cases h; exact inf14
  · cases h; exact inf15
  · cases h; exact inf16
  · cases h; exact inf17
  · cases h; exact inf18
  · cases h; exact inf19
  · cases h; exact inf21
  · cases h; exact inf22
  · cases h; exact inf24
  · cases h; exact inf25
  · cases h; exact inf26
  · cases h; exact inf27
  · cases h; exact inf29
  · cases h; exact inf30
  · cases h; exact inf33
  · cases h; exact inf45
  · cases h; exact inf46
  · cases h; exact inf51
  · cases h; exact inf56
  · cases h; exact inf57
  · cases h; exact inf61
  · cases h; exact inf62
  · cases h; exact inf63
  · cases h; exact inf78
  · cases h; exact inf83
  · cases h; exact inf96
  · cases h; exact inf102
  · cases h; exact inf103
  · cases h; exact inf109
  · cases h; exact inf110
  · cases h; exact inf111
  · cases h; exact inf112
  · cases h; exact inf113
  · cases h; exact inf115
  · cases h; exact inf116
  · cases h; exact inf117
  · cases h; exact inf119
  · cases h; exact inf120
  · cases h; exact inf121
  · cases h; exact inf122
  · cases h
theorem elem_ok : ∀ t e, tabTy t = some (.slice e) → ∃ i, tabInfo e = some i := by
  intro t e h
  unfold tabTy at h
  split at h
  · cases h
  · cases h
  · cases h
  · cases h
  · cases h
  · cases h
  · cases h
  · cases h
  · cases h
  · cases h
  · cases h
  · cases h
  · cases h
  · cases h
  · cases h; exact ⟨_, rfl⟩
  · cases h; exact ⟨_, rfl⟩
  · cases h; exact ⟨_, rfl⟩
  · cases h; exact ⟨_, rfl⟩
  · cases h
  · cases h
  · cases h; exact ⟨_, rfl⟩
  · cases h
  · cases h
  · cases h
  · cases h
  · cases h; exact ⟨_, rfl⟩
  · cases h
  · cases h
  · cases h
  · cases h
  · cases h
  · cases h
  · cases h
  · cases h
  · cases h
  · cases h
  · cases h
  · cases h
  · cases h
  · cases h
  · cases h
  · cases h
  · cases h
  · cases h
  · cases h
  · cases h
  · cases h
  · cases h
  · cases h
  · cases h
  · cases h
  · cases h
  · cases h
  · cases h
  · cases h
  · cases h
  · cases h
  · cases h
  · cases h
  · cases h
  · cases h
  · cases h
  · cases h
  · cases h
  · cases h
theorem fl7 : ∀ fs, TD7 = .struct fs → ∀ f ∈ fs.toList, ∃ i, Tryd.prog.info? f.type = some i := by
  intro fs h f hf
  unfold TD7 at h
  cases h
  simp only [List.mem_cons, List.not_mem_nil, or_false] at hf
  rcases hf with rfl | rfl | rfl | rfl
  · exact ⟨Tryd.t2, by kernel_rfl⟩
  · exact ⟨Tryd.t3, by kernel_rfl⟩
  · exact ⟨Tryd.t4, by kernel_rfl⟩
  · exact ⟨Tryd.t6, by kernel_rfl⟩
theorem fl13 : ∀ fs, TD13 = .struct fs → ∀ f ∈ fs.toList, ∃ i, Tryd.prog.info? f.type = some i := by
  intro fs h f hf
  unfold TD13 at h
  cases h
  simp only [List.mem_cons, List.not_mem_nil, or_false] at hf
  rcases hf with rfl | rfl
  · exact ⟨Tryd.t9, by kernel_rfl⟩
  · exact ⟨Tryd.t12, by kernel_rfl⟩
theorem fl18 : ∀ fs, TD18 = .struct fs → ∀ f ∈ fs.toList, ∃ i, Tryd.prog.info? f.type = some i := by
  intro fs h f hf
  unfold TD18 at h
  cases h
  simp only [List.mem_cons, List.not_mem_nil, or_false] at hf
  subst hf
  · exact ⟨Tryd.t17, by kernel_rfl⟩
theorem fl26 : ∀ fs, TD26 = .struct fs → ∀ f ∈ fs.toList, ∃ i, Tryd.prog.info? f.type = some i := by
  intro fs h f hf
  unfold TD26 at h
  cases h
  simp only [List.mem_cons, List.not_mem_nil, or_false] at hf
  rcases hf with rfl | rfl
  · exact ⟨Tryd.t24, by kernel_rfl⟩
  · exact ⟨Tryd.t25, by kernel_rfl⟩
theorem fl45 : ∀ fs, TD45 = .struct fs → ∀ f ∈ fs.toList, ∃ i, Tryd.prog.info? f.type = some i := by
  intro fs h f hf
  unfold TD45 at h
  cases h
  simp only [List.mem_cons, List.not_mem_nil, or_false] at hf
  rcases hf with rfl | rfl | rfl | rfl
  · exact ⟨Tryd.t9, by kernel_rfl⟩
  · exact ⟨Tryd.t3, by kernel_rfl⟩
  · exact ⟨Tryd.t3, by kernel_rfl⟩
  · exact ⟨Tryd.t3, by kernel_rfl⟩
theorem fl56 : ∀ fs, TD56 = .struct fs → ∀ f ∈ fs.toList, ∃ i, Tryd.prog.info? f.type = some i := by
  intro fs h f hf
  unfold TD56 at h
  cases h
  simp only [List.mem_cons, List.not_mem_nil, or_false] at hf
  rcases hf with rfl | rfl
  · exact ⟨Tryd.t3, by kernel_rfl⟩
  · exact ⟨Tryd.t9, by kernel_rfl⟩
theorem fl62 : ∀ fs, TD62 = .struct fs → ∀ f ∈ fs.toList, ∃ i, Tryd.prog.info? f.type = some i := by
  intro fs h f hf
  unfold TD62 at h
  cases h
  simp only [List.mem_cons, List.not_mem_nil, or_false] at hf
  rcases hf with rfl | rfl
  · exact ⟨Tryd.t61, by kernel_rfl⟩
  · exact ⟨Tryd.t25, by kernel_rfl⟩
theorem fl102 : ∀ fs, TD102 = .struct fs → ∀ f ∈ fs.toList, ∃ i, Tryd.prog.info? f.type = some i := by
  intro fs h f hf
  unfold TD102 at h
  cases h
  simp only [List.mem_cons, List.not_mem_nil, or_false] at hf
  rcases hf with rfl | rfl
  · exact ⟨Tryd.t5, by kernel_rfl⟩
  · exact ⟨Tryd.t5, by kernel_rfl⟩
theorem fl109 : ∀ fs, TD109 = .struct fs → ∀ f ∈ fs.toList, ∃ i, Tryd.prog.info? f.type = some i := by
  intro fs h f hf
  unfold TD109 at h
  cases h
  simp only [List.mem_cons, List.not_mem_nil, or_false] at hf
  rcases hf with rfl | rfl | rfl | rfl
  · exact ⟨Tryd.t17, by kernel_rfl⟩
  · exact ⟨Tryd.t17, by kernel_rfl⟩
  · exact ⟨Tryd.t17, by kernel_rfl⟩
  · exact ⟨Tryd.t9, by kernel_rfl⟩
theorem fl112 : ∀ fs, TD112 = .struct fs → ∀ f ∈ fs.toList, ∃ i, Tryd.prog.info? f.type = some i := by
  intro fs h f hf
  unfold TD112 at h
  cases h
  simp only [List.mem_cons, List.not_mem_nil, or_false] at hf
  subst hf
  · exact ⟨Tryd.t111, by kernel_rfl⟩
theorem fl121 : ∀ fs, TD121 = .struct fs → ∀ f ∈ fs.toList, ∃ i, Tryd.prog.info? f.type = some i := by
  intro fs h f hf
  unfold TD121 at h
  cases h
  simp only [List.mem_cons, List.not_mem_nil, or_false] at hf
  rcases hf with rfl | rfl | rfl | rfl | rfl | rfl | rfl | rfl | rfl | rfl | rfl
  · exact ⟨Tryd.t12, by kernel_rfl⟩
  · exact ⟨Tryd.t12, by kernel_rfl⟩
  · exact ⟨Tryd.t115, by kernel_rfl⟩
  · exact ⟨Tryd.t116, by kernel_rfl⟩
  · exact ⟨Tryd.t5, by kernel_rfl⟩
  · exact ⟨Tryd.t5, by kernel_rfl⟩
  · exact ⟨Tryd.t117, by kernel_rfl⟩
  · exact ⟨Tryd.t118, by kernel_rfl⟩
  · exact ⟨Tryd.t78, by kernel_rfl⟩
  · exact ⟨Tryd.t119, by kernel_rfl⟩
  · exact ⟨Tryd.t120, by kernel_rfl⟩
theorem fld_ok : ∀ T fs, tabTy T = some (.struct fs) → ∀ f ∈ fs.toList, ∃ i, Tryd.prog.info? f.type = some i := by
  intro t fs h
  unfold tabTy at h
  split at h
  · cases h
  · cases h
  · cases h
  · cases h
  · cases h
  · cases h
  · cases h
  · cases h
  · cases h
  · cases h
  · cases h
  · cases h
  · cases h
  · cases h
  · cases h
  · cases h
  · cases h
  · cases h
  · cases h
  · cases h
  · cases h
  · cases h
  · cases h
  · cases h
  · cases h
  · cases h
  · cases h
  · cases h
  · cases h
  · cases h
  · cases h
  · cases h
  · cases h
  · cases h
  · cases h
  · cases h
  · cases h
  · cases h
  · cases h
  · cases h
  · cases h
  · cases h
  · exact fl7 fs (Option.some.inj h)
  · exact fl7 fs (Option.some.inj h)
  · exact fl13 fs (Option.some.inj h)
  · exact fl13 fs (Option.some.inj h)
  · exact fl18 fs (Option.some.inj h)
  · exact fl18 fs (Option.some.inj h)
  · exact fl26 fs (Option.some.inj h)
  · exact fl26 fs (Option.some.inj h)
  · exact fl45 fs (Option.some.inj h)
  · exact fl45 fs (Option.some.inj h)
  · exact fl56 fs (Option.some.inj h)
  · exact fl56 fs (Option.some.inj h)
  · exact fl62 fs (Option.some.inj h)
  · exact fl62 fs (Option.some.inj h)
  · exact fl102 fs (Option.some.inj h)
  · exact fl102 fs (Option.some.inj h)
  · exact fl109 fs (Option.some.inj h)
  · exact fl109 fs (Option.some.inj h)
  · exact fl112 fs (Option.some.inj h)
  · exact fl112 fs (Option.some.inj h)
  · exact fl121 fs (Option.some.inj h)
  · exact fl121 fs (Option.some.inj h)
  · cases h
theorem zsl_ok : ∀ t z s b T l, tabInfo t = some (z, s, b) → .sl T l ∈ z → ∃ i, tabInfo T = some i := by
  intro t z s b T l h hm
  unfold tabInfo at h
  split at h
  · cases h; simp at hm
  · cases h; simp at hm
  · cases h; simp at hm
  · cases h; simp at hm
  · cases h; simp at hm
  · cases h; simp at hm
  · cases h; simp at hm
  · cases h; simp at hm
  · cases h; simp at hm
  · cases h; simp at hm
  · cases h; simp at hm
  · cases h; simp at hm
  · cases h; simp at hm
  · cases h; simp at hm
  · cases h; simp at hm
  · cases h; simp at hm
  · cases h; simp at hm
  · cases h; simp at hm
  · cases h; simp at hm
  · cases h; simp only [List.mem_cons, List.not_mem_nil, or_false, reduceCtorEq, false_or, AV.sl.injEq] at hm
    obtain ⟨rfl, _⟩ := hm <;> exact ⟨_, rfl⟩
  · cases h; simp only [List.mem_cons, List.not_mem_nil, or_false, reduceCtorEq, false_or, AV.sl.injEq] at hm
    obtain ⟨rfl, _⟩ := hm <;> exact ⟨_, rfl⟩
  · cases h; simp only [List.mem_cons, List.not_mem_nil, or_false, reduceCtorEq, false_or, AV.sl.injEq] at hm
    obtain ⟨rfl, _⟩ := hm <;> exact ⟨_, rfl⟩
  · cases h; simp only [List.mem_cons, List.not_mem_nil, or_false, reduceCtorEq, false_or, AV.sl.injEq] at hm
    rcases hm with ⟨rfl, _⟩ | ⟨rfl, _⟩ <;> exact ⟨_, rfl⟩
  · cases h; simp only [List.mem_cons, List.not_mem_nil, or_false, reduceCtorEq, false_or, AV.sl.injEq] at hm
    rcases hm with ⟨rfl, _⟩ | ⟨rfl, _⟩ <;> exact ⟨_, rfl⟩
  · cases h; simp only [List.mem_cons, List.not_mem_nil, or_false, reduceCtorEq, false_or, AV.sl.injEq] at hm
    obtain ⟨rfl, _⟩ := hm <;> exact ⟨_, rfl⟩
  · cases h; simp at hm
  · cases h; simp only [List.mem_cons, List.not_mem_nil, or_false, reduceCtorEq, false_or, AV.sl.injEq] at hm
    obtain ⟨rfl, _⟩ := hm <;> exact ⟨_, rfl⟩
  · cases h; simp at hm
  · cases h; simp at hm
  · cases h; simp only [List.mem_cons, List.not_mem_nil, or_false, reduceCtorEq, false_or, AV.sl.injEq] at hm
    obtain ⟨rfl, _⟩ := hm <;> exact ⟨_, rfl⟩
  · cases h; simp at hm
  · cases h; simp at hm
  · cases h; simp at hm
  · cases h; simp only [List.mem_cons, List.not_mem_nil, or_false, reduceCtorEq, false_or, AV.sl.injEq] at hm
    obtain ⟨rfl, _⟩ := hm <;> exact ⟨_, rfl⟩
  · cases h; simp only [List.mem_cons, List.not_mem_nil, or_false, reduceCtorEq, false_or, AV.sl.injEq] at hm
    obtain ⟨rfl, _⟩ := hm <;> exact ⟨_, rfl⟩
  · cases h; simp at hm
  · cases h; simp at hm
  · cases h; simp at hm
  · cases h; simp at hm
  · cases h; simp at hm
  · cases h; simp at hm
  · cases h; simp at hm
  · cases h; simp at hm
  · cases h; simp at hm
  · cases h; simp at hm
  · cases h; simp at hm
  · cases h; simp at hm
  · cases h; simp at hm
  · cases h; simp at hm
  · cases h; simp at hm
  · cases h; simp at hm
  · cases h; simp at hm
  · cases h
theorem eqt46 : eqTypeOk Tryd.prog 46 [.sc (.string ByteArray.empty), .sc (.int .i64 0), .sc (.int .i64 0), .sc (.int .i64 0)] = true := by kernel_rfl
theorem eq_ok : ∀ t z s b, tabInfo t = some (z, s, b) → (match (match tabTy t with | some d => some (isAggD d) | none => none) with | some true => true | _ => false) = true → tabCmp t = true → z.all isPlain = true → eqTypeOk Tryd.prog t z = true := by
  intro t z s b h ha hm hp
  unfold tabInfo at h
  split at h
  · cases h; exact nomatch ha
  · cases h; exact nomatch ha
  · cases h; exact nomatch ha
  · cases h; exact nomatch ha
  · cases h; exact nomatch ha
  · cases h; exact nomatch hm
  · cases h; exact nomatch hm
  · cases h; exact nomatch ha
  · cases h; exact nomatch ha
  · cases h; exact nomatch ha
  · cases h; exact nomatch ha
  · cases h; exact nomatch hm
  · cases h; exact nomatch hm
  · cases h; exact nomatch ha
  · cases h; exact nomatch ha
  · cases h; exact nomatch ha
  · cases h; exact nomatch hm
  · cases h; exact nomatch hm
  · cases h; exact nomatch ha
  · cases h; exact nomatch ha
  · cases h; exact nomatch ha
  · cases h; exact nomatch ha
  · cases h; exact nomatch hm
  · cases h; exact nomatch hm
  · cases h; exact nomatch ha
  · cases h; exact nomatch ha
  · cases h; exact nomatch ha
  · cases h; exact nomatch hm
  · cases h; exact eqt46
  · cases h; exact nomatch ha
  · cases h; exact nomatch hm
  · cases h; exact nomatch hm
  · cases h; exact nomatch ha
  · cases h; exact nomatch hm
  · cases h; exact nomatch hm
  · cases h; exact nomatch ha
  · cases h; exact nomatch ha
  · cases h; exact nomatch ha
  · cases h; exact nomatch hm
  · cases h; exact nomatch hm
  · cases h; exact nomatch hm
  · cases h; exact nomatch hm
  · cases h; exact nomatch hm
  · cases h; exact nomatch hm
  · cases h; exact nomatch hm
  · cases h; exact nomatch ha
  · cases h; exact nomatch ha
  · cases h; exact nomatch ha
  · cases h; exact nomatch ha
  · cases h; exact nomatch ha
  · cases h; exact nomatch hm
  · cases h; exact nomatch hm
  · cases h
theorem tab_ok : Tab.Ok tab Tryd.prog := ⟨fun f fn h _ => fn_ok f fn h, ty_ok, info_ok, elem_ok, fld_ok, zsl_ok⟩
theorem tab_eq : EqOk tab Tryd.prog := EqOk.of eq_ok
end Go.Proofs.YtdehjednpdbhaaaDoor
