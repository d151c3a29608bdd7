/- A part of an interpreter of the model's code that is proved sound, and of laws told by it: DamFacts. -/
import Derived.Test.YtahifpeggdcamaaDoorPpD1
import Derived.Test.YtahifpeggdcamaaDoorPpC6
import Derived.Test.YtahifpeggdcamaaDoorPpB1
import Derived.Test.YtahifpeggdcamaaDoorChecked
import Derived.Eval
import Derived.KernelRfl
set_option linter.unusedVariables false
set_option linter.unusedSimpArgs false
/- The table of this seat tells the seat's program: written by wip/mkfacts.py. -/
namespace Go.Proofs.YtahifpeggdcamaaDoor
open Go.Dam
set_option linter.unusedVariables false
theorem fb3 : Tryd.f3.body.isSome = true ∧ (Tryd.f3.name == "runtime.NumGoroutine") = false := ⟨by kernel_rfl, by kernel_rfl⟩
theorem fb4 : Tryd.f4.body.isSome = true ∧ (Tryd.f4.name == "runtime.NumGoroutine") = false := ⟨by kernel_rfl, by kernel_rfl⟩
theorem fb5 : Tryd.f5.body.isSome = true ∧ (Tryd.f5.name == "runtime.NumGoroutine") = false := ⟨by kernel_rfl, by kernel_rfl⟩
theorem fb6 : Tryd.f6.body.isSome = true ∧ (Tryd.f6.name == "runtime.NumGoroutine") = false := ⟨by kernel_rfl, by kernel_rfl⟩
theorem fb7 : Tryd.f7.body.isSome = true ∧ (Tryd.f7.name == "runtime.NumGoroutine") = false := ⟨by kernel_rfl, by kernel_rfl⟩
theorem fb8 : Tryd.f8.body.isSome = true ∧ (Tryd.f8.name == "runtime.NumGoroutine") = false := ⟨by kernel_rfl, by kernel_rfl⟩
theorem fb9 : Tryd.f9.body.isSome = true ∧ (Tryd.f9.name == "runtime.NumGoroutine") = false := ⟨by kernel_rfl, by kernel_rfl⟩
theorem fb10 : Tryd.f10.body.isSome = true ∧ (Tryd.f10.name == "runtime.NumGoroutine") = false := ⟨by kernel_rfl, by kernel_rfl⟩
theorem fb11 : Tryd.f11.body.isSome = true ∧ (Tryd.f11.name == "runtime.NumGoroutine") = false := ⟨by kernel_rfl, by kernel_rfl⟩
theorem fb12 : Tryd.f12.body.isSome = true ∧ (Tryd.f12.name == "runtime.NumGoroutine") = false := ⟨by kernel_rfl, by kernel_rfl⟩
theorem fb13 : Tryd.f13.body.isSome = true ∧ (Tryd.f13.name == "runtime.NumGoroutine") = false := ⟨by kernel_rfl, by kernel_rfl⟩
theorem fb14 : Tryd.f14.body.isSome = true ∧ (Tryd.f14.name == "runtime.NumGoroutine") = false := ⟨by kernel_rfl, by kernel_rfl⟩
theorem fb15 : Tryd.f15.body.isSome = true ∧ (Tryd.f15.name == "runtime.NumGoroutine") = false := ⟨by kernel_rfl, by kernel_rfl⟩
theorem fb16 : Tryd.f16.body.isSome = true ∧ (Tryd.f16.name == "runtime.NumGoroutine") = false := ⟨by kernel_rfl, by kernel_rfl⟩
theorem fb17 : Tryd.f17.body.isSome = true ∧ (Tryd.f17.name == "runtime.NumGoroutine") = false := ⟨by kernel_rfl, by kernel_rfl⟩
theorem fb18 : Tryd.f18.body.isSome = true ∧ (Tryd.f18.name == "runtime.NumGoroutine") = false := ⟨by kernel_rfl, by kernel_rfl⟩
theorem fb19 : Tryd.f19.body.isSome = true ∧ (Tryd.f19.name == "runtime.NumGoroutine") = false := ⟨by kernel_rfl, by kernel_rfl⟩
theorem fb20 : Tryd.f20.body.isSome = true ∧ (Tryd.f20.name == "runtime.NumGoroutine") = false := ⟨by kernel_rfl, by kernel_rfl⟩
theorem fb21 : Tryd.f21.body.isSome = true ∧ (Tryd.f21.name == "runtime.NumGoroutine") = false := ⟨by kernel_rfl, by kernel_rfl⟩
theorem fb22 : Tryd.f22.body.isSome = true ∧ (Tryd.f22.name == "runtime.NumGoroutine") = false := ⟨by kernel_rfl, by kernel_rfl⟩
theorem fb23 : Tryd.f23.body.isSome = true ∧ (Tryd.f23.name == "runtime.NumGoroutine") = false := ⟨by kernel_rfl, by kernel_rfl⟩
theorem fb24 : Tryd.f24.body.isSome = true ∧ (Tryd.f24.name == "runtime.NumGoroutine") = false := ⟨by kernel_rfl, by kernel_rfl⟩
theorem fb25 : Tryd.f25.body.isSome = true ∧ (Tryd.f25.name == "runtime.NumGoroutine") = false := ⟨by kernel_rfl, by kernel_rfl⟩
theorem fb26 : Tryd.f26.body.isSome = true ∧ (Tryd.f26.name == "runtime.NumGoroutine") = false := ⟨by kernel_rfl, by kernel_rfl⟩
theorem fb27 : Tryd.f27.body.isSome = true ∧ (Tryd.f27.name == "runtime.NumGoroutine") = false := ⟨by kernel_rfl, by kernel_rfl⟩
theorem fb28 : Tryd.f28.body.isSome = true ∧ (Tryd.f28.name == "runtime.NumGoroutine") = false := ⟨by kernel_rfl, by kernel_rfl⟩
theorem fb29 : Tryd.f29.body.isSome = true ∧ (Tryd.f29.name == "runtime.NumGoroutine") = false := ⟨by kernel_rfl, by kernel_rfl⟩
theorem fb30 : Tryd.f30.body.isSome = true ∧ (Tryd.f30.name == "runtime.NumGoroutine") = false := ⟨by kernel_rfl, by kernel_rfl⟩
theorem fb31 : Tryd.f31.body.isSome = true ∧ (Tryd.f31.name == "runtime.NumGoroutine") = false := ⟨by kernel_rfl, by kernel_rfl⟩
theorem fb32 : Tryd.f32.body.isSome = true ∧ (Tryd.f32.name == "runtime.NumGoroutine") = false := ⟨by kernel_rfl, by kernel_rfl⟩
theorem fb33 : Tryd.f33.body.isSome = true ∧ (Tryd.f33.name == "runtime.NumGoroutine") = false := ⟨by kernel_rfl, by kernel_rfl⟩
theorem fb34 : Tryd.f34.body.isSome = true ∧ (Tryd.f34.name == "runtime.NumGoroutine") = false := ⟨by kernel_rfl, by kernel_rfl⟩
theorem fb35 : Tryd.f35.body.isSome = true ∧ (Tryd.f35.name == "runtime.NumGoroutine") = false := ⟨by kernel_rfl, by kernel_rfl⟩
theorem fb36 : Tryd.f36.body.isSome = true ∧ (Tryd.f36.name == "runtime.NumGoroutine") = false := ⟨by kernel_rfl, by kernel_rfl⟩
theorem fb37 : Tryd.f37.body.isSome = true ∧ (Tryd.f37.name == "runtime.NumGoroutine") = false := ⟨by kernel_rfl, by kernel_rfl⟩
theorem fb38 : Tryd.f38.body.isSome = true ∧ (Tryd.f38.name == "runtime.NumGoroutine") = false := ⟨by kernel_rfl, by kernel_rfl⟩
theorem fb39 : Tryd.f39.body.isSome = true ∧ (Tryd.f39.name == "runtime.NumGoroutine") = false := ⟨by kernel_rfl, by kernel_rfl⟩
theorem fb40 : Tryd.f40.body.isSome = true ∧ (Tryd.f40.name == "runtime.NumGoroutine") = false := ⟨by kernel_rfl, by kernel_rfl⟩
theorem fb41 : Tryd.f41.body.isSome = true ∧ (Tryd.f41.name == "runtime.NumGoroutine") = false := ⟨by kernel_rfl, by kernel_rfl⟩
theorem fb42 : Tryd.f42.body.isSome = true ∧ (Tryd.f42.name == "runtime.NumGoroutine") = false := ⟨by kernel_rfl, by kernel_rfl⟩
theorem fb43 : Tryd.f43.body.isSome = true ∧ (Tryd.f43.name == "runtime.NumGoroutine") = false := ⟨by kernel_rfl, by kernel_rfl⟩
theorem fb44 : Tryd.f44.body.isSome = true ∧ (Tryd.f44.name == "runtime.NumGoroutine") = false := ⟨by kernel_rfl, by kernel_rfl⟩
theorem fb45 : Tryd.f45.body.isSome = true ∧ (Tryd.f45.name == "runtime.NumGoroutine") = false := ⟨by kernel_rfl, by kernel_rfl⟩
theorem fb46 : Tryd.f46.body.isSome = true ∧ (Tryd.f46.name == "runtime.NumGoroutine") = false := ⟨by kernel_rfl, by kernel_rfl⟩
theorem fb47 : Tryd.f47.body.isSome = true ∧ (Tryd.f47.name == "runtime.NumGoroutine") = false := ⟨by kernel_rfl, by kernel_rfl⟩
theorem fb48 : Tryd.f48.body.isSome = true ∧ (Tryd.f48.name == "runtime.NumGoroutine") = false := ⟨by kernel_rfl, by kernel_rfl⟩
theorem fb49 : Tryd.f49.body.isSome = true ∧ (Tryd.f49.name == "runtime.NumGoroutine") = false := ⟨by kernel_rfl, by kernel_rfl⟩
theorem fb50 : Tryd.f50.body.isSome = true ∧ (Tryd.f50.name == "runtime.NumGoroutine") = false := ⟨by kernel_rfl, by kernel_rfl⟩
theorem fb51 : Tryd.f51.body.isSome = true ∧ (Tryd.f51.name == "runtime.NumGoroutine") = false := ⟨by kernel_rfl, by kernel_rfl⟩
theorem fb52 : Tryd.f52.body.isSome = true ∧ (Tryd.f52.name == "runtime.NumGoroutine") = false := ⟨by kernel_rfl, by kernel_rfl⟩
theorem fb53 : Tryd.f53.body.isSome = true ∧ (Tryd.f53.name == "runtime.NumGoroutine") = false := ⟨by kernel_rfl, by kernel_rfl⟩
theorem fb54 : Tryd.f54.body.isSome = true ∧ (Tryd.f54.name == "runtime.NumGoroutine") = false := ⟨by kernel_rfl, by kernel_rfl⟩
theorem fb55 : Tryd.f55.body.isSome = true ∧ (Tryd.f55.name == "runtime.NumGoroutine") = false := ⟨by kernel_rfl, by kernel_rfl⟩
theorem fb56 : Tryd.f56.body.isSome = true ∧ (Tryd.f56.name == "runtime.NumGoroutine") = false := ⟨by kernel_rfl, by kernel_rfl⟩
theorem fb57 : Tryd.f57.body.isSome = true ∧ (Tryd.f57.name == "runtime.NumGoroutine") = false := ⟨by kernel_rfl, by kernel_rfl⟩
theorem fb58 : Tryd.f58.body.isSome = true ∧ (Tryd.f58.name == "runtime.NumGoroutine") = false := ⟨by kernel_rfl, by kernel_rfl⟩
theorem fb59 : Tryd.f59.body.isSome = true ∧ (Tryd.f59.name == "runtime.NumGoroutine") = false := ⟨by kernel_rfl, by kernel_rfl⟩
theorem fb60 : Tryd.f60.body.isSome = true ∧ (Tryd.f60.name == "runtime.NumGoroutine") = false := ⟨by kernel_rfl, by kernel_rfl⟩
theorem fb61 : Tryd.f61.body.isSome = true ∧ (Tryd.f61.name == "runtime.NumGoroutine") = false := ⟨by kernel_rfl, by kernel_rfl⟩
theorem fb62 : Tryd.f62.body.isSome = true ∧ (Tryd.f62.name == "runtime.NumGoroutine") = false := ⟨by kernel_rfl, by kernel_rfl⟩
theorem fb63 : Tryd.f63.body.isSome = true ∧ (Tryd.f63.name == "runtime.NumGoroutine") = false := ⟨by kernel_rfl, by kernel_rfl⟩
theorem fb64 : Tryd.f64.body.isSome = true ∧ (Tryd.f64.name == "runtime.NumGoroutine") = false := ⟨by kernel_rfl, by kernel_rfl⟩
theorem fb65 : Tryd.f65.body.isSome = true ∧ (Tryd.f65.name == "runtime.NumGoroutine") = false := ⟨by kernel_rfl, by kernel_rfl⟩
theorem fb66 : Tryd.f66.body.isSome = true ∧ (Tryd.f66.name == "runtime.NumGoroutine") = false := ⟨by kernel_rfl, by kernel_rfl⟩
theorem fb67 : Tryd.f67.body.isSome = true ∧ (Tryd.f67.name == "runtime.NumGoroutine") = false := ⟨by kernel_rfl, by kernel_rfl⟩
theorem fb68 : Tryd.f68.body.isSome = true ∧ (Tryd.f68.name == "runtime.NumGoroutine") = false := ⟨by kernel_rfl, by kernel_rfl⟩
theorem fb69 : Tryd.f69.body.isSome = true ∧ (Tryd.f69.name == "runtime.NumGoroutine") = false := ⟨by kernel_rfl, by kernel_rfl⟩
theorem fb70 : Tryd.f70.body.isSome = true ∧ (Tryd.f70.name == "runtime.NumGoroutine") = false := ⟨by kernel_rfl, by kernel_rfl⟩
theorem fb71 : Tryd.f71.body.isSome = true ∧ (Tryd.f71.name == "runtime.NumGoroutine") = false := ⟨by kernel_rfl, by kernel_rfl⟩
theorem fb72 : Tryd.f72.body.isSome = true ∧ (Tryd.f72.name == "runtime.NumGoroutine") = false := ⟨by kernel_rfl, by kernel_rfl⟩
theorem fb73 : Tryd.f73.body.isSome = true ∧ (Tryd.f73.name == "runtime.NumGoroutine") = false := ⟨by kernel_rfl, by kernel_rfl⟩
theorem fb74 : Tryd.f74.body.isSome = true ∧ (Tryd.f74.name == "runtime.NumGoroutine") = false := ⟨by kernel_rfl, by kernel_rfl⟩
theorem fb75 : Tryd.f75.body.isSome = true ∧ (Tryd.f75.name == "runtime.NumGoroutine") = false := ⟨by kernel_rfl, by kernel_rfl⟩
theorem fb76 : Tryd.f76.body.isSome = true ∧ (Tryd.f76.name == "runtime.NumGoroutine") = false := ⟨by kernel_rfl, by kernel_rfl⟩
theorem fb77 : Tryd.f77.body.isSome = true ∧ (Tryd.f77.name == "runtime.NumGoroutine") = false := ⟨by kernel_rfl, by kernel_rfl⟩
theorem fb78 : Tryd.f78.body.isSome = true ∧ (Tryd.f78.name == "runtime.NumGoroutine") = false := ⟨by kernel_rfl, by kernel_rfl⟩
theorem fb79 : Tryd.f79.body.isSome = true ∧ (Tryd.f79.name == "runtime.NumGoroutine") = false := ⟨by kernel_rfl, by kernel_rfl⟩
theorem fb80 : Tryd.f80.body.isSome = true ∧ (Tryd.f80.name == "runtime.NumGoroutine") = false := ⟨by kernel_rfl, by kernel_rfl⟩
theorem fb81 : Tryd.f81.body.isSome = true ∧ (Tryd.f81.name == "runtime.NumGoroutine") = false := ⟨by kernel_rfl, by kernel_rfl⟩
theorem fb82 : Tryd.f82.body.isSome = true ∧ (Tryd.f82.name == "runtime.NumGoroutine") = false := ⟨by kernel_rfl, by kernel_rfl⟩
theorem fb83 : Tryd.f83.body.isSome = true ∧ (Tryd.f83.name == "runtime.NumGoroutine") = false := ⟨by kernel_rfl, by kernel_rfl⟩
theorem fb84 : Tryd.f84.body.isSome = true ∧ (Tryd.f84.name == "runtime.NumGoroutine") = false := ⟨by kernel_rfl, by kernel_rfl⟩
theorem fb85 : Tryd.f85.body.isSome = true ∧ (Tryd.f85.name == "runtime.NumGoroutine") = false := ⟨by kernel_rfl, by kernel_rfl⟩
theorem fb86 : Tryd.f86.body.isSome = true ∧ (Tryd.f86.name == "runtime.NumGoroutine") = false := ⟨by kernel_rfl, by kernel_rfl⟩
theorem fb87 : Tryd.f87.body.isSome = true ∧ (Tryd.f87.name == "runtime.NumGoroutine") = false := ⟨by kernel_rfl, by kernel_rfl⟩
theorem fb88 : Tryd.f88.body.isSome = true ∧ (Tryd.f88.name == "runtime.NumGoroutine") = false := ⟨by kernel_rfl, by kernel_rfl⟩
theorem fb89 : Tryd.f89.body.isSome = true ∧ (Tryd.f89.name == "runtime.NumGoroutine") = false := ⟨by kernel_rfl, by kernel_rfl⟩
theorem fb90 : Tryd.f90.body.isSome = true ∧ (Tryd.f90.name == "runtime.NumGoroutine") = false := ⟨by kernel_rfl, by kernel_rfl⟩
theorem fb91 : Tryd.f91.body.isSome = true ∧ (Tryd.f91.name == "runtime.NumGoroutine") = false := ⟨by kernel_rfl, by kernel_rfl⟩
theorem fb92 : Tryd.f92.body.isSome = true ∧ (Tryd.f92.name == "runtime.NumGoroutine") = false := ⟨by kernel_rfl, by kernel_rfl⟩
theorem fb93 : Tryd.f93.body.isSome = true ∧ (Tryd.f93.name == "runtime.NumGoroutine") = false := ⟨by kernel_rfl, by kernel_rfl⟩
theorem fb94 : Tryd.f94.body.isSome = true ∧ (Tryd.f94.name == "runtime.NumGoroutine") = false := ⟨by kernel_rfl, by kernel_rfl⟩
theorem fb95 : Tryd.f95.body.isSome = true ∧ (Tryd.f95.name == "runtime.NumGoroutine") = false := ⟨by kernel_rfl, by kernel_rfl⟩
theorem fb96 : Tryd.f96.body.isSome = true ∧ (Tryd.f96.name == "runtime.NumGoroutine") = false := ⟨by kernel_rfl, by kernel_rfl⟩
theorem fb97 : Tryd.f97.body.isSome = true ∧ (Tryd.f97.name == "runtime.NumGoroutine") = false := ⟨by kernel_rfl, by kernel_rfl⟩
theorem fb98 : Tryd.f98.body.isSome = true ∧ (Tryd.f98.name == "runtime.NumGoroutine") = false := ⟨by kernel_rfl, by kernel_rfl⟩
theorem fb99 : Tryd.f99.body.isSome = true ∧ (Tryd.f99.name == "runtime.NumGoroutine") = false := ⟨by kernel_rfl, by kernel_rfl⟩
theorem fb100 : Tryd.f100.body.isSome = true ∧ (Tryd.f100.name == "runtime.NumGoroutine") = false := ⟨by kernel_rfl, by kernel_rfl⟩
theorem fb101 : Tryd.f101.body.isSome = true ∧ (Tryd.f101.name == "runtime.NumGoroutine") = false := ⟨by kernel_rfl, by kernel_rfl⟩
theorem fb102 : Tryd.f102.body.isSome = true ∧ (Tryd.f102.name == "runtime.NumGoroutine") = false := ⟨by kernel_rfl, by kernel_rfl⟩
theorem fb103 : Tryd.f103.body.isSome = true ∧ (Tryd.f103.name == "runtime.NumGoroutine") = false := ⟨by kernel_rfl, by kernel_rfl⟩
theorem fb104 : Tryd.f104.body.isSome = true ∧ (Tryd.f104.name == "runtime.NumGoroutine") = false := ⟨by kernel_rfl, by kernel_rfl⟩
theorem fb105 : Tryd.f105.body.isSome = true ∧ (Tryd.f105.name == "runtime.NumGoroutine") = false := ⟨by kernel_rfl, by kernel_rfl⟩
theorem fb106 : Tryd.f106.body.isSome = true ∧ (Tryd.f106.name == "runtime.NumGoroutine") = false := ⟨by kernel_rfl, by kernel_rfl⟩
theorem fb107 : Tryd.f107.body.isSome = true ∧ (Tryd.f107.name == "runtime.NumGoroutine") = false := ⟨by kernel_rfl, by kernel_rfl⟩
theorem fb108 : Tryd.f108.body.isSome = true ∧ (Tryd.f108.name == "runtime.NumGoroutine") = false := ⟨by kernel_rfl, by kernel_rfl⟩
theorem fb109 : Tryd.f109.body.isSome = true ∧ (Tryd.f109.name == "runtime.NumGoroutine") = false := ⟨by kernel_rfl, by kernel_rfl⟩
theorem fb110 : Tryd.f110.body.isSome = true ∧ (Tryd.f110.name == "runtime.NumGoroutine") = false := ⟨by kernel_rfl, by kernel_rfl⟩
theorem fb111 : Tryd.f111.body.isSome = true ∧ (Tryd.f111.name == "runtime.NumGoroutine") = false := ⟨by kernel_rfl, by kernel_rfl⟩
theorem fb112 : Tryd.f112.body.isSome = true ∧ (Tryd.f112.name == "runtime.NumGoroutine") = false := ⟨by kernel_rfl, by kernel_rfl⟩
theorem fb113 : Tryd.f113.body.isSome = true ∧ (Tryd.f113.name == "runtime.NumGoroutine") = false := ⟨by kernel_rfl, by kernel_rfl⟩
theorem fb114 : Tryd.f114.body.isSome = true ∧ (Tryd.f114.name == "runtime.NumGoroutine") = false := ⟨by kernel_rfl, by kernel_rfl⟩
theorem fb115 : Tryd.f115.body.isSome = true ∧ (Tryd.f115.name == "runtime.NumGoroutine") = false := ⟨by kernel_rfl, by kernel_rfl⟩
theorem fb116 : Tryd.f116.body.isSome = true ∧ (Tryd.f116.name == "runtime.NumGoroutine") = false := ⟨by kernel_rfl, by kernel_rfl⟩
theorem fb117 : Tryd.f117.body.isSome = true ∧ (Tryd.f117.name == "runtime.NumGoroutine") = false := ⟨by kernel_rfl, by kernel_rfl⟩
theorem fb118 : Tryd.f118.body.isSome = true ∧ (Tryd.f118.name == "runtime.NumGoroutine") = false := ⟨by kernel_rfl, by kernel_rfl⟩
theorem fb121 : Tryd.f121.body.isSome = true ∧ (Tryd.f121.name == "runtime.NumGoroutine") = false := ⟨by kernel_rfl, by kernel_rfl⟩
theorem fb122 : Tryd.f122.body.isSome = true ∧ (Tryd.f122.name == "runtime.NumGoroutine") = false := ⟨by kernel_rfl, by kernel_rfl⟩
theorem fb123 : Tryd.f123.body.isSome = true ∧ (Tryd.f123.name == "runtime.NumGoroutine") = false := ⟨by kernel_rfl, by kernel_rfl⟩
theorem fb124 : Tryd.f124.body.isSome = true ∧ (Tryd.f124.name == "runtime.NumGoroutine") = false := ⟨by kernel_rfl, by kernel_rfl⟩
theorem fb125 : Tryd.f125.body.isSome = true ∧ (Tryd.f125.name == "runtime.NumGoroutine") = false := ⟨by kernel_rfl, by kernel_rfl⟩
theorem fb126 : Tryd.f126.body.isSome = true ∧ (Tryd.f126.name == "runtime.NumGoroutine") = false := ⟨by kernel_rfl, by kernel_rfl⟩
theorem fb127 : Tryd.f127.body.isSome = true ∧ (Tryd.f127.name == "runtime.NumGoroutine") = false := ⟨by kernel_rfl, by kernel_rfl⟩
theorem fn_ok : ∀ f fn, tabFn f = some fn → Tryd.prog.funcs[f]? = some fn ∧ fn.body.isSome = true ∧ (fn.name == "runtime.NumGoroutine") = false := by
  intro f fn h
  unfold tabFn at h
  split at h
  · cases h; exact ⟨Tryd.func3, fb3⟩
  · cases h; exact ⟨Tryd.func4, fb4⟩
  · cases h; exact ⟨Tryd.func5, fb5⟩
  · cases h; exact ⟨Tryd.func6, fb6⟩
  · cases h; exact ⟨Tryd.func7, fb7⟩
  · cases h; exact ⟨Tryd.func8, fb8⟩
  · cases h; exact ⟨Tryd.func9, fb9⟩
  · cases h; exact ⟨Tryd.func10, fb10⟩
  · cases h; exact ⟨Tryd.func11, fb11⟩
  · cases h; exact ⟨Tryd.func12, fb12⟩
  · cases h; exact ⟨Tryd.func13, fb13⟩
  · cases h; exact ⟨Tryd.func14, fb14⟩
  · cases h; exact ⟨Tryd.func15, fb15⟩
  · cases h; exact ⟨Tryd.func16, fb16⟩
  · cases h; exact ⟨Tryd.func17, fb17⟩
  · cases h; exact ⟨Tryd.func18, fb18⟩
  · cases h; exact ⟨Tryd.func19, fb19⟩
  · cases h; exact ⟨Tryd.func20, fb20⟩
  · cases h; exact ⟨Tryd.func21, fb21⟩
  · cases h; exact ⟨Tryd.func22, fb22⟩
  · cases h; exact ⟨Tryd.func23, fb23⟩
  · cases h; exact ⟨Tryd.func24, fb24⟩
  · cases h; exact ⟨Tryd.func25, fb25⟩
  · cases h; exact ⟨Tryd.func26, fb26⟩
  · cases h; exact ⟨Tryd.func27, fb27⟩
  · cases h; exact ⟨Tryd.func28, fb28⟩
  · cases h; exact ⟨Tryd.func29, fb29⟩
  · cases h; exact ⟨Tryd.func30, fb30⟩
  · cases h; exact ⟨Tryd.func31, fb31⟩
  · cases h; exact ⟨Tryd.func32, fb32⟩
  · cases h; exact ⟨Tryd.func33, fb33⟩
  · cases h; exact ⟨Tryd.func34, fb34⟩
  · cases h; exact ⟨Tryd.func35, fb35⟩
  · cases h; exact ⟨Tryd.func36, fb36⟩
  · cases h; exact ⟨Tryd.func37, fb37⟩
  · cases h; exact ⟨Tryd.func38, fb38⟩
  · cases h; exact ⟨Tryd.func39, fb39⟩
  · cases h; exact ⟨Tryd.func40, fb40⟩
  · cases h; exact ⟨Tryd.func41, fb41⟩
  · cases h; exact ⟨Tryd.func42, fb42⟩
  · cases h; exact ⟨Tryd.func43, fb43⟩
  · cases h; exact ⟨Tryd.func44, fb44⟩
  · cases h; exact ⟨Tryd.func45, fb45⟩
  · cases h; exact ⟨Tryd.func46, fb46⟩
  · cases h; exact ⟨Tryd.func47, fb47⟩
  · cases h; exact ⟨Tryd.func48, fb48⟩
  · cases h; exact ⟨Tryd.func49, fb49⟩
  · cases h; exact ⟨Tryd.func50, fb50⟩
  · cases h; exact ⟨Tryd.func51, fb51⟩
  · cases h; exact ⟨Tryd.func52, fb52⟩
  · cases h; exact ⟨Tryd.func53, fb53⟩
  · cases h; exact ⟨Tryd.func54, fb54⟩
  · cases h; exact ⟨Tryd.func55, fb55⟩
  · cases h; exact ⟨Tryd.func56, fb56⟩
  · cases h; exact ⟨Tryd.func57, fb57⟩
  · cases h; exact ⟨Tryd.func58, fb58⟩
  · cases h; exact ⟨Tryd.func59, fb59⟩
  · cases h; exact ⟨Tryd.func60, fb60⟩
  · cases h; exact ⟨Tryd.func61, fb61⟩
  · cases h; exact ⟨Tryd.func62, fb62⟩
  · cases h; exact ⟨Tryd.func63, fb63⟩
  · cases h; exact ⟨Tryd.func64, fb64⟩
  · cases h; exact ⟨Tryd.func65, fb65⟩
  · cases h; exact ⟨Tryd.func66, fb66⟩
  · cases h; exact ⟨Tryd.func67, fb67⟩
  · cases h; exact ⟨Tryd.func68, fb68⟩
  · cases h; exact ⟨Tryd.func69, fb69⟩
  · cases h; exact ⟨Tryd.func70, fb70⟩
  · cases h; exact ⟨Tryd.func71, fb71⟩
  · cases h; exact ⟨Tryd.func72, fb72⟩
  · cases h; exact ⟨Tryd.func73, fb73⟩
  · cases h; exact ⟨Tryd.func74, fb74⟩
  · cases h; exact ⟨Tryd.func75, fb75⟩
  · cases h; exact ⟨Tryd.func76, fb76⟩
  · cases h; exact ⟨Tryd.func77, fb77⟩
  · cases h; exact ⟨Tryd.func78, fb78⟩
  · cases h; exact ⟨Tryd.func79, fb79⟩
  · cases h; exact ⟨Tryd.func80, fb80⟩
  · cases h; exact ⟨Tryd.func81, fb81⟩
  · cases h; exact ⟨Tryd.func82, fb82⟩
  · cases h; exact ⟨Tryd.func83, fb83⟩
  · cases h; exact ⟨Tryd.func84, fb84⟩
  · cases h; exact ⟨Tryd.func85, fb85⟩
  · cases h; exact ⟨Tryd.func86, fb86⟩
  · cases h; exact ⟨Tryd.func87, fb87⟩
  · cases h; exact ⟨Tryd.func88, fb88⟩
  · cases h; exact ⟨Tryd.func89, fb89⟩
  · cases h; exact ⟨Tryd.func90, fb90⟩
  · cases h; exact ⟨Tryd.func91, fb91⟩
  · cases h; exact ⟨Tryd.func92, fb92⟩
  · cases h; exact ⟨Tryd.func93, fb93⟩
  · cases h; exact ⟨Tryd.func94, fb94⟩
  · cases h; exact ⟨Tryd.func95, fb95⟩
  · cases h; exact ⟨Tryd.func96, fb96⟩
  · cases h; exact ⟨Tryd.func97, fb97⟩
  · cases h; exact ⟨Tryd.func98, fb98⟩
  · cases h; exact ⟨Tryd.func99, fb99⟩
  · cases h; exact ⟨Tryd.func100, fb100⟩
  · cases h; exact ⟨Tryd.func101, fb101⟩
  · cases h; exact ⟨Tryd.func102, fb102⟩
  · cases h; exact ⟨Tryd.func103, fb103⟩
  · cases h; exact ⟨Tryd.func104, fb104⟩
  · cases h; exact ⟨Tryd.func105, fb105⟩
  · cases h; exact ⟨Tryd.func106, fb106⟩
  · cases h; exact ⟨Tryd.func107, fb107⟩
  · cases h; exact ⟨Tryd.func108, fb108⟩
  · cases h; exact ⟨Tryd.func109, fb109⟩
  · cases h; exact ⟨Tryd.func110, fb110⟩
  · cases h; exact ⟨Tryd.func111, fb111⟩
  · cases h; exact ⟨Tryd.func112, fb112⟩
  · cases h; exact ⟨Tryd.func113, fb113⟩
  · cases h; exact ⟨Tryd.func114, fb114⟩
  · cases h; exact ⟨Tryd.func115, fb115⟩
  · cases h; exact ⟨Tryd.func116, fb116⟩
  · cases h; exact ⟨Tryd.func117, fb117⟩
  · cases h; exact ⟨Tryd.func118, fb118⟩
  · cases h; exact ⟨Tryd.func121, fb121⟩
  · cases h; exact ⟨Tryd.func122, fb122⟩
  · cases h; exact ⟨Tryd.func123, fb123⟩
  · cases h; exact ⟨Tryd.func124, fb124⟩
  · cases h; exact ⟨Tryd.func125, fb125⟩
  · cases h; exact ⟨Tryd.func126, fb126⟩
  · cases h; exact ⟨Tryd.func127, fb127⟩
  · cases h
theorem res_ok : ∀ f fn, tabFn f = some fn → tabRes f = fn.resultTypes.toList := by
  intro f fn h
  unfold tabFn at h
  split at h
  · cases h; kernel_rfl
  · cases h; kernel_rfl
  · cases h; kernel_rfl
  · cases h; kernel_rfl
  · cases h; kernel_rfl
  · cases h; kernel_rfl
  · cases h; kernel_rfl
  · cases h; kernel_rfl
  · cases h; kernel_rfl
  · cases h; kernel_rfl
  · cases h; kernel_rfl
  · cases h; kernel_rfl
  · cases h; kernel_rfl
  · cases h; kernel_rfl
  · cases h; kernel_rfl
  · cases h; kernel_rfl
  · cases h; kernel_rfl
  · cases h; kernel_rfl
  · cases h; kernel_rfl
  · cases h; kernel_rfl
  · cases h; kernel_rfl
  · cases h; kernel_rfl
  · cases h; kernel_rfl
  · cases h; kernel_rfl
  · cases h; kernel_rfl
  · cases h; kernel_rfl
  · cases h; kernel_rfl
  · cases h; kernel_rfl
  · cases h; kernel_rfl
  · cases h; kernel_rfl
  · cases h; kernel_rfl
  · cases h; kernel_rfl
  · cases h; kernel_rfl
  · cases h; kernel_rfl
  · cases h; kernel_rfl
  · cases h; kernel_rfl
  · cases h; kernel_rfl
  · cases h; kernel_rfl
  · cases h; kernel_rfl
  · cases h; kernel_rfl
  · cases h; kernel_rfl
  · cases h; kernel_rfl
  · cases h; kernel_rfl
  · cases h; kernel_rfl
  · cases h; kernel_rfl
  · cases h; kernel_rfl
  · cases h; kernel_rfl
  · cases h; kernel_rfl
  · cases h; kernel_rfl
  · cases h; kernel_rfl
  · cases h; kernel_rfl
  · cases h; kernel_rfl
  · cases h; kernel_rfl
  · cases h; kernel_rfl
  · cases h; kernel_rfl
  · cases h; kernel_rfl
  · cases h; kernel_rfl
  · cases h; kernel_rfl
  · cases h; kernel_rfl
  · cases h; kernel_rfl
  · cases h; kernel_rfl
  · cases h; kernel_rfl
  · cases h; kernel_rfl
  · cases h; kernel_rfl
  · cases h; kernel_rfl
  · cases h; kernel_rfl
  · cases h; kernel_rfl
  · cases h; kernel_rfl
  · cases h; kernel_rfl
  · cases h; kernel_rfl
  · cases h; kernel_rfl
  · cases h; kernel_rfl
  · cases h; kernel_rfl
  · cases h; kernel_rfl
  · cases h; kernel_rfl
  · cases h; kernel_rfl
  · cases h; kernel_rfl
  · cases h; kernel_rfl
  · cases h; kernel_rfl
  · cases h; kernel_rfl
  · cases h; kernel_rfl
  · cases h; kernel_rfl
  · cases h; kernel_rfl
  · cases h; kernel_rfl
  · cases h; kernel_rfl
  · cases h; kernel_rfl
  · cases h; kernel_rfl
  · cases h; kernel_rfl
  · cases h; kernel_rfl
  · cases h; kernel_rfl
  · cases h; kernel_rfl
  · cases h; kernel_rfl
  · cases h; kernel_rfl
  · cases h; kernel_rfl
  · cases h; kernel_rfl
  · cases h; kernel_rfl
  · cases h; kernel_rfl
  · cases h; kernel_rfl
  · cases h; kernel_rfl
  · cases h; kernel_rfl
  · cases h; kernel_rfl
  · cases h; kernel_rfl
  · cases h; kernel_rfl
  · cases h; kernel_rfl
  · cases h; kernel_rfl
  · cases h; kernel_rfl
  · cases h; kernel_rfl
  · cases h; kernel_rfl
  · cases h; kernel_rfl
  · cases h; kernel_rfl
  · cases h; kernel_rfl
  · cases h; kernel_rfl
  · cases h; kernel_rfl
  · cases h; kernel_rfl
  · cases h; kernel_rfl
  · cases h; kernel_rfl
  · cases h; kernel_rfl
  · cases h; kernel_rfl
  · cases h; kernel_rfl
  · cases h; kernel_rfl
  · cases h; kernel_rfl
  · cases h; kernel_rfl
  · cases h; kernel_rfl
  · cases h
theorem pl3 : plansOk (tabPlan 3) (bodyOf Tryd.f3) = true := by kernel_rfl
theorem pl4 : plansOk (tabPlan 4) (bodyOf Tryd.f4) = true := by kernel_rfl
theorem pl5 : plansOk (tabPlan 5) (bodyOf Tryd.f5) = true := by kernel_rfl
theorem pl6 : plansOk (tabPlan 6) (bodyOf Tryd.f6) = true := by kernel_rfl
theorem pl7 : plansOk (tabPlan 7) (bodyOf Tryd.f7) = true := by kernel_rfl
theorem pl8 : plansOk (tabPlan 8) (bodyOf Tryd.f8) = true := by kernel_rfl
theorem pl9 : plansOk (tabPlan 9) (bodyOf Tryd.f9) = true := by kernel_rfl
theorem pl10 : plansOk (tabPlan 10) (bodyOf Tryd.f10) = true := by kernel_rfl
theorem pl11 : plansOk (tabPlan 11) (bodyOf Tryd.f11) = true := by kernel_rfl
theorem pl12 : plansOk (tabPlan 12) (bodyOf Tryd.f12) = true := by kernel_rfl
theorem pl13 : plansOk (tabPlan 13) (bodyOf Tryd.f13) = true := by kernel_rfl
theorem pl14 : plansOk (tabPlan 14) (bodyOf Tryd.f14) = true := by kernel_rfl
theorem pl15 : plansOk (tabPlan 15) (bodyOf Tryd.f15) = true := by kernel_rfl
theorem pl16 : plansOk (tabPlan 16) (bodyOf Tryd.f16) = true := by kernel_rfl
theorem pl17 : plansOk (tabPlan 17) (bodyOf Tryd.f17) = true := by kernel_rfl
theorem pl18 : plansOk (tabPlan 18) (bodyOf Tryd.f18) = true := by kernel_rfl
theorem pl19 : plansOk (tabPlan 19) (bodyOf Tryd.f19) = true := by kernel_rfl
theorem pl20 : plansOk (tabPlan 20) (bodyOf Tryd.f20) = true := by kernel_rfl
theorem pl21 : plansOk (tabPlan 21) (bodyOf Tryd.f21) = true := by kernel_rfl
theorem pl22 : plansOk (tabPlan 22) (bodyOf Tryd.f22) = true := by kernel_rfl
theorem pl23 : plansOk (tabPlan 23) (bodyOf Tryd.f23) = true := by kernel_rfl
theorem pl24 : plansOk (tabPlan 24) (bodyOf Tryd.f24) = true := by kernel_rfl
theorem pl25 : plansOk (tabPlan 25) (bodyOf Tryd.f25) = true := by kernel_rfl
theorem pl26 : plansOk (tabPlan 26) (bodyOf Tryd.f26) = true := by kernel_rfl
theorem pl27 : plansOk (tabPlan 27) (bodyOf Tryd.f27) = true := by kernel_rfl
theorem pl28 : plansOk (tabPlan 28) (bodyOf Tryd.f28) = true := by kernel_rfl
theorem pl29 : plansOk (tabPlan 29) (bodyOf Tryd.f29) = true := by kernel_rfl
theorem pl30 : plansOk (tabPlan 30) (bodyOf Tryd.f30) = true := by kernel_rfl
theorem pl31 : plansOk (tabPlan 31) (bodyOf Tryd.f31) = true := by kernel_rfl
theorem pl32 : plansOk (tabPlan 32) (bodyOf Tryd.f32) = true := by kernel_rfl
theorem pl33 : plansOk (tabPlan 33) (bodyOf Tryd.f33) = true := by kernel_rfl
theorem pl34 : plansOk (tabPlan 34) (bodyOf Tryd.f34) = true := by kernel_rfl
theorem pl35 : plansOk (tabPlan 35) (bodyOf Tryd.f35) = true := by kernel_rfl
theorem pl36 : plansOk (tabPlan 36) (bodyOf Tryd.f36) = true := by kernel_rfl
theorem pl37 : plansOk (tabPlan 37) (bodyOf Tryd.f37) = true := by kernel_rfl
theorem pl38 : plansOk (tabPlan 38) (bodyOf Tryd.f38) = true := by kernel_rfl
theorem pl39 : plansOk (tabPlan 39) (bodyOf Tryd.f39) = true := by kernel_rfl
theorem pl40 : plansOk (tabPlan 40) (bodyOf Tryd.f40) = true := by kernel_rfl
theorem pl41 : plansOk (tabPlan 41) (bodyOf Tryd.f41) = true := by kernel_rfl
theorem pl42 : plansOk (tabPlan 42) (bodyOf Tryd.f42) = true := by kernel_rfl
theorem pl43 : plansOk (tabPlan 43) (bodyOf Tryd.f43) = true := by kernel_rfl
theorem pl44 : plansOk (tabPlan 44) (bodyOf Tryd.f44) = true := by kernel_rfl
theorem pl45 : plansOk (tabPlan 45) (bodyOf Tryd.f45) = true := by kernel_rfl
theorem pl46 : plansOk (tabPlan 46) (bodyOf Tryd.f46) = true := by kernel_rfl
theorem pl47 : plansOk (tabPlan 47) (bodyOf Tryd.f47) = true := by kernel_rfl
theorem pl48 : plansOk (tabPlan 48) (bodyOf Tryd.f48) = true := by kernel_rfl
theorem pl49 : plansOk (tabPlan 49) (bodyOf Tryd.f49) = true := by kernel_rfl
theorem pl50 : plansOk (tabPlan 50) (bodyOf Tryd.f50) = true := by kernel_rfl
theorem pl51 : plansOk (tabPlan 51) (bodyOf Tryd.f51) = true := by kernel_rfl
theorem pl52 : plansOk (tabPlan 52) (bodyOf Tryd.f52) = true := by kernel_rfl
theorem pl53 : plansOk (tabPlan 53) (bodyOf Tryd.f53) = true := by kernel_rfl
theorem pl54 : plansOk (tabPlan 54) (bodyOf Tryd.f54) = true := by kernel_rfl
theorem pl55 : plansOk (tabPlan 55) (bodyOf Tryd.f55) = true := by kernel_rfl
theorem pl56 : plansOk (tabPlan 56) (bodyOf Tryd.f56) = true := by kernel_rfl
theorem pl57 : plansOk (tabPlan 57) (bodyOf Tryd.f57) = true := by kernel_rfl
theorem pl58 : plansOk (tabPlan 58) (bodyOf Tryd.f58) = true := by kernel_rfl
theorem pl59 : plansOk (tabPlan 59) (bodyOf Tryd.f59) = true := by kernel_rfl
theorem pl60 : plansOk (tabPlan 60) (bodyOf Tryd.f60) = true := by kernel_rfl
theorem pl61 : plansOk (tabPlan 61) (bodyOf Tryd.f61) = true := by kernel_rfl
theorem pl62 : plansOk (tabPlan 62) (bodyOf Tryd.f62) = true := by kernel_rfl
theorem pl63 : plansOk (tabPlan 63) (bodyOf Tryd.f63) = true := by kernel_rfl
theorem pl64 : plansOk (tabPlan 64) (bodyOf Tryd.f64) = true := by kernel_rfl
theorem pl65 : plansOk (tabPlan 65) (bodyOf Tryd.f65) = true := by kernel_rfl
theorem pl66 : plansOk (tabPlan 66) (bodyOf Tryd.f66) = true := by kernel_rfl
theorem pl67 : plansOk (tabPlan 67) (bodyOf Tryd.f67) = true := by kernel_rfl
theorem pl68 : plansOk (tabPlan 68) (bodyOf Tryd.f68) = true := by kernel_rfl
theorem pl69 : plansOk (tabPlan 69) (bodyOf Tryd.f69) = true := by kernel_rfl
theorem pl70 : plansOk (tabPlan 70) (bodyOf Tryd.f70) = true := by kernel_rfl
theorem pl71 : plansOk (tabPlan 71) (bodyOf Tryd.f71) = true := by kernel_rfl
theorem pl72 : plansOk (tabPlan 72) (bodyOf Tryd.f72) = true := by kernel_rfl
theorem pl73 : plansOk (tabPlan 73) (bodyOf Tryd.f73) = true := by kernel_rfl
theorem pl74 : plansOk (tabPlan 74) (bodyOf Tryd.f74) = true := by kernel_rfl
theorem pl75 : plansOk (tabPlan 75) (bodyOf Tryd.f75) = true := by kernel_rfl
theorem pl76 : plansOk (tabPlan 76) (bodyOf Tryd.f76) = true := by kernel_rfl
theorem pl77 : plansOk (tabPlan 77) (bodyOf Tryd.f77) = true := by kernel_rfl
theorem pl78 : plansOk (tabPlan 78) (bodyOf Tryd.f78) = true := by kernel_rfl
theorem pl79 : plansOk (tabPlan 79) (bodyOf Tryd.f79) = true := by kernel_rfl
theorem pl80 : plansOk (tabPlan 80) (bodyOf Tryd.f80) = true := by kernel_rfl
theorem pl81 : plansOk (tabPlan 81) (bodyOf Tryd.f81) = true := by kernel_rfl
theorem pl82 : plansOk (tabPlan 82) (bodyOf Tryd.f82) = true := by kernel_rfl
theorem pl83 : plansOk (tabPlan 83) (bodyOf Tryd.f83) = true := by kernel_rfl
theorem pl84 : plansOk (tabPlan 84) (bodyOf Tryd.f84) = true := by kernel_rfl
theorem pl85 : plansOk (tabPlan 85) (bodyOf Tryd.f85) = true := by kernel_rfl
theorem pl86 : plansOk (tabPlan 86) (bodyOf Tryd.f86) = true := by kernel_rfl
theorem pl87 : plansOk (tabPlan 87) (bodyOf Tryd.f87) = true := by kernel_rfl
theorem pl88 : plansOk (tabPlan 88) (bodyOf Tryd.f88) = true := by kernel_rfl
theorem pl89 : plansOk (tabPlan 89) (bodyOf Tryd.f89) = true := by kernel_rfl
theorem pl90 : plansOk (tabPlan 90) (bodyOf Tryd.f90) = true := by kernel_rfl
theorem pl91 : plansOk (tabPlan 91) (bodyOf Tryd.f91) = true := by kernel_rfl
theorem pl92 : plansOk (tabPlan 92) (bodyOf Tryd.f92) = true := by kernel_rfl
theorem pl93 : plansOk (tabPlan 93) (bodyOf Tryd.f93) = true := by kernel_rfl
theorem pl94 : plansOk (tabPlan 94) (bodyOf Tryd.f94) = true := by kernel_rfl
theorem pl95 : plansOk (tabPlan 95) (bodyOf Tryd.f95) = true := by kernel_rfl
theorem pl96 : plansOk (tabPlan 96) (bodyOf Tryd.f96) = true := by kernel_rfl
theorem pl97 : plansOk (tabPlan 97) (bodyOf Tryd.f97) = true := by kernel_rfl
theorem pl98 : plansOk (tabPlan 98) (bodyOf Tryd.f98) = true := by kernel_rfl
theorem pl99 : plansOk (tabPlan 99) (bodyOf Tryd.f99) = true := by kernel_rfl
theorem pl100 : plansOk (tabPlan 100) (bodyOf Tryd.f100) = true := by kernel_rfl
theorem pl101 : plansOk (tabPlan 101) (bodyOf Tryd.f101) = true := by kernel_rfl
theorem pl102 : plansOk (tabPlan 102) (bodyOf Tryd.f102) = true := by kernel_rfl
theorem pl103 : plansOk (tabPlan 103) (bodyOf Tryd.f103) = true := by kernel_rfl
theorem pl104 : plansOk (tabPlan 104) (bodyOf Tryd.f104) = true := by kernel_rfl
theorem pl105 : plansOk (tabPlan 105) (bodyOf Tryd.f105) = true := by kernel_rfl
theorem pl106 : plansOk (tabPlan 106) (bodyOf Tryd.f106) = true := by kernel_rfl
theorem pl107 : plansOk (tabPlan 107) (bodyOf Tryd.f107) = true := by kernel_rfl
theorem pl108 : plansOk (tabPlan 108) (bodyOf Tryd.f108) = true := by kernel_rfl
theorem pl109 : plansOk (tabPlan 109) (bodyOf Tryd.f109) = true := by kernel_rfl
theorem pl110 : plansOk (tabPlan 110) (bodyOf Tryd.f110) = true := by kernel_rfl
theorem pl111 : plansOk (tabPlan 111) (bodyOf Tryd.f111) = true := by kernel_rfl
theorem pl112 : plansOk (tabPlan 112) (bodyOf Tryd.f112) = true := by kernel_rfl
theorem pl113 : plansOk (tabPlan 113) (bodyOf Tryd.f113) = true := by kernel_rfl
theorem pl114 : plansOk (tabPlan 114) (bodyOf Tryd.f114) = true := by kernel_rfl
theorem pl115 : plansOk (tabPlan 115) (bodyOf Tryd.f115) = true := by kernel_rfl
theorem pl116 : plansOk (tabPlan 116) (bodyOf Tryd.f116) = true := by kernel_rfl
theorem pl117 : plansOk (tabPlan 117) (bodyOf Tryd.f117) = true := by kernel_rfl
theorem pl118 : plansOk (tabPlan 118) (bodyOf Tryd.f118) = true := by kernel_rfl
theorem pl121 : plansOk (tabPlan 121) (bodyOf Tryd.f121) = true := by kernel_rfl
theorem pl122 : plansOk (tabPlan 122) (bodyOf Tryd.f122) = true := by kernel_rfl
theorem pl123 : plansOk (tabPlan 123) (bodyOf Tryd.f123) = true := by kernel_rfl
theorem pl124 : plansOk (tabPlan 124) (bodyOf Tryd.f124) = true := by kernel_rfl
theorem pl125 : plansOk (tabPlan 125) (bodyOf Tryd.f125) = true := by kernel_rfl
theorem pl126 : plansOk (tabPlan 126) (bodyOf Tryd.f126) = true := by kernel_rfl
theorem pl127 : plansOk (tabPlan 127) (bodyOf Tryd.f127) = true := by kernel_rfl
theorem plans_ok : ∀ f fn, tabFn f = some fn → plansOk (tabPlan f) (bodyOf fn) = true := by
  intro f fn h
  unfold tabFn at h
  split at h
  · cases h; exact pl3
  · cases h; exact pl4
  · cases h; exact pl5
  · cases h; exact pl6
  · cases h; exact pl7
  · cases h; exact pl8
  · cases h; exact pl9
  · cases h; exact pl10
  · cases h; exact pl11
  · cases h; exact pl12
  · cases h; exact pl13
  · cases h; exact pl14
  · cases h; exact pl15
  · cases h; exact pl16
  · cases h; exact pl17
  · cases h; exact pl18
  · cases h; exact pl19
  · cases h; exact pl20
  · cases h; exact pl21
  · cases h; exact pl22
  · cases h; exact pl23
  · cases h; exact pl24
  · cases h; exact pl25
  · cases h; exact pl26
  · cases h; exact pl27
  · cases h; exact pl28
  · cases h; exact pl29
  · cases h; exact pl30
  · cases h; exact pl31
  · cases h; exact pl32
  · cases h; exact pl33
  · cases h; exact pl34
  · cases h; exact pl35
  · cases h; exact pl36
  · cases h; exact pl37
  · cases h; exact pl38
  · cases h; exact pl39
  · cases h; exact pl40
  · cases h; exact pl41
  · cases h; exact pl42
  · cases h; exact pl43
  · cases h; exact pl44
  · cases h; exact pl45
  · cases h; exact pl46
  · cases h; exact pl47
  · cases h; exact pl48
  · cases h; exact pl49
  · cases h; exact pl50
  · cases h; exact pl51
  · cases h; exact pl52
  · cases h; exact pl53
  · cases h; exact pl54
  · cases h; exact pl55
  · cases h; exact pl56
  · cases h; exact pl57
  · cases h; exact pl58
  · cases h; exact pl59
  · cases h; exact pl60
  · cases h; exact pl61
  · cases h; exact pl62
  · cases h; exact pl63
  · cases h; exact pl64
  · cases h; exact pl65
  · cases h; exact pl66
  · cases h; exact pl67
  · cases h; exact pl68
  · cases h; exact pl69
  · cases h; exact pl70
  · cases h; exact pl71
  · cases h; exact pl72
  · cases h; exact pl73
  · cases h; exact pl74
  · cases h; exact pl75
  · cases h; exact pl76
  · cases h; exact pl77
  · cases h; exact pl78
  · cases h; exact pl79
  · cases h; exact pl80
  · cases h; exact pl81
  · cases h; exact pl82
  · cases h; exact pl83
  · cases h; exact pl84
  · cases h; exact pl85
  · cases h; exact pl86
  · cases h; exact pl87
  · cases h; exact pl88
  · cases h; exact pl89
  · cases h; exact pl90
  · cases h; exact pl91
  · cases h; exact pl92
  · cases h; exact pl93
  · cases h; exact pl94
  · cases h; exact pl95
  · cases h; exact pl96
  · cases h; exact pl97
  · cases h; exact pl98
  · cases h; exact pl99
  · cases h; exact pl100
  · cases h; exact pl101
  · cases h; exact pl102
  · cases h; exact pl103
  · cases h; exact pl104
  · cases h; exact pl105
  · cases h; exact pl106
  · cases h; exact pl107
  · cases h; exact pl108
  · cases h; exact pl109
  · cases h; exact pl110
  · cases h; exact pl111
  · cases h; exact pl112
  · cases h; exact pl113
  · cases h; exact pl114
  · cases h; exact pl115
  · cases h; exact pl116
  · cases h; exact pl117
  · cases h; exact pl118
  · cases h; exact pl121
  · cases h; exact pl122
  · cases h; exact pl123
  · cases h; exact pl124
  · cases h; exact pl125
  · cases h; exact pl126
  · cases h; exact pl127
  · cases h
theorem ty_ok : ∀ t d, tabTy t = some d → Tryd.prog.underlying t = some d := by
  intro t d h
  unfold tabTy at h
  split at h
  · cases h; kernel_rfl
  · cases h; kernel_rfl
  · cases h; kernel_rfl
  · cases h; kernel_rfl
  · cases h; kernel_rfl
  · cases h; kernel_rfl
  · cases h; kernel_rfl
  · cases h; kernel_rfl
  · cases h; kernel_rfl
  · cases h; kernel_rfl
  · cases h; kernel_rfl
  · cases h; kernel_rfl
  · cases h; kernel_rfl
  · cases h; kernel_rfl
  · cases h; kernel_rfl
  · cases h; kernel_rfl
  · cases h; kernel_rfl
  · cases h; kernel_rfl
  · cases h; kernel_rfl
  · cases h; kernel_rfl
  · cases h; kernel_rfl
  · cases h; kernel_rfl
  · cases h; kernel_rfl
  · cases h; kernel_rfl
  · cases h; kernel_rfl
  · cases h; kernel_rfl
  · cases h; kernel_rfl
  · cases h; kernel_rfl
  · cases h; kernel_rfl
  · cases h; kernel_rfl
  · cases h; kernel_rfl
  · cases h; kernel_rfl
  · cases h; kernel_rfl
  · cases h; kernel_rfl
  · cases h; kernel_rfl
  · cases h; kernel_rfl
  · cases h; kernel_rfl
  · cases h; kernel_rfl
  · cases h; kernel_rfl
  · cases h; kernel_rfl
  · cases h; kernel_rfl
  · cases h; kernel_rfl
  · cases h; kernel_rfl
  · cases h; kernel_rfl
  · cases h; kernel_rfl
  · cases h; kernel_rfl
  · cases h; kernel_rfl
  · cases h; kernel_rfl
  · cases h; kernel_rfl
  · cases h; kernel_rfl
  · cases h; kernel_rfl
  · cases h; kernel_rfl
  · cases h; kernel_rfl
  · cases h; kernel_rfl
  · cases h; kernel_rfl
  · cases h; kernel_rfl
  · cases h; kernel_rfl
  · cases h; kernel_rfl
  · cases h; kernel_rfl
  · cases h; kernel_rfl
  · cases h; kernel_rfl
  · cases h; kernel_rfl
  · cases h; kernel_rfl
  · cases h; kernel_rfl
  · cases h; kernel_rfl
  · cases h; kernel_rfl
  · cases h; kernel_rfl
  · cases h; kernel_rfl
  · cases h; kernel_rfl
  · cases h; kernel_rfl
  · cases h; kernel_rfl
  · cases h; kernel_rfl
  · cases h; kernel_rfl
  · cases h; kernel_rfl
  · cases h; kernel_rfl
  · cases h; kernel_rfl
  · cases h; kernel_rfl
  · cases h; kernel_rfl
  · cases h; kernel_rfl
  · cases h; kernel_rfl
  · cases h; kernel_rfl
  · cases h; kernel_rfl
  · cases h; kernel_rfl
  · cases h; kernel_rfl
  · cases h; kernel_rfl
  · cases h; kernel_rfl
  · cases h; kernel_rfl
  · cases h; kernel_rfl
  · cases h; kernel_rfl
  · cases h
def InfoP (t : Nat) (z : List AV) (s b : Nat) : Prop := ∃ i zv, Tryd.prog.info? t = some i ∧ i.size = s ∧ i.bytes = b ∧ i.zero = some zv ∧ z.length = s ∧ zv.cells = (z.map zval).toArray ∧ (∀ a ∈ z, zcell a = true) ∧
    (∃ d, tabTy t = some d ∧ (isAggD d = false → s = 1)) ∧ ((match (match tabTy t with | some d => some (isAggD d) | none => none) with | some true => true | _ => false) = false → zv.cells = #[zv])
theorem inf2 : InfoP 2 [.sc (.int .i64 0)] 1 8 := ⟨Tryd.t2, (.int .i64 0), by kernel_rfl, rfl, rfl, by kernel_rfl, rfl, rfl, List.all_eq_true.1 (by rfl), ⟨_, rfl, fun _ => rfl⟩, fun _ => rfl⟩
theorem inf3 : InfoP 3 [.sc (.int .i64 0)] 1 8 := ⟨Tryd.t3, (.int .i64 0), by kernel_rfl, rfl, rfl, by kernel_rfl, rfl, rfl, List.all_eq_true.1 (by rfl), ⟨_, rfl, fun _ => rfl⟩, fun _ => rfl⟩
theorem inf4 : InfoP 4 [.sc (.bool false)] 1 1 := ⟨Tryd.t4, (.bool false), by kernel_rfl, rfl, rfl, by kernel_rfl, rfl, rfl, List.all_eq_true.1 (by rfl), ⟨_, rfl, fun _ => rfl⟩, fun _ => rfl⟩
theorem inf5 : InfoP 5 [.sc (.int .u8 0)] 1 1 := ⟨Tryd.t5, (.int .u8 0), by kernel_rfl, rfl, rfl, by kernel_rfl, rfl, rfl, List.all_eq_true.1 (by rfl), ⟨_, rfl, fun _ => rfl⟩, fun _ => rfl⟩
theorem inf6 : InfoP 6 [.sc (.int .u8 0)] 1 1 := ⟨Tryd.t6, (.int .u8 0), by kernel_rfl, rfl, rfl, by kernel_rfl, rfl, rfl, List.all_eq_true.1 (by rfl), ⟨_, rfl, fun _ => rfl⟩, fun _ => rfl⟩
theorem inf7 : InfoP 7 [.sc (.int .i64 0), .sc (.int .i64 0), .sc (.bool false), .sc (.int .u8 0)] 4 24 := ⟨Tryd.t7, (.agg #[.int .i64 0, .int .i64 0, .bool false, .int .u8 0]), by kernel_rfl, rfl, rfl, by kernel_rfl, rfl, rfl, List.all_eq_true.1 (by rfl), ⟨_, rfl, fun h => nomatch h⟩, fun h => nomatch h⟩
theorem inf8 : InfoP 8 [.sc (.int .i64 0), .sc (.int .i64 0), .sc (.bool false), .sc (.int .u8 0)] 4 24 := ⟨Tryd.t8, (.agg #[.int .i64 0, .int .i64 0, .bool false, .int .u8 0]), by kernel_rfl, rfl, rfl, by kernel_rfl, rfl, rfl, List.all_eq_true.1 (by rfl), ⟨_, rfl, fun h => nomatch h⟩, fun h => nomatch h⟩
theorem inf9 : InfoP 9 [.sc (.string ByteArray.empty)] 1 16 := ⟨Tryd.t9, (.string ByteArray.empty), by kernel_rfl, rfl, rfl, by kernel_rfl, rfl, rfl, List.all_eq_true.1 (by rfl), ⟨_, rfl, fun _ => rfl⟩, fun _ => rfl⟩
theorem inf10 : InfoP 10 [.sc (.string ByteArray.empty)] 1 16 := ⟨Tryd.t10, (.string ByteArray.empty), by kernel_rfl, rfl, rfl, by kernel_rfl, rfl, rfl, List.all_eq_true.1 (by rfl), ⟨_, rfl, fun _ => rfl⟩, fun _ => rfl⟩
theorem inf11 : InfoP 11 [.sc (.string ByteArray.empty)] 1 16 := ⟨Tryd.t11, (.string ByteArray.empty), by kernel_rfl, rfl, rfl, by kernel_rfl, rfl, rfl, List.all_eq_true.1 (by rfl), ⟨_, rfl, fun _ => rfl⟩, fun _ => rfl⟩
theorem inf12 : InfoP 12 [.sc (.int .u64 0)] 1 8 := ⟨Tryd.t12, (.int .u64 0), by kernel_rfl, rfl, rfl, by kernel_rfl, rfl, rfl, List.all_eq_true.1 (by rfl), ⟨_, rfl, fun _ => rfl⟩, fun _ => rfl⟩
theorem inf13 : InfoP 13 [.sc (.string ByteArray.empty), .sc (.int .u64 0)] 2 24 := ⟨Tryd.t13, (.agg #[.string ByteArray.empty, .int .u64 0]), by kernel_rfl, rfl, rfl, by kernel_rfl, rfl, rfl, List.all_eq_true.1 (by rfl), ⟨_, rfl, fun h => nomatch h⟩, fun h => nomatch h⟩
theorem inf14 : InfoP 14 [.sc (.string ByteArray.empty), .sc (.int .u64 0)] 2 24 := ⟨Tryd.t14, (.agg #[.string ByteArray.empty, .int .u64 0]), by kernel_rfl, rfl, rfl, by kernel_rfl, rfl, rfl, List.all_eq_true.1 (by rfl), ⟨_, rfl, fun h => nomatch h⟩, fun h => nomatch h⟩
theorem inf15 : InfoP 15 [.sc (.pointer none)] 1 8 := ⟨Tryd.t15, (.pointer none), by kernel_rfl, rfl, rfl, by kernel_rfl, rfl, rfl, List.all_eq_true.1 (by rfl), ⟨_, rfl, fun _ => rfl⟩, fun _ => rfl⟩
theorem inf16 : InfoP 16 [.sc (.pointer none)] 1 8 := ⟨Tryd.t16, (.pointer none), by kernel_rfl, rfl, rfl, by kernel_rfl, rfl, rfl, List.all_eq_true.1 (by rfl), ⟨_, rfl, fun _ => rfl⟩, fun _ => rfl⟩
theorem inf17 : InfoP 17 [.sc (.pointer none)] 1 8 := ⟨Tryd.t17, (.pointer none), by kernel_rfl, rfl, rfl, by kernel_rfl, rfl, rfl, List.all_eq_true.1 (by rfl), ⟨_, rfl, fun _ => rfl⟩, fun _ => rfl⟩
theorem inf18 : InfoP 18 [.sc (.pointer none)] 1 8 := ⟨Tryd.t18, (.agg #[.pointer none]), by kernel_rfl, rfl, rfl, by kernel_rfl, rfl, rfl, List.all_eq_true.1 (by rfl), ⟨_, rfl, fun h => nomatch h⟩, fun h => nomatch h⟩
theorem inf19 : InfoP 19 [.sc (.pointer none)] 1 8 := ⟨Tryd.t19, (.agg #[.pointer none]), by kernel_rfl, rfl, rfl, by kernel_rfl, rfl, rfl, List.all_eq_true.1 (by rfl), ⟨_, rfl, fun h => nomatch h⟩, fun h => nomatch h⟩
theorem inf21 : InfoP 21 [.sc (.int .i32 0)] 1 4 := ⟨Tryd.t21, (.int .i32 0), by kernel_rfl, rfl, rfl, by kernel_rfl, rfl, rfl, List.all_eq_true.1 (by rfl), ⟨_, rfl, fun _ => rfl⟩, fun _ => rfl⟩
theorem inf22 : InfoP 22 [.sl 3 []] 1 24 := ⟨Tryd.t22, (.slice none 0 0), by kernel_rfl, rfl, rfl, by kernel_rfl, rfl, rfl, List.all_eq_true.1 (by rfl), ⟨_, rfl, fun _ => rfl⟩, fun _ => rfl⟩
theorem inf23 : InfoP 23 [.sl 105 []] 1 24 := ⟨Tryd.t23, (.slice none 0 0), by kernel_rfl, rfl, rfl, by kernel_rfl, rfl, rfl, List.all_eq_true.1 (by rfl), ⟨_, rfl, fun _ => rfl⟩, fun _ => rfl⟩
theorem inf24 : InfoP 24 [.sl 103 []] 1 24 := ⟨Tryd.t24, (.slice none 0 0), by kernel_rfl, rfl, rfl, by kernel_rfl, rfl, rfl, List.all_eq_true.1 (by rfl), ⟨_, rfl, fun _ => rfl⟩, fun _ => rfl⟩
theorem inf25 : InfoP 25 [.sc (.int .i64 0), .sc (.int .i64 0), .sl 3 [], .sc (.int .i64 0), .sl 105 [], .sl 103 []] 6 96 := ⟨Tryd.t25, (.agg #[.int .i64 0, .int .i64 0, .slice none 0 0, .int .i64 0, .slice none 0 0, .slice none 0 0]), by kernel_rfl, rfl, rfl, by kernel_rfl, rfl, rfl, List.all_eq_true.1 (by rfl), ⟨_, rfl, fun h => nomatch h⟩, fun h => nomatch h⟩
theorem inf26 : InfoP 26 [.sc (.int .i64 0), .sc (.int .i64 0), .sl 3 [], .sc (.int .i64 0), .sl 105 [], .sl 103 []] 6 96 := ⟨Tryd.t26, (.agg #[.int .i64 0, .int .i64 0, .slice none 0 0, .int .i64 0, .slice none 0 0, .slice none 0 0]), by kernel_rfl, rfl, rfl, by kernel_rfl, rfl, rfl, List.all_eq_true.1 (by rfl), ⟨_, rfl, fun h => nomatch h⟩, fun h => nomatch h⟩
theorem inf28 : InfoP 28 [.sl 97 []] 1 24 := ⟨Tryd.t28, (.slice none 0 0), by kernel_rfl, rfl, rfl, by kernel_rfl, rfl, rfl, List.all_eq_true.1 (by rfl), ⟨_, rfl, fun _ => rfl⟩, fun _ => rfl⟩
theorem inf29 : InfoP 29 [.sc (.int .i64 0), .sc (.int .i64 0), .sc (.int .i64 0), .sc (.int .i64 0), .sl 97 []] 5 56 := ⟨Tryd.t29, (.agg #[.int .i64 0, .int .i64 0, .int .i64 0, .int .i64 0, .slice none 0 0]), by kernel_rfl, rfl, rfl, by kernel_rfl, rfl, rfl, List.all_eq_true.1 (by rfl), ⟨_, rfl, fun h => nomatch h⟩, fun h => nomatch h⟩
theorem inf30 : InfoP 30 [.sc (.int .i64 0), .sc (.int .i64 0), .sc (.int .i64 0), .sc (.int .i64 0), .sl 97 []] 5 56 := ⟨Tryd.t30, (.agg #[.int .i64 0, .int .i64 0, .int .i64 0, .int .i64 0, .slice none 0 0]), by kernel_rfl, rfl, rfl, by kernel_rfl, rfl, rfl, List.all_eq_true.1 (by rfl), ⟨_, rfl, fun h => nomatch h⟩, fun h => nomatch h⟩
theorem inf31 : InfoP 31 [.sl 22 []] 1 24 := ⟨Tryd.t31, (.slice none 0 0), by kernel_rfl, rfl, rfl, by kernel_rfl, rfl, rfl, List.all_eq_true.1 (by rfl), ⟨_, rfl, fun _ => rfl⟩, fun _ => rfl⟩
theorem inf32 : InfoP 32 [.sc (.int .i64 0)] 1 8 := ⟨Tryd.t32, (.int .i64 0), by kernel_rfl, rfl, rfl, by kernel_rfl, rfl, rfl, List.all_eq_true.1 (by rfl), ⟨_, rfl, fun _ => rfl⟩, fun _ => rfl⟩
theorem inf48 : InfoP 48 [.sl 52 []] 1 24 := ⟨Tryd.t48, (.slice none 0 0), by kernel_rfl, rfl, rfl, by kernel_rfl, rfl, rfl, List.all_eq_true.1 (by rfl), ⟨_, rfl, fun _ => rfl⟩, fun _ => rfl⟩
theorem inf52 : InfoP 52 [.sc (.int .i64 0), .sc (.int .i64 0)] 2 16 := ⟨Tryd.t52, (.agg #[.int .i64 0, .int .i64 0]), by kernel_rfl, rfl, rfl, by kernel_rfl, rfl, rfl, List.all_eq_true.1 (by rfl), ⟨_, rfl, fun h => nomatch h⟩, fun h => nomatch h⟩
theorem inf90 : InfoP 90 [.sl 3 [], .sc (.int .i64 0)] 2 32 := ⟨Tryd.t90, (.agg #[.slice none 0 0, .int .i64 0]), by kernel_rfl, rfl, rfl, by kernel_rfl, rfl, rfl, List.all_eq_true.1 (by rfl), ⟨_, rfl, fun h => nomatch h⟩, fun h => nomatch h⟩
theorem inf91 : InfoP 91 [.sl 3 [], .sc (.int .i64 0)] 2 32 := ⟨Tryd.t91, (.agg #[.slice none 0 0, .int .i64 0]), by kernel_rfl, rfl, rfl, by kernel_rfl, rfl, rfl, List.all_eq_true.1 (by rfl), ⟨_, rfl, fun h => nomatch h⟩, fun h => nomatch h⟩
theorem inf96 : InfoP 96 [.sc (.int .i64 0), .sc (.int .i64 0), .sc (.int .i64 0), .sc (.int .i64 0)] 4 32 := ⟨Tryd.t96, (.agg #[.int .i64 0, .int .i64 0, .int .i64 0, .int .i64 0]), by kernel_rfl, rfl, rfl, by kernel_rfl, rfl, rfl, List.all_eq_true.1 (by rfl), ⟨_, rfl, fun h => nomatch h⟩, fun h => nomatch h⟩
theorem inf97 : InfoP 97 [.sc (.int .i64 0), .sc (.int .i64 0), .sc (.int .i64 0), .sc (.int .i64 0)] 4 32 := ⟨Tryd.t97, (.agg #[.int .i64 0, .int .i64 0, .int .i64 0, .int .i64 0]), by kernel_rfl, rfl, rfl, by kernel_rfl, rfl, rfl, List.all_eq_true.1 (by rfl), ⟨_, rfl, fun h => nomatch h⟩, fun h => nomatch h⟩
theorem inf98 : InfoP 98 [.sl 141 []] 1 24 := ⟨Tryd.t98, (.slice none 0 0), by kernel_rfl, rfl, rfl, by kernel_rfl, rfl, rfl, List.all_eq_true.1 (by rfl), ⟨_, rfl, fun _ => rfl⟩, fun _ => rfl⟩
theorem inf99 : InfoP 99 [.sl 139 []] 1 24 := ⟨Tryd.t99, (.slice none 0 0), by kernel_rfl, rfl, rfl, by kernel_rfl, rfl, rfl, List.all_eq_true.1 (by rfl), ⟨_, rfl, fun _ => rfl⟩, fun _ => rfl⟩
theorem inf100 : InfoP 100 [.sc (.int .i64 0), .sc (.int .i64 0)] 2 16 := ⟨Tryd.t100, (.agg #[.int .i64 0, .int .i64 0]), by kernel_rfl, rfl, rfl, by kernel_rfl, rfl, rfl, List.all_eq_true.1 (by rfl), ⟨_, rfl, fun h => nomatch h⟩, fun h => nomatch h⟩
theorem inf101 : InfoP 101 [.sc (.int .i64 0), .sc (.int .i64 0)] 2 16 := ⟨Tryd.t101, (.agg #[.int .i64 0, .int .i64 0]), by kernel_rfl, rfl, rfl, by kernel_rfl, rfl, rfl, List.all_eq_true.1 (by rfl), ⟨_, rfl, fun h => nomatch h⟩, fun h => nomatch h⟩
theorem inf102 : InfoP 102 [.sc (.int .i64 0), .sc (.int .i64 0), .sc (.int .i64 0), .sl 141 [], .sl 139 [], .sc (.int .i64 0), .sc (.int .i64 0)] 7 88 := ⟨Tryd.t102, (.agg #[.int .i64 0, .int .i64 0, .int .i64 0, .slice none 0 0, .slice none 0 0, .int .i64 0, .int .i64 0]), by kernel_rfl, rfl, rfl, by kernel_rfl, rfl, rfl, List.all_eq_true.1 (by rfl), ⟨_, rfl, fun h => nomatch h⟩, fun h => nomatch h⟩
theorem inf103 : InfoP 103 [.sc (.int .i64 0), .sc (.int .i64 0), .sc (.int .i64 0), .sl 141 [], .sl 139 [], .sc (.int .i64 0), .sc (.int .i64 0)] 7 88 := ⟨Tryd.t103, (.agg #[.int .i64 0, .int .i64 0, .int .i64 0, .slice none 0 0, .slice none 0 0, .int .i64 0, .int .i64 0]), by kernel_rfl, rfl, rfl, by kernel_rfl, rfl, rfl, List.all_eq_true.1 (by rfl), ⟨_, rfl, fun h => nomatch h⟩, fun h => nomatch h⟩
theorem inf104 : InfoP 104 [.sc (.int .i64 0), .sc (.int .i64 0), .sc (.int .i64 0)] 3 24 := ⟨Tryd.t104, (.agg #[.int .i64 0, .int .i64 0, .int .i64 0]), by kernel_rfl, rfl, rfl, by kernel_rfl, rfl, rfl, List.all_eq_true.1 (by rfl), ⟨_, rfl, fun h => nomatch h⟩, fun h => nomatch h⟩
theorem inf105 : InfoP 105 [.sc (.int .i64 0), .sc (.int .i64 0), .sc (.int .i64 0)] 3 24 := ⟨Tryd.t105, (.agg #[.int .i64 0, .int .i64 0, .int .i64 0]), by kernel_rfl, rfl, rfl, by kernel_rfl, rfl, rfl, List.all_eq_true.1 (by rfl), ⟨_, rfl, fun h => nomatch h⟩, fun h => nomatch h⟩
theorem inf118 : InfoP 118 [.sl 121 []] 1 24 := ⟨Tryd.t118, (.slice none 0 0), by kernel_rfl, rfl, rfl, by kernel_rfl, rfl, rfl, List.all_eq_true.1 (by rfl), ⟨_, rfl, fun _ => rfl⟩, fun _ => rfl⟩
theorem inf119 : InfoP 119 [.sl 121 []] 1 24 := ⟨Tryd.t119, (.slice none 0 0), by kernel_rfl, rfl, rfl, by kernel_rfl, rfl, rfl, List.all_eq_true.1 (by rfl), ⟨_, rfl, fun _ => rfl⟩, fun _ => rfl⟩
theorem inf121 : InfoP 121 [.sl 122 []] 1 24 := ⟨Tryd.t121, (.slice none 0 0), by kernel_rfl, rfl, rfl, by kernel_rfl, rfl, rfl, List.all_eq_true.1 (by rfl), ⟨_, rfl, fun _ => rfl⟩, fun _ => rfl⟩
theorem inf122 : InfoP 122 [.sc (.pointer none)] 1 8 := ⟨Tryd.t122, (.pointer none), by kernel_rfl, rfl, rfl, by kernel_rfl, rfl, rfl, List.all_eq_true.1 (by rfl), ⟨_, rfl, fun _ => rfl⟩, fun _ => rfl⟩
theorem inf126 : InfoP 126 [.sl 130 []] 1 24 := ⟨Tryd.t126, (.slice none 0 0), by kernel_rfl, rfl, rfl, by kernel_rfl, rfl, rfl, List.all_eq_true.1 (by rfl), ⟨_, rfl, fun _ => rfl⟩, fun _ => rfl⟩
theorem inf129 : InfoP 129 [.sc (.int .i64 0), .sc (.int .i64 0), .sl 3 []] 3 40 := ⟨Tryd.t129, (.agg #[.int .i64 0, .int .i64 0, .slice none 0 0]), by kernel_rfl, rfl, rfl, by kernel_rfl, rfl, rfl, List.all_eq_true.1 (by rfl), ⟨_, rfl, fun h => nomatch h⟩, fun h => nomatch h⟩
theorem inf130 : InfoP 130 [.sc (.int .i64 0), .sc (.int .i64 0), .sl 3 []] 3 40 := ⟨Tryd.t130, (.agg #[.int .i64 0, .int .i64 0, .slice none 0 0]), by kernel_rfl, rfl, rfl, by kernel_rfl, rfl, rfl, List.all_eq_true.1 (by rfl), ⟨_, rfl, fun h => nomatch h⟩, fun h => nomatch h⟩
theorem inf138 : InfoP 138 [.sc (.int .i64 0), .sc (.int .i64 0), .sc (.int .i64 0), .sc (.int .i64 0), .sc (.int .i64 0), .sc (.bool false)] 6 48 := ⟨Tryd.t138, (.agg #[.int .i64 0, .int .i64 0, .int .i64 0, .int .i64 0, .int .i64 0, .bool false]), by kernel_rfl, rfl, rfl, by kernel_rfl, rfl, rfl, List.all_eq_true.1 (by rfl), ⟨_, rfl, fun h => nomatch h⟩, fun h => nomatch h⟩
theorem inf139 : InfoP 139 [.sc (.int .i64 0), .sc (.int .i64 0), .sc (.int .i64 0), .sc (.int .i64 0), .sc (.int .i64 0), .sc (.bool false)] 6 48 := ⟨Tryd.t139, (.agg #[.int .i64 0, .int .i64 0, .int .i64 0, .int .i64 0, .int .i64 0, .bool false]), by kernel_rfl, rfl, rfl, by kernel_rfl, rfl, rfl, List.all_eq_true.1 (by rfl), ⟨_, rfl, fun h => nomatch h⟩, fun h => nomatch h⟩
theorem inf140 : InfoP 140 [.sc (.int .i64 0), .sc (.int .i64 0), .sc (.int .i64 0), .sc (.int .i64 0), .sc (.int .i64 0)] 5 40 := ⟨Tryd.t140, (.agg #[.int .i64 0, .int .i64 0, .int .i64 0, .int .i64 0, .int .i64 0]), by kernel_rfl, rfl, rfl, by kernel_rfl, rfl, rfl, List.all_eq_true.1 (by rfl), ⟨_, rfl, fun h => nomatch h⟩, fun h => nomatch h⟩
theorem inf141 : InfoP 141 [.sc (.int .i64 0), .sc (.int .i64 0), .sc (.int .i64 0), .sc (.int .i64 0), .sc (.int .i64 0)] 5 40 := ⟨Tryd.t141, (.agg #[.int .i64 0, .int .i64 0, .int .i64 0, .int .i64 0, .int .i64 0]), by kernel_rfl, rfl, rfl, by kernel_rfl, rfl, rfl, List.all_eq_true.1 (by rfl), ⟨_, rfl, fun h => nomatch h⟩, fun h => nomatch h⟩
theorem inf142 : InfoP 142 [.sl 9 []] 1 24 := ⟨Tryd.t142, (.slice none 0 0), by kernel_rfl, rfl, rfl, by kernel_rfl, rfl, rfl, List.all_eq_true.1 (by rfl), ⟨_, rfl, fun _ => rfl⟩, fun _ => rfl⟩
theorem inf147 : InfoP 147 [.sl 91 []] 1 24 := ⟨Tryd.t147, (.slice none 0 0), by kernel_rfl, rfl, rfl, by kernel_rfl, rfl, rfl, List.all_eq_true.1 (by rfl), ⟨_, rfl, fun _ => rfl⟩, fun _ => rfl⟩
theorem inf151 : InfoP 151 [.sl 32 []] 1 24 := ⟨Tryd.t151, (.slice none 0 0), by kernel_rfl, rfl, rfl, by kernel_rfl, rfl, rfl, List.all_eq_true.1 (by rfl), ⟨_, rfl, fun _ => rfl⟩, fun _ => rfl⟩
theorem inf161 : InfoP 161 [.sc (.int .u64 0)] 1 8 := ⟨Tryd.t161, (.int .u64 0), by kernel_rfl, rfl, rfl, by kernel_rfl, rfl, rfl, List.all_eq_true.1 (by rfl), ⟨_, rfl, fun _ => rfl⟩, fun _ => rfl⟩
theorem inf164 : InfoP 164 [.sc (.pointer none)] 1 8 := ⟨Tryd.t164, (.pointer none), by kernel_rfl, rfl, rfl, by kernel_rfl, rfl, rfl, List.all_eq_true.1 (by rfl), ⟨_, rfl, fun _ => rfl⟩, fun _ => rfl⟩
theorem inf165 : InfoP 165 [.sl 5 []] 1 24 := ⟨Tryd.t165, (.slice none 0 0), by kernel_rfl, rfl, rfl, by kernel_rfl, rfl, rfl, List.all_eq_true.1 (by rfl), ⟨_, rfl, fun _ => rfl⟩, fun _ => rfl⟩
theorem inf166 : InfoP 166 [.sc (.pointer none), .sl 5 []] 2 32 := ⟨Tryd.t166, (.agg #[.pointer none, .slice none 0 0]), by kernel_rfl, rfl, rfl, by kernel_rfl, rfl, rfl, List.all_eq_true.1 (by rfl), ⟨_, rfl, fun h => nomatch h⟩, fun h => nomatch h⟩
theorem inf167 : InfoP 167 [.sc (.pointer none), .sl 5 []] 2 32 := ⟨Tryd.t167, (.agg #[.pointer none, .slice none 0 0]), by kernel_rfl, rfl, rfl, by kernel_rfl, rfl, rfl, List.all_eq_true.1 (by rfl), ⟨_, rfl, fun h => nomatch h⟩, fun h => nomatch h⟩
theorem inf179 : InfoP 179 [.sc (.int .u32 0)] 1 4 := ⟨Tryd.t179, (.int .u32 0), by kernel_rfl, rfl, rfl, by kernel_rfl, rfl, rfl, List.all_eq_true.1 (by rfl), ⟨_, rfl, fun _ => rfl⟩, fun _ => rfl⟩
theorem info_ok : ∀ t z s b, tabInfo t = some (z, s, b) → InfoP t z s b := by
  intro t z s b h
  unfold tabInfo at h
  split at h
  · cases h; exact inf2
  · cases h; exact inf3
  · cases h; exact inf4
  · cases h; exact inf5
  · cases h; exact inf6
  · cases h; exact inf7
  · cases h; exact inf8
  · cases h; exact inf9
  · cases h; exact inf10
  · cases h; exact inf11
  · cases h; exact inf12
  · cases h; exact inf13
  · cases h; exact inf14
  · cases h; exact inf15
  · cases h; exact inf16
  · cases h; exact inf17
  · cases h; exact inf18
  · cases h; exact inf19
  · cases h; exact inf21
  · cases h; exact inf22
  · cases h; exact inf23
  · cases h; exact inf24
  · cases h; exact inf25
  · cases h; exact inf26
  · cases h; exact inf28
  · cases h; exact inf29
  · cases h; exact inf30
  · cases h; exact inf31
  · cases h; exact inf32
  · cases h; exact inf48
  · cases h; exact inf52
  · cases h; exact inf90
  · cases h; exact inf91
  · cases h; exact inf96
  · cases h; exact inf97
  · cases h; exact inf98
  · cases h; exact inf99
  · cases h; exact inf100
  · cases h; exact inf101
  · cases h; exact inf102
  · cases h; exact inf103
  · cases h; exact inf104
  · cases h; exact inf105
  · cases h; exact inf118
  · cases h; exact inf119
  · cases h; exact inf121
  · cases h; exact inf122
  · cases h; exact inf126
  · cases h; exact inf129
  · cases h; exact inf130
  · cases h; exact inf138
  · cases h; exact inf139
  · cases h; exact inf140
  · cases h; exact inf141
  · cases h; exact inf142
  · cases h; exact inf147
  · cases h; exact inf151
  · cases h; exact inf161
  · cases h; exact inf164
  · cases h; exact inf165
  · cases h; exact inf166
  · cases h; exact inf167
  · cases h; exact inf179
  · cases h
theorem elem_ok : ∀ t e, tabTy t = some (.slice e) → ∃ i, tabInfo e = some i := by
  intro t e h
  unfold tabTy at h
  split at h
  · cases h
  · cases h
  · cases h
  · cases h
  · cases h
  · cases h
  · cases h
  · cases h
  · cases h
  · cases h
  · cases h
  · cases h
  · cases h
  · cases h
  · cases h; exact ⟨_, rfl⟩
  · cases h; exact ⟨_, rfl⟩
  · cases h; exact ⟨_, rfl⟩
  · cases h; exact ⟨_, rfl⟩
  · cases h; exact ⟨_, rfl⟩
  · cases h
  · cases h
  · cases h
  · cases h
  · cases h
  · cases h; exact ⟨_, rfl⟩
  · cases h
  · cases h
  · cases h
  · cases h
  · cases h
  · cases h
  · cases h
  · cases h
  · cases h
  · cases h
  · cases h
  · cases h
  · cases h
  · cases h
  · cases h; exact ⟨_, rfl⟩
  · cases h; exact ⟨_, rfl⟩
  · cases h
  · cases h; exact ⟨_, rfl⟩
  · cases h; exact ⟨_, rfl⟩
  · cases h; exact ⟨_, rfl⟩
  · cases h
  · cases h; exact ⟨_, rfl⟩
  · cases h
  · cases h
  · cases h
  · cases h
  · cases h; exact ⟨_, rfl⟩
  · cases h; exact ⟨_, rfl⟩
  · cases h
  · cases h; exact ⟨_, rfl⟩
  · cases h
  · cases h
  · cases h
  · cases h; exact ⟨_, rfl⟩
  · cases h
  · cases h
  · cases h
  · cases h
  · cases h
  · cases h
  · cases h
  · cases h
  · cases h
  · cases h
  · cases h
  · cases h
  · cases h
  · cases h
  · cases h
  · cases h
  · cases h
  · cases h
  · cases h
  · cases h
  · cases h
  · cases h
  · cases h
  · cases h
  · cases h
  · cases h
  · cases h
  · cases h
  · cases h
  · cases h
  · cases h
theorem fl7 : ∀ fs, TD7 = .struct fs → ∀ f ∈ fs.toList, ∃ i, Tryd.prog.info? f.type = some i := by
  intro fs h f hf
  unfold TD7 at h
  cases h
  simp only [List.mem_cons, List.not_mem_nil, or_false] at hf
  rcases hf with rfl | rfl | rfl | rfl
  · exact ⟨Tryd.t2, by kernel_rfl⟩
  · exact ⟨Tryd.t3, by kernel_rfl⟩
  · exact ⟨Tryd.t4, by kernel_rfl⟩
  · exact ⟨Tryd.t6, by kernel_rfl⟩
theorem fl13 : ∀ fs, TD13 = .struct fs → ∀ f ∈ fs.toList, ∃ i, Tryd.prog.info? f.type = some i := by
  intro fs h f hf
  unfold TD13 at h
  cases h
  simp only [List.mem_cons, List.not_mem_nil, or_false] at hf
  rcases hf with rfl | rfl
  · exact ⟨Tryd.t9, by kernel_rfl⟩
  · exact ⟨Tryd.t12, by kernel_rfl⟩
theorem fl18 : ∀ fs, TD18 = .struct fs → ∀ f ∈ fs.toList, ∃ i, Tryd.prog.info? f.type = some i := by
  intro fs h f hf
  unfold TD18 at h
  cases h
  simp only [List.mem_cons, List.not_mem_nil, or_false] at hf
  subst hf
  · exact ⟨Tryd.t17, by kernel_rfl⟩
theorem fl25 : ∀ fs, TD25 = .struct fs → ∀ f ∈ fs.toList, ∃ i, Tryd.prog.info? f.type = some i := by
  intro fs h f hf
  unfold TD25 at h
  cases h
  simp only [List.mem_cons, List.not_mem_nil, or_false] at hf
  rcases hf with rfl | rfl | rfl | rfl | rfl | rfl
  · exact ⟨Tryd.t3, by kernel_rfl⟩
  · exact ⟨Tryd.t3, by kernel_rfl⟩
  · exact ⟨Tryd.t22, by kernel_rfl⟩
  · exact ⟨Tryd.t3, by kernel_rfl⟩
  · exact ⟨Tryd.t23, by kernel_rfl⟩
  · exact ⟨Tryd.t24, by kernel_rfl⟩
theorem fl29 : ∀ fs, TD29 = .struct fs → ∀ f ∈ fs.toList, ∃ i, Tryd.prog.info? f.type = some i := by
  intro fs h f hf
  unfold TD29 at h
  cases h
  simp only [List.mem_cons, List.not_mem_nil, or_false] at hf
  rcases hf with rfl | rfl | rfl | rfl | rfl
  · exact ⟨Tryd.t3, by kernel_rfl⟩
  · exact ⟨Tryd.t3, by kernel_rfl⟩
  · exact ⟨Tryd.t3, by kernel_rfl⟩
  · exact ⟨Tryd.t3, by kernel_rfl⟩
  · exact ⟨Tryd.t28, by kernel_rfl⟩
theorem fl90 : ∀ fs, TD90 = .struct fs → ∀ f ∈ fs.toList, ∃ i, Tryd.prog.info? f.type = some i := by
  intro fs h f hf
  unfold TD90 at h
  cases h
  simp only [List.mem_cons, List.not_mem_nil, or_false] at hf
  rcases hf with rfl | rfl
  · exact ⟨Tryd.t22, by kernel_rfl⟩
  · exact ⟨Tryd.t3, by kernel_rfl⟩
theorem fl96 : ∀ fs, TD96 = .struct fs → ∀ f ∈ fs.toList, ∃ i, Tryd.prog.info? f.type = some i := by
  intro fs h f hf
  unfold TD96 at h
  cases h
  simp only [List.mem_cons, List.not_mem_nil, or_false] at hf
  rcases hf with rfl | rfl | rfl | rfl
  · exact ⟨Tryd.t3, by kernel_rfl⟩
  · exact ⟨Tryd.t3, by kernel_rfl⟩
  · exact ⟨Tryd.t3, by kernel_rfl⟩
  · exact ⟨Tryd.t3, by kernel_rfl⟩
theorem fl100 : ∀ fs, TD100 = .struct fs → ∀ f ∈ fs.toList, ∃ i, Tryd.prog.info? f.type = some i := by
  intro fs h f hf
  unfold TD100 at h
  cases h
  simp only [List.mem_cons, List.not_mem_nil, or_false] at hf
  rcases hf with rfl | rfl
  · exact ⟨Tryd.t3, by kernel_rfl⟩
  · exact ⟨Tryd.t3, by kernel_rfl⟩
theorem fl102 : ∀ fs, TD102 = .struct fs → ∀ f ∈ fs.toList, ∃ i, Tryd.prog.info? f.type = some i := by
  intro fs h f hf
  unfold TD102 at h
  cases h
  simp only [List.mem_cons, List.not_mem_nil, or_false] at hf
  rcases hf with rfl | rfl | rfl | rfl | rfl | rfl
  · exact ⟨Tryd.t3, by kernel_rfl⟩
  · exact ⟨Tryd.t3, by kernel_rfl⟩
  · exact ⟨Tryd.t3, by kernel_rfl⟩
  · exact ⟨Tryd.t98, by kernel_rfl⟩
  · exact ⟨Tryd.t99, by kernel_rfl⟩
  · exact ⟨Tryd.t101, by kernel_rfl⟩
theorem fl104 : ∀ fs, TD104 = .struct fs → ∀ f ∈ fs.toList, ∃ i, Tryd.prog.info? f.type = some i := by
  intro fs h f hf
  unfold TD104 at h
  cases h
  simp only [List.mem_cons, List.not_mem_nil, or_false] at hf
  rcases hf with rfl | rfl | rfl
  · exact ⟨Tryd.t3, by kernel_rfl⟩
  · exact ⟨Tryd.t3, by kernel_rfl⟩
  · exact ⟨Tryd.t3, by kernel_rfl⟩
theorem fl129 : ∀ fs, TD129 = .struct fs → ∀ f ∈ fs.toList, ∃ i, Tryd.prog.info? f.type = some i := by
  intro fs h f hf
  unfold TD129 at h
  cases h
  simp only [List.mem_cons, List.not_mem_nil, or_false] at hf
  rcases hf with rfl | rfl | rfl
  · exact ⟨Tryd.t3, by kernel_rfl⟩
  · exact ⟨Tryd.t3, by kernel_rfl⟩
  · exact ⟨Tryd.t22, by kernel_rfl⟩
theorem fl138 : ∀ fs, TD138 = .struct fs → ∀ f ∈ fs.toList, ∃ i, Tryd.prog.info? f.type = some i := by
  intro fs h f hf
  unfold TD138 at h
  cases h
  simp only [List.mem_cons, List.not_mem_nil, or_false] at hf
  rcases hf with rfl | rfl | rfl | rfl
  · exact ⟨Tryd.t3, by kernel_rfl⟩
  · exact ⟨Tryd.t101, by kernel_rfl⟩
  · exact ⟨Tryd.t101, by kernel_rfl⟩
  · exact ⟨Tryd.t4, by kernel_rfl⟩
theorem fl140 : ∀ fs, TD140 = .struct fs → ∀ f ∈ fs.toList, ∃ i, Tryd.prog.info? f.type = some i := by
  intro fs h f hf
  unfold TD140 at h
  cases h
  simp only [List.mem_cons, List.not_mem_nil, or_false] at hf
  rcases hf with rfl | rfl | rfl
  · exact ⟨Tryd.t3, by kernel_rfl⟩
  · exact ⟨Tryd.t101, by kernel_rfl⟩
  · exact ⟨Tryd.t101, by kernel_rfl⟩
theorem fl166 : ∀ fs, TD166 = .struct fs → ∀ f ∈ fs.toList, ∃ i, Tryd.prog.info? f.type = some i := by
  intro fs h f hf
  unfold TD166 at h
  cases h
  simp only [List.mem_cons, List.not_mem_nil, or_false] at hf
  rcases hf with rfl | rfl
  · exact ⟨Tryd.t164, by kernel_rfl⟩
  · exact ⟨Tryd.t165, by kernel_rfl⟩
theorem fld_ok : ∀ T fs, tabTy T = some (.struct fs) → ∀ f ∈ fs.toList, ∃ i, Tryd.prog.info? f.type = some i := by
  intro t fs h
  unfold tabTy at h
  split at h
  · cases h
  · cases h
  · cases h
  · cases h
  · cases h
  · cases h
  · cases h
  · cases h
  · cases h
  · cases h
  · cases h
  · cases h
  · cases h
  · cases h
  · cases h
  · cases h
  · cases h
  · cases h
  · cases h
  · cases h
  · cases h
  · cases h
  · cases h
  · cases h
  · cases h
  · cases h
  · cases h
  · cases h
  · cases h
  · cases h
  · cases h
  · cases h
  · cases h
  · cases h
  · cases h
  · cases h
  · cases h
  · cases h
  · cases h
  · cases h
  · cases h
  · cases h
  · cases h
  · cases h
  · cases h
  · cases h
  · cases h
  · cases h
  · cases h
  · cases h
  · cases h
  · cases h
  · cases h
  · cases h
  · cases h
  · cases h
  · cases h
  · cases h
  · cases h
  · cases h
  · cases h
  · exact fl7 fs (Option.some.inj h)
  · exact fl7 fs (Option.some.inj h)
  · exact fl13 fs (Option.some.inj h)
  · exact fl13 fs (Option.some.inj h)
  · exact fl18 fs (Option.some.inj h)
  · exact fl18 fs (Option.some.inj h)
  · exact fl25 fs (Option.some.inj h)
  · exact fl25 fs (Option.some.inj h)
  · exact fl29 fs (Option.some.inj h)
  · exact fl29 fs (Option.some.inj h)
  · exact fl90 fs (Option.some.inj h)
  · exact fl90 fs (Option.some.inj h)
  · exact fl96 fs (Option.some.inj h)
  · exact fl96 fs (Option.some.inj h)
  · exact fl100 fs (Option.some.inj h)
  · exact fl100 fs (Option.some.inj h)
  · exact fl102 fs (Option.some.inj h)
  · exact fl102 fs (Option.some.inj h)
  · exact fl104 fs (Option.some.inj h)
  · exact fl104 fs (Option.some.inj h)
  · exact fl129 fs (Option.some.inj h)
  · exact fl129 fs (Option.some.inj h)
  · exact fl138 fs (Option.some.inj h)
  · exact fl138 fs (Option.some.inj h)
  · exact fl140 fs (Option.some.inj h)
  · exact fl140 fs (Option.some.inj h)
  · exact fl166 fs (Option.some.inj h)
  · exact fl166 fs (Option.some.inj h)
  · cases h
theorem zsl_ok : ∀ t z s b T l, tabInfo t = some (z, s, b) → .sl T l ∈ z → ∃ i, tabInfo T = some i := by
  intro t z s b T l h hm
  unfold tabInfo at h
  split at h
  · cases h; simp at hm
  · cases h; simp at hm
  · cases h; simp at hm
  · cases h; simp at hm
  · cases h; simp at hm
  · cases h; simp at hm
  · cases h; simp at hm
  · cases h; simp at hm
  · cases h; simp at hm
  · cases h; simp at hm
  · cases h; simp at hm
  · cases h; simp at hm
  · cases h; simp at hm
  · cases h; simp at hm
  · cases h; simp at hm
  · cases h; simp at hm
  · cases h; simp at hm
  · cases h; simp at hm
  · cases h; simp at hm
  · cases h; simp only [List.mem_cons, List.not_mem_nil, or_false, reduceCtorEq, false_or, AV.sl.injEq] at hm
    obtain ⟨rfl, _⟩ := hm <;> exact ⟨_, rfl⟩
  · cases h; simp only [List.mem_cons, List.not_mem_nil, or_false, reduceCtorEq, false_or, AV.sl.injEq] at hm
    obtain ⟨rfl, _⟩ := hm <;> exact ⟨_, rfl⟩
  · cases h; simp only [List.mem_cons, List.not_mem_nil, or_false, reduceCtorEq, false_or, AV.sl.injEq] at hm
    obtain ⟨rfl, _⟩ := hm <;> exact ⟨_, rfl⟩
  · cases h; simp only [List.mem_cons, List.not_mem_nil, or_false, reduceCtorEq, false_or, AV.sl.injEq] at hm
    rcases hm with ⟨rfl, _⟩ | ⟨rfl, _⟩ | ⟨rfl, _⟩ <;> exact ⟨_, rfl⟩
  · cases h; simp only [List.mem_cons, List.not_mem_nil, or_false, reduceCtorEq, false_or, AV.sl.injEq] at hm
    rcases hm with ⟨rfl, _⟩ | ⟨rfl, _⟩ | ⟨rfl, _⟩ <;> exact ⟨_, rfl⟩
  · cases h; simp only [List.mem_cons, List.not_mem_nil, or_false, reduceCtorEq, false_or, AV.sl.injEq] at hm
    obtain ⟨rfl, _⟩ := hm <;> exact ⟨_, rfl⟩
  · cases h; simp only [List.mem_cons, List.not_mem_nil, or_false, reduceCtorEq, false_or, AV.sl.injEq] at hm
    obtain ⟨rfl, _⟩ := hm <;> exact ⟨_, rfl⟩
  · cases h; simp only [List.mem_cons, List.not_mem_nil, or_false, reduceCtorEq, false_or, AV.sl.injEq] at hm
    obtain ⟨rfl, _⟩ := hm <;> exact ⟨_, rfl⟩
  · cases h; simp only [List.mem_cons, List.not_mem_nil, or_false, reduceCtorEq, false_or, AV.sl.injEq] at hm
    obtain ⟨rfl, _⟩ := hm <;> exact ⟨_, rfl⟩
  · cases h; simp at hm
  · cases h; simp only [List.mem_cons, List.not_mem_nil, or_false, reduceCtorEq, false_or, AV.sl.injEq] at hm
    obtain ⟨rfl, _⟩ := hm <;> exact ⟨_, rfl⟩
  · cases h; simp at hm
  · cases h; simp only [List.mem_cons, List.not_mem_nil, or_false, reduceCtorEq, false_or, AV.sl.injEq] at hm
    obtain ⟨rfl, _⟩ := hm <;> exact ⟨_, rfl⟩
  · cases h; simp only [List.mem_cons, List.not_mem_nil, or_false, reduceCtorEq, false_or, AV.sl.injEq] at hm
    obtain ⟨rfl, _⟩ := hm <;> exact ⟨_, rfl⟩
  · cases h; simp at hm
  · cases h; simp at hm
  · cases h; simp only [List.mem_cons, List.not_mem_nil, or_false, reduceCtorEq, false_or, AV.sl.injEq] at hm
    obtain ⟨rfl, _⟩ := hm <;> exact ⟨_, rfl⟩
  · cases h; simp only [List.mem_cons, List.not_mem_nil, or_false, reduceCtorEq, false_or, AV.sl.injEq] at hm
    obtain ⟨rfl, _⟩ := hm <;> exact ⟨_, rfl⟩
  · cases h; simp at hm
  · cases h; simp at hm
  · cases h; simp only [List.mem_cons, List.not_mem_nil, or_false, reduceCtorEq, false_or, AV.sl.injEq] at hm
    rcases hm with ⟨rfl, _⟩ | ⟨rfl, _⟩ <;> exact ⟨_, rfl⟩
  · cases h; simp only [List.mem_cons, List.not_mem_nil, or_false, reduceCtorEq, false_or, AV.sl.injEq] at hm
    rcases hm with ⟨rfl, _⟩ | ⟨rfl, _⟩ <;> exact ⟨_, rfl⟩
  · cases h; simp at hm
  · cases h; simp at hm
  · cases h; simp only [List.mem_cons, List.not_mem_nil, or_false, reduceCtorEq, false_or, AV.sl.injEq] at hm
    obtain ⟨rfl, _⟩ := hm <;> exact ⟨_, rfl⟩
  · cases h; simp only [List.mem_cons, List.not_mem_nil, or_false, reduceCtorEq, false_or, AV.sl.injEq] at hm
    obtain ⟨rfl, _⟩ := hm <;> exact ⟨_, rfl⟩
  · cases h; simp only [List.mem_cons, List.not_mem_nil, or_false, reduceCtorEq, false_or, AV.sl.injEq] at hm
    obtain ⟨rfl, _⟩ := hm <;> exact ⟨_, rfl⟩
  · cases h; simp at hm
  · cases h; simp only [List.mem_cons, List.not_mem_nil, or_false, reduceCtorEq, false_or, AV.sl.injEq] at hm
    obtain ⟨rfl, _⟩ := hm <;> exact ⟨_, rfl⟩
  · cases h; simp only [List.mem_cons, List.not_mem_nil, or_false, reduceCtorEq, false_or, AV.sl.injEq] at hm
    obtain ⟨rfl, _⟩ := hm <;> exact ⟨_, rfl⟩
  · cases h; simp only [List.mem_cons, List.not_mem_nil, or_false, reduceCtorEq, false_or, AV.sl.injEq] at hm
    obtain ⟨rfl, _⟩ := hm <;> exact ⟨_, rfl⟩
  · cases h; simp at hm
  · cases h; simp at hm
  · cases h; simp at hm
  · cases h; simp at hm
  · cases h; simp only [List.mem_cons, List.not_mem_nil, or_false, reduceCtorEq, false_or, AV.sl.injEq] at hm
    obtain ⟨rfl, _⟩ := hm <;> exact ⟨_, rfl⟩
  · cases h; simp only [List.mem_cons, List.not_mem_nil, or_false, reduceCtorEq, false_or, AV.sl.injEq] at hm
    obtain ⟨rfl, _⟩ := hm <;> exact ⟨_, rfl⟩
  · cases h; simp only [List.mem_cons, List.not_mem_nil, or_false, reduceCtorEq, false_or, AV.sl.injEq] at hm
    obtain ⟨rfl, _⟩ := hm <;> exact ⟨_, rfl⟩
  · cases h; simp at hm
  · cases h; simp at hm
  · cases h; simp only [List.mem_cons, List.not_mem_nil, or_false, reduceCtorEq, false_or, AV.sl.injEq] at hm
    obtain ⟨rfl, _⟩ := hm <;> exact ⟨_, rfl⟩
  · cases h; simp only [List.mem_cons, List.not_mem_nil, or_false, reduceCtorEq, false_or, AV.sl.injEq] at hm
    obtain ⟨rfl, _⟩ := hm <;> exact ⟨_, rfl⟩
  · cases h; simp only [List.mem_cons, List.not_mem_nil, or_false, reduceCtorEq, false_or, AV.sl.injEq] at hm
    obtain ⟨rfl, _⟩ := hm <;> exact ⟨_, rfl⟩
  · cases h; simp at hm
  · cases h
theorem eqt52 : eqTypeOk Tryd.prog 52 [.sc (.int .i64 0), .sc (.int .i64 0)] = true := by kernel_rfl
theorem eqt97 : eqTypeOk Tryd.prog 97 [.sc (.int .i64 0), .sc (.int .i64 0), .sc (.int .i64 0), .sc (.int .i64 0)] = true := by kernel_rfl
theorem eq_ok : ∀ t z s b, tabInfo t = some (z, s, b) → (match (match tabTy t with | some d => some (isAggD d) | none => none) with | some true => true | _ => false) = true → tabCmp t = true → z.all isPlain = true → eqTypeOk Tryd.prog t z = true := by
  intro t z s b h ha hm hp
  unfold tabInfo at h
  split at h
  · cases h; exact nomatch ha
  · cases h; exact nomatch ha
  · cases h; exact nomatch ha
  · cases h; exact nomatch ha
  · cases h; exact nomatch ha
  · cases h; exact nomatch hm
  · cases h; exact nomatch hm
  · cases h; exact nomatch ha
  · cases h; exact nomatch ha
  · cases h; exact nomatch ha
  · cases h; exact nomatch ha
  · cases h; exact nomatch hm
  · cases h; exact nomatch hm
  · cases h; exact nomatch ha
  · cases h; exact nomatch ha
  · cases h; exact nomatch ha
  · cases h; exact nomatch hm
  · cases h; exact nomatch hm
  · cases h; exact nomatch ha
  · cases h; exact nomatch ha
  · cases h; exact nomatch ha
  · cases h; exact nomatch ha
  · cases h; exact nomatch hm
  · cases h; exact nomatch hm
  · cases h; exact nomatch ha
  · cases h; exact nomatch hm
  · cases h; exact nomatch hm
  · cases h; exact nomatch ha
  · cases h; exact nomatch ha
  · cases h; exact nomatch ha
  · cases h; exact eqt52
  · cases h; exact nomatch hm
  · cases h; exact nomatch hm
  · cases h; exact nomatch hm
  · cases h; exact eqt97
  · cases h; exact nomatch ha
  · cases h; exact nomatch ha
  · cases h; exact nomatch hm
  · cases h; exact nomatch hm
  · cases h; exact nomatch hm
  · cases h; exact nomatch hm
  · cases h; exact nomatch hm
  · cases h; exact nomatch hm
  · cases h; exact nomatch ha
  · cases h; exact nomatch ha
  · cases h; exact nomatch ha
  · cases h; exact nomatch ha
  · cases h; exact nomatch ha
  · cases h; exact nomatch hm
  · cases h; exact nomatch hm
  · cases h; exact nomatch hm
  · cases h; exact nomatch hm
  · cases h; exact nomatch hm
  · cases h; exact nomatch hm
  · cases h; exact nomatch ha
  · cases h; exact nomatch ha
  · cases h; exact nomatch ha
  · cases h; exact nomatch ha
  · cases h; exact nomatch ha
  · cases h; exact nomatch ha
  · cases h; exact nomatch hm
  · cases h; exact nomatch hm
  · cases h; exact nomatch ha
  · cases h
theorem tab_ok : Tab.Ok tab Tryd.prog := ⟨fun f fn h _ => fn_ok f fn h, ty_ok, info_ok, elem_ok, fld_ok, zsl_ok⟩
theorem tab_eq : EqOk tab Tryd.prog := EqOk.of eq_ok
end Go.Proofs.YtahifpeggdcamaaDoor
