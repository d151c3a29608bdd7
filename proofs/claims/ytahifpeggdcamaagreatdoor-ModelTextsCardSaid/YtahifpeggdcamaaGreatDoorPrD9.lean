/- A part of an interpreter of the model's code that is proved sound, and of laws told by it: DamRowBase. -/
import Derived.Test.YtahifpeggdcamaaGreatDoorRows
import Derived.Test.YtahifpeggdcamaaGreatDoorPrD2
import Derived.Test.YtahifpeggdcamaaGreatDoorPrC7
import Derived.Test.YtahifpeggdcamaaGreatDoorPrD3
import Derived.Test.YtahifpeggdcamaaGreatDoorPrD8
import Derived.Test.YtahifpeggdcamaaGreatDoorPrD4
import Derived.WalkKit
import Derived.ProofKit
import Derived.OpenShut
import Derived.ShutString
import Derived.ChangeOld
import Derived.Below
import Derived.SizedLaws
import Derived.ChangeSame
import Derived.ChangeVars
import Derived.JoinedOf
import Derived.RowKit
import Derived.RowKitTokens
import Derived.LaidLaws
import Derived.LaidHandle
import Derived.Stop.Joined
set_option linter.unusedVariables false
set_option linter.unusedSimpArgs false
/- What all rows of this seat share. -/
namespace Go.Proofs.YtahifpeggdcamaaGreatDoor
open Go.ChangeShapes Go.WideShapes Go.ChangeAt Go.RowKit Go.Dam
theorem own : ownKnob Tryz.prog.godebug = none := by kernel_rfl
theorem laidOut : laidOutB Tryz.prog = true := by kernel_rfl
/-- The types of arguments, and what they hold. -/
def goods : List Nat := [3, 9, 22, 24, 25, 75]
theorem goods_ok : ∀ t ∈ goods, goodOne tab goods t = true := by
  intro t ht
  simp only [goods, List.mem_cons, List.not_mem_nil, or_false] at ht
  rcases ht with rfl | rfl | rfl | rfl | rfl | rfl <;> kernel_rfl
theorem goods_readable : goods.all (fun t => Tryz.prog.readableRec t && decide (t < Tryz.prog.types.size)) = true := by kernel_rfl
theorem readable (ts : List Nat) (h : ∀ t ∈ ts, t ∈ goods) : ∀ t ∈ ts, Tryz.prog.readableRec t = true ∧ t < Tryz.prog.types.size := fun t ht => by
  have := List.all_eq_true.1 goods_readable t (h t ht)
  simpa using this
def t32 : List Nat := [0, 1, 28, 2, 29, 14, 24, 3, 30, 22, 20, 15, 25, 17, 4, 8, 31, 27, 13, 23, 21, 19, 16, 7, 26, 12, 18, 6, 11, 5, 10, 9]
def t64 : List Nat := [0, 1, 56, 2, 57, 49, 28, 3, 61, 58, 42, 50, 38, 29, 17, 4, 62, 47, 59, 36, 45, 43, 51, 22, 53, 39, 33, 30, 24, 18, 12, 5, 63, 55, 48, 27, 60, 41, 37, 16, 46, 35, 44, 21, 52, 32, 23, 11, 54, 26, 40, 15, 34, 20, 31, 10, 25, 14, 19, 9, 13, 8, 7, 6]
def p10 : List Nat := [1, 10, 100, 1000, 10000, 100000, 1000000, 10000000, 100000000, 1000000000, 10000000000, 100000000000, 1000000000000, 10000000000000, 100000000000000, 1000000000000000, 10000000000000000, 100000000000000000, 1000000000000000000, 10000000000000000000]
set_option maxRecDepth 100000 in
theorem tab_ext : ∀ f g, tabExt f = some g → ∀ args r, g args = some r → Contract tab Tryz.prog f args r := by
  intro f g h args r hr
  unfold tabExt at h
  split at h
  · cases h; exact idxB_contract (C := tab) rfl rfl rfl hr
  · cases h; exact count_contract (C := tab) rfl rfl rfl hr
  · cases h; exact sorted_contract (C := tab) (z0 := []) (s2 := 1) (b2 := 24) (n0 := 0) (b := 8) rfl rfl rfl rfl rfl rfl rfl hr
  · cases h; exact values_contract (C := tab) rfl rfl rfl rfl rfl hr
  · cases h; exact table_contract (C := tab) (z97 := [.sc (.int .i64 0), .sc (.int .i64 0), .sc (.int .i64 0), .sc (.int .i64 0)]) rfl rfl rfl rfl rfl rfl rfl rfl rfl rfl hr
  · cases h; exact itoa_contract (C := tab) rfl rfl rfl hr
  · cases h; exact join_contract (C := tab) (z := [.sc (.string ByteArray.empty)]) (b := 16) rfl rfl rfl rfl hr
  · cases h; exact clone_contract (C := tab) (z0 := []) (s2 := 1) (b2 := 24) (n0 := 0) (b := 8) rfl rfl rfl rfl rfl rfl rfl hr
  · cases h; exact atoi_contract (C := tab) rfl rfl rfl rfl hr
  · cases h; exact idxF_contract (C := tab) rfl rfl rfl hr
  · cases h
set_option maxRecDepth 100000 in
theorem tab_ok2 : Tab.Ok2 tab Tryz.prog := ⟨Tryz.checked.mixed, fun f fn h _ => res_ok f fn h, fun f fn h _ => plans_ok f fn h, fun _ _ _ _ _ _ hcp => (by cases hcp), tab_ext⟩
end Go.Proofs.YtahifpeggdcamaaGreatDoor
