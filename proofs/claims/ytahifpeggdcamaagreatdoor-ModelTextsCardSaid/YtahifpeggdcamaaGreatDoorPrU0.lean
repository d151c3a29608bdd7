/- A part of an interpreter of the model's code that is proved sound, and of laws told by it: DamRowBase4. -/
import Derived.Test.YtahifpeggdcamaaGreatDoorPrD9
set_option linter.unusedVariables false
set_option linter.unusedSimpArgs false
/- A world in which the seven variables lie as the program's text lays them. -/
namespace Go.Proofs.YtahifpeggdcamaaGreatDoor
open Go.ChangeShapes Go.WideShapes Go.ChangeAt Go.RowKit Go.Dam
def sRange : ByteArray := ⟨#[118, 97, 108, 117, 101, 32, 111, 117, 116, 32, 111, 102, 32, 114, 97, 110, 103, 101]⟩
def sSyntax : ByteArray := ⟨#[105, 110, 118, 97, 108, 105, 100, 32, 115, 121, 110, 116, 97, 120]⟩
def accR : List Nat := [128, 191, 160, 191, 128, 159, 144, 191, 128, 143, 0, 0, 0, 0, 0, 0, 0, 0, 0, 0, 0, 0, 0, 0, 0, 0, 0, 0, 0, 0, 0, 0]
noncomputable def lowB : Nat := (World.holding Tryz.prog default ⟨#[], #[], []⟩).heap.size
noncomputable def laidWorldT (os : Os) : World :=
  let w0 := World.holding Tryz.prog os ⟨#[.cells #[.string sSyntax] 225, .cells #[.string sRange] 225], #[], []⟩
  let put (w : World) (g : Nat) (cs : Array Value) : World := { w with heap := w.heap.modify g fun
      | .cells _ t frozen => .cells cs t frozen
      | o => o }
  put (put (put (put (put (put (put w0 4 (t32.map fun (n : Nat) => Value.int .u8 n).toArray) 5 (t64.map fun (n : Nat) => Value.int .u8 n).toArray) 1 (p10.map fun (n : Nat) => Value.int .u64 n).toArray)
    7 (accR.map fun (n : Nat) => Value.int .u8 n).toArray) 6 (Go.Pinned.utf8FirstZ.map fun (n : Nat) => Value.int .u8 n).toArray)
    2 #[.iface 223 (.pointer (some ⟨lowB, 0, none⟩))]) 3 #[.iface 223 (.pointer (some ⟨lowB + 1, 0, none⟩))]
theorem laidWorldT_met (os : Os) (args : Array Value) : laidMetH Tryz.prog Rows.modelTextsRow.laid ((laidWorldT os).forCall (fun _ _ => 0) ⟨#[], args, []⟩).memory :=
  laidMetH_of_parts (laidMet_of_run' 8 (by kernel_rfl) (by kernel_rfl)) (by kernel_rfl)
end Go.Proofs.YtahifpeggdcamaaGreatDoor
