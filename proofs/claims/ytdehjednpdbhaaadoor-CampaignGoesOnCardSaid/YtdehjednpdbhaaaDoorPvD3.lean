/- A part of an interpreter of the model's code that is proved sound, and of laws told by it: DamShelf. -/
import Derived.Shelf.Strings.Builder1
import Derived.Shelf.Strings.Builder2
import Derived.Test.YtdehjednpdbhaaaDoorProg
import Derived.KernelRfl
set_option linter.unusedVariables false
set_option linter.unusedSimpArgs false
/- The contracts of strings.Builder at this program. -/
namespace Go.Proofs
open Go.Shelf
def Tryd.wsS_ren : Go.Shelf.Ren := ⟨fun | 166 => 21 | 240 => 29 | 276 => 37 | n => n, fun | 0 => 0 | 3 => 3 | 4 => 4 | 5 => 5 | 9 => 9 | 20 => 20 | 37 => 25 | 70 => 61 | 72 => 63 | 75 => 65 | 80 => 68 | 164 => 87 | n => n, fun  | n => n⟩
theorem Tryd.wsS : Lays.n166 Tryd.prog Tryd.wsS_ren := {
  mixed := by kernel_rfl,
  f166 := Tryd.func21.trans (congrArg some (by kernel_rfl)),
  f240 := Tryd.func29.trans (congrArg some (by kernel_rfl)),
  f276 := Tryd.func37.trans (congrArg some (by kernel_rfl)),
  t0 := Tryd.underlying0,
  a0 := Tryd.isAgg0,
  z0 := Tryd.sizeOf0,
  v0 := Tryd.zeroValue0,
  t3 := Tryd.underlying3,
  a3 := Tryd.isAgg3,
  z3 := Tryd.sizeOf3,
  v3 := Tryd.zeroValue3,
  t4 := Tryd.underlying4,
  a4 := Tryd.isAgg4,
  z4 := Tryd.sizeOf4,
  v4 := Tryd.zeroValue4,
  t9 := Tryd.underlying9,
  a9 := Tryd.isAgg9,
  z9 := Tryd.sizeOf9,
  v9 := Tryd.zeroValue9,
  t20 := Tryd.underlying20,
  a20 := Tryd.isAgg20,
  z20 := Tryd.sizeOf20,
  v20 := Tryd.zeroValue20,
  t37 := Tryd.underlying25,
  a37 := Tryd.isAgg25,
  z37 := Tryd.sizeOf25,
  v37 := Tryd.zeroValue25,
  t70 := Tryd.underlying61,
  a70 := Tryd.isAgg61,
  z70 := Tryd.sizeOf61,
  v70 := Tryd.zeroValue61,
  t72 := Tryd.underlying63,
  a72 := Tryd.isAgg63,
  z72 := Tryd.sizeOf63,
  v72 := Tryd.zeroValue63,
  t75 := Tryd.underlying65,
  a75 := Tryd.isAgg65,
  z75 := Tryd.sizeOf65,
  v75 := Tryd.zeroValue65,
  t164 := Tryd.underlying87,
  a164 := Tryd.isAgg87,
  z164 := Tryd.sizeOf87,
  v164 := Tryd.zeroValue87 }
def Tryd.stS_ren : Go.Shelf.Ren := ⟨fun | 169 => 22 | n => n, fun | 0 => 0 | 3 => 3 | 5 => 5 | 9 => 9 | 37 => 25 | 70 => 61 | 72 => 63 | 127 => 78 | n => n, fun  | n => n⟩
theorem Tryd.stS : Lays.n169 Tryd.prog Tryd.stS_ren := {
  mixed := by kernel_rfl,
  f169 := Tryd.func22.trans (congrArg some (by kernel_rfl)),
  t0 := Tryd.underlying0,
  a0 := Tryd.isAgg0,
  z0 := Tryd.sizeOf0,
  v0 := Tryd.zeroValue0,
  t3 := Tryd.underlying3,
  a3 := Tryd.isAgg3,
  z3 := Tryd.sizeOf3,
  v3 := Tryd.zeroValue3,
  t9 := Tryd.underlying9,
  a9 := Tryd.isAgg9,
  z9 := Tryd.sizeOf9,
  v9 := Tryd.zeroValue9,
  t37 := Tryd.underlying25,
  a37 := Tryd.isAgg25,
  z37 := Tryd.sizeOf25,
  v37 := Tryd.zeroValue25,
  t70 := Tryd.underlying61,
  a70 := Tryd.isAgg61,
  z70 := Tryd.sizeOf61,
  v70 := Tryd.zeroValue61,
  t72 := Tryd.underlying63,
  a72 := Tryd.isAgg63,
  z72 := Tryd.sizeOf63,
  v72 := Tryd.zeroValue63,
  t127 := Tryd.underlying78,
  a127 := Tryd.isAgg78,
  z127 := Tryd.sizeOf78,
  v127 := Tryd.zeroValue78 }

theorem Tryd.wsSX : Builder.Extra Tryd.prog Tryd.wsS_ren := {
  sizeBuilder := by kernel_rfl
  liesBuilder := by kernel_rfl
  t5 := Tryd.underlying5
  a5 := Tryd.isAgg5
  z5 := Tryd.sizeOf5
  v5 := Tryd.zeroValue5
  infoByte := by kernel_rfl
  cellsByte := by kernel_rfl
  sizeByte := by kernel_rfl
  neB5 := by decide }

theorem Tryd.stSX : Builder.Extra Tryd.prog Tryd.stS_ren := {
  sizeBuilder := by kernel_rfl
  liesBuilder := by kernel_rfl
  t5 := Tryd.underlying5
  a5 := Tryd.isAgg5
  z5 := Tryd.sizeOf5
  v5 := Tryd.zeroValue5
  infoByte := by kernel_rfl
  cellsByte := by kernel_rfl
  sizeByte := by kernel_rfl
  neB5 := by decide }
open Go.RowKit
theorem Tryd.bd_str (B b : Nat) (bs : List Value) (s : ByteArray) (w : World) (h : Lib.IsBuilder 63 5 B b bs w) (hlen : bs.length + s.size ≤ 140737488355328) (hBw : B ≤ w.heap.size) :
    Calls Tryd.prog 21 #[.pointer (some ⟨b, 0, none⟩), .string s] w fun e w' => e = .returned (.tuple #[.int .i64 s.size, .nilIface]) ∧ (Lib.BuilderAt 63 5 B b (.pointer (some ⟨b, 0, none⟩)) (bs ++ Lib.strCells s) w' ∧ Below B w w') := Any.Builder_WriteString Tryd.wsS Tryd.wsSX B b bs s w h hlen hBw
theorem Tryd.bd_all (B b : Nat) (l : List UInt8) (w : World) (h : Lib.IsBuilder 63 5 B b (Lib.byteCells l) w) (hBw : B ≤ w.heap.size) :
    Calls Tryd.prog 22 #[.pointer (some ⟨b, 0, none⟩)] w fun e w' => e = .returned (.string ⟨l.toArray⟩) ∧ Below B w w' := Any.Builder_String_any Tryd.stS Tryd.stSX B b l w h hBw
end Go.Proofs
