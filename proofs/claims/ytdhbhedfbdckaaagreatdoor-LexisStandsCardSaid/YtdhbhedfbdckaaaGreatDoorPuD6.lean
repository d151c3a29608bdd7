/- A part of an interpreter of the model's code that is proved sound, and of laws told by it: DamShelf3. -/
import Derived.Shelf.Strings.Builder1
import Derived.Shelf.Strings.Builder2
import Derived.Test.YtdhbhedfbdckaaaGreatDoorProg
import Derived.KernelRfl
set_option linter.unusedVariables false
set_option linter.unusedSimpArgs false
/- The contracts of strings.Builder at this program. -/
namespace Go.Proofs
open Go.Shelf
def Tryz.wbS_ren : Go.Shelf.Ren := ⟨fun | 167 => 42 | 240 => 67 | 276 => 94 | n => n, fun | 0 => 0 | 4 => 4 | 5 => 5 | 9 => 9 | 20 => 20 | 37 => 52 | 70 => 81 | 72 => 83 | 75 => 86 | 80 => 68 | 164 => 118 | n => n, fun  | n => n⟩
theorem Tryz.wbS : Lays.n167 Tryz.prog Tryz.wbS_ren := {
  mixed := by kernel_rfl,
  f167 := Tryz.func42.trans (congrArg some (by kernel_rfl)),
  f240 := Tryz.func67.trans (congrArg some (by kernel_rfl)),
  f276 := Tryz.func94.trans (congrArg some (by kernel_rfl)),
  t0 := Tryz.underlying0,
  a0 := Tryz.isAgg0,
  z0 := Tryz.sizeOf0,
  v0 := Tryz.zeroValue0,
  t4 := Tryz.underlying4,
  a4 := Tryz.isAgg4,
  z4 := Tryz.sizeOf4,
  v4 := Tryz.zeroValue4,
  t5 := Tryz.underlying5,
  a5 := Tryz.isAgg5,
  z5 := Tryz.sizeOf5,
  v5 := Tryz.zeroValue5,
  t9 := Tryz.underlying9,
  a9 := Tryz.isAgg9,
  z9 := Tryz.sizeOf9,
  v9 := Tryz.zeroValue9,
  t20 := Tryz.underlying20,
  a20 := Tryz.isAgg20,
  z20 := Tryz.sizeOf20,
  v20 := Tryz.zeroValue20,
  t37 := Tryz.underlying52,
  a37 := Tryz.isAgg52,
  z37 := Tryz.sizeOf52,
  v37 := Tryz.zeroValue52,
  t70 := Tryz.underlying81,
  a70 := Tryz.isAgg81,
  z70 := Tryz.sizeOf81,
  v70 := Tryz.zeroValue81,
  t72 := Tryz.underlying83,
  a72 := Tryz.isAgg83,
  z72 := Tryz.sizeOf83,
  v72 := Tryz.zeroValue83,
  t75 := Tryz.underlying86,
  a75 := Tryz.isAgg86,
  z75 := Tryz.sizeOf86,
  v75 := Tryz.zeroValue86,
  t164 := Tryz.underlying118,
  a164 := Tryz.isAgg118,
  z164 := Tryz.sizeOf118,
  v164 := Tryz.zeroValue118 }
def Tryz.wsS_ren : Go.Shelf.Ren := ⟨fun | 166 => 43 | 240 => 67 | 276 => 94 | n => n, fun | 0 => 0 | 3 => 3 | 4 => 4 | 5 => 5 | 9 => 9 | 20 => 20 | 37 => 52 | 70 => 81 | 72 => 83 | 75 => 86 | 80 => 68 | 164 => 118 | n => n, fun  | n => n⟩
theorem Tryz.wsS : Lays.n166 Tryz.prog Tryz.wsS_ren := {
  mixed := by kernel_rfl,
  f166 := Tryz.func43.trans (congrArg some (by kernel_rfl)),
  f240 := Tryz.func67.trans (congrArg some (by kernel_rfl)),
  f276 := Tryz.func94.trans (congrArg some (by kernel_rfl)),
  t0 := Tryz.underlying0,
  a0 := Tryz.isAgg0,
  z0 := Tryz.sizeOf0,
  v0 := Tryz.zeroValue0,
  t3 := Tryz.underlying3,
  a3 := Tryz.isAgg3,
  z3 := Tryz.sizeOf3,
  v3 := Tryz.zeroValue3,
  t4 := Tryz.underlying4,
  a4 := Tryz.isAgg4,
  z4 := Tryz.sizeOf4,
  v4 := Tryz.zeroValue4,
  t9 := Tryz.underlying9,
  a9 := Tryz.isAgg9,
  z9 := Tryz.sizeOf9,
  v9 := Tryz.zeroValue9,
  t20 := Tryz.underlying20,
  a20 := Tryz.isAgg20,
  z20 := Tryz.sizeOf20,
  v20 := Tryz.zeroValue20,
  t37 := Tryz.underlying52,
  a37 := Tryz.isAgg52,
  z37 := Tryz.sizeOf52,
  v37 := Tryz.zeroValue52,
  t70 := Tryz.underlying81,
  a70 := Tryz.isAgg81,
  z70 := Tryz.sizeOf81,
  v70 := Tryz.zeroValue81,
  t72 := Tryz.underlying83,
  a72 := Tryz.isAgg83,
  z72 := Tryz.sizeOf83,
  v72 := Tryz.zeroValue83,
  t75 := Tryz.underlying86,
  a75 := Tryz.isAgg86,
  z75 := Tryz.sizeOf86,
  v75 := Tryz.zeroValue86,
  t164 := Tryz.underlying118,
  a164 := Tryz.isAgg118,
  z164 := Tryz.sizeOf118,
  v164 := Tryz.zeroValue118 }
def Tryz.stS_ren : Go.Shelf.Ren := ⟨fun | 169 => 45 | n => n, fun | 0 => 0 | 3 => 3 | 5 => 5 | 9 => 9 | 37 => 52 | 70 => 81 | 72 => 83 | 127 => 108 | n => n, fun  | n => n⟩
theorem Tryz.stS : Lays.n169 Tryz.prog Tryz.stS_ren := {
  mixed := by kernel_rfl,
  f169 := Tryz.func45.trans (congrArg some (by kernel_rfl)),
  t0 := Tryz.underlying0,
  a0 := Tryz.isAgg0,
  z0 := Tryz.sizeOf0,
  v0 := Tryz.zeroValue0,
  t3 := Tryz.underlying3,
  a3 := Tryz.isAgg3,
  z3 := Tryz.sizeOf3,
  v3 := Tryz.zeroValue3,
  t9 := Tryz.underlying9,
  a9 := Tryz.isAgg9,
  z9 := Tryz.sizeOf9,
  v9 := Tryz.zeroValue9,
  t37 := Tryz.underlying52,
  a37 := Tryz.isAgg52,
  z37 := Tryz.sizeOf52,
  v37 := Tryz.zeroValue52,
  t70 := Tryz.underlying81,
  a70 := Tryz.isAgg81,
  z70 := Tryz.sizeOf81,
  v70 := Tryz.zeroValue81,
  t72 := Tryz.underlying83,
  a72 := Tryz.isAgg83,
  z72 := Tryz.sizeOf83,
  v72 := Tryz.zeroValue83,
  t127 := Tryz.underlying108,
  a127 := Tryz.isAgg108,
  z127 := Tryz.sizeOf108,
  v127 := Tryz.zeroValue108 }
def Tryz.blS_ren : Go.Shelf.Ren := ⟨fun | 170 => 44 | n => n, fun | 0 => 0 | 3 => 3 | 5 => 5 | 37 => 52 | 70 => 81 | 72 => 83 | n => n, fun  | n => n⟩
theorem Tryz.blS : Lays.n170 Tryz.prog Tryz.blS_ren := {
  mixed := by kernel_rfl,
  f170 := Tryz.func44.trans (congrArg some (by kernel_rfl)),
  t0 := Tryz.underlying0,
  a0 := Tryz.isAgg0,
  z0 := Tryz.sizeOf0,
  v0 := Tryz.zeroValue0,
  t3 := Tryz.underlying3,
  a3 := Tryz.isAgg3,
  z3 := Tryz.sizeOf3,
  v3 := Tryz.zeroValue3,
  t37 := Tryz.underlying52,
  a37 := Tryz.isAgg52,
  z37 := Tryz.sizeOf52,
  v37 := Tryz.zeroValue52,
  t70 := Tryz.underlying81,
  a70 := Tryz.isAgg81,
  z70 := Tryz.sizeOf81,
  v70 := Tryz.zeroValue81,
  t72 := Tryz.underlying83,
  a72 := Tryz.isAgg83,
  z72 := Tryz.sizeOf83,
  v72 := Tryz.zeroValue83 }

theorem Tryz.wbSX : Builder.Extra Tryz.prog Tryz.wbS_ren := {
  sizeBuilder := by kernel_rfl
  liesBuilder := by kernel_rfl
  t5 := Tryz.underlying5
  a5 := Tryz.isAgg5
  z5 := Tryz.sizeOf5
  v5 := Tryz.zeroValue5
  infoByte := by kernel_rfl
  cellsByte := by kernel_rfl
  sizeByte := by kernel_rfl
  neB5 := by decide }
theorem Tryz.wsSX : Builder.Extra Tryz.prog Tryz.wsS_ren := {
  sizeBuilder := by kernel_rfl
  liesBuilder := by kernel_rfl
  t5 := Tryz.underlying5
  a5 := Tryz.isAgg5
  z5 := Tryz.sizeOf5
  v5 := Tryz.zeroValue5
  infoByte := by kernel_rfl
  cellsByte := by kernel_rfl
  sizeByte := by kernel_rfl
  neB5 := by decide }
theorem Tryz.stSX : Builder.Extra Tryz.prog Tryz.stS_ren := {
  sizeBuilder := by kernel_rfl
  liesBuilder := by kernel_rfl
  t5 := Tryz.underlying5
  a5 := Tryz.isAgg5
  z5 := Tryz.sizeOf5
  v5 := Tryz.zeroValue5
  infoByte := by kernel_rfl
  cellsByte := by kernel_rfl
  sizeByte := by kernel_rfl
  neB5 := by decide }
open Go.RowKit
theorem Tryz.bd_str (B b : Nat) (bs : List Value) (s : ByteArray) (w : World) (h : Lib.IsBuilder 83 5 B b bs w) (hlen : bs.length + s.size ≤ 140737488355328) (hBw : B ≤ w.heap.size) :
    Calls Tryz.prog 43 #[.pointer (some ⟨b, 0, none⟩), .string s] w fun e w' => e = .returned (.tuple #[.int .i64 s.size, .nilIface]) ∧ (Lib.BuilderAt 83 5 B b (.pointer (some ⟨b, 0, none⟩)) (bs ++ Lib.strCells s) w' ∧ Below B w w') := Any.Builder_WriteString Tryz.wsS Tryz.wsSX B b bs s w h hlen hBw
theorem Tryz.bd_len (B b : Nat) (bs : List Value) (w : World) (h : Lib.IsBuilder 83 5 B b bs w) :
    Calls Tryz.prog 44 #[.pointer (some ⟨b, 0, none⟩)] w fun e w' => e = .returned (.int .i64 bs.length) ∧ w' = w := Any.Builder_Len Tryz.blS B b bs w h
theorem Tryz.bd_all (B b : Nat) (l : List UInt8) (w : World) (h : Lib.IsBuilder 83 5 B b (Lib.byteCells l) w) (hBw : B ≤ w.heap.size) :
    Calls Tryz.prog 45 #[.pointer (some ⟨b, 0, none⟩)] w fun e w' => e = .returned (.string ⟨l.toArray⟩) ∧ Below B w w' := Any.Builder_String_any Tryz.stS Tryz.stSX B b l w h hBw
end Go.Proofs
