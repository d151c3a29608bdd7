/- A part of an interpreter of the model's code that is proved sound, and of laws told by it: DamExtF, DamExtF2, DamExtF3, DamLay, DamTab. -/
import Derived.Test.YtdhbhedfbdckaaaGreatDoorPuA1
import Derived.Lib.Atoi
import Derived.Lib.Bytealg
import Derived.Lib.AtoiAll
import Derived.Lib.IndexAny
import Derived.Lib.Index
import Derived.Lib.SlTrimSet
import Derived.Lib.LastIndexByte
import Derived.Test.YtdhbhedfbdckaaaGreatDoorProg
import Derived.Lib.Space
import GoSem.Claims
set_option linter.unusedVariables false
set_option linter.unusedSimpArgs false
/- Library functions that are told by hand. -/
namespace Go.Dam
def isI64 : AV → Bool
  | .sc (.int .i64 _) => true
  | _ => false
end Go.Dam

/- More library functions that are told by hand. -/
namespace Go.Dam
/-- slices.Values of whole numbers: g is the closure's function. -/
def extValues (g T : Nat) : List AV → Option AV
  | [.sl T' l] => if Nat.beq T' T && (Nat.ble (l.length * 8) 140737488355328 && l.all isI64) then some (.fn g [.ref [.sl T l]]) else none
  | _ => none
def decInts : List AV → List Int
  | .sc (.int .i64 n) :: l => n :: decInts l
  | _ => []
/-- strconv.Atoi of a short text that is a number. -/
def extAtoi : List AV → Option AV
  | [.sc (.string s)] => if Nat.ble s.size 18 then (match Lib.atoi s.data.toList with
    | some n => some (.tup [.sc (.int .i64 n), .sc .nilIface])
    | none => none) else none
  | _ => none
/-- The index of a byte. -/
def extIdxB : List AV → Option AV
  | [.sc (.string s), .sc (.int .u8 c)] => some (.sc (.int .i64 (Lib.indexByte s.data.toList c.toNat.toUInt8)))
  | _ => none
/-- strings.Count of a text of one byte. -/
def extCount1 : List AV → Option AV
  | [.sc (.string s), .sc (.string ⟨⟨[c]⟩⟩)] => some (.sc (.int .i64 (Lib.countByte s.data.toList c : Nat)))
  | _ => none
end Go.Dam

/- Library functions that chapter 01 uses, told by hand; the words and symbols of its languages. -/
namespace Go.Dam
def asciiL (l : List UInt8) : Bool := l.all fun b => Nat.blt b.toNat 128
def extLast1 : List AV → Option AV
  | [.sc (.string s), .sc (.string ⟨⟨[c]⟩⟩)] => if Nat.blt s.size 4611686018427387904 then some (.sc (.int .i64 (Lib.lastIndexByte s (c.toNat : Int)))) else none
  | _ => none
def extIndex : List AV → Option AV
  | [.sc (.string s), .sc (.string t)] => if Nat.blt s.size 4294967281 then some (.sc (.int .i64 (Lib.index s.data.toList t.data.toList))) else none
  | _ => none
def extIxAny : List AV → Option AV
  | [.sc (.string s), .sc (.string t)] => if Nat.blt s.size 4294967281 && (Nat.blt t.size 4294967281 && (asciiL s.data.toList && asciiL t.data.toList)) then some (.sc (.int .i64 (Lib.indexAny s.data.toList t.data.toList))) else none
  | _ => none
def extTrim : List AV → Option AV
  | [.sc (.string s), .sc (.string t)] => if Nat.ble s.size 9223372036854775807 && (Nat.blt t.size 4294967281 && asciiL t.data.toList) then some (.sc (.string ⟨(Lib.trimS s.data.toList t.data.toList).toArray⟩)) else none
  | _ => none
def extAtoiE : List AV → Option AV
  | [.sc (.string s)] => if Nat.ble s.size 281474976710656 then (match Lib.atoiAll s.data.toList with
    | .ok v => some (.tup [.sc (.int .i64 v), .sc .nilIface])
    | .range => some (.tup [.sc (.int .i64 (Lib.atoiSat s.data.toList)), .er])
    | _ => some (.tup [.sc (.int .i64 0), .er])) else none
  | _ => none
def asnWordsB : List (List UInt8) := [[65, 76, 76], [65, 80, 80, 76, 73, 67, 65, 84, 73, 79, 78], [65, 85, 84, 79, 77, 65, 84, 73, 67], [66, 69, 71, 73, 78], [66, 73, 84], [66, 79, 79, 76, 69, 65, 78], [66, 89], [67, 72, 79, 73, 67, 69], [67, 76, 65, 83, 83], [67, 79, 77, 80, 79, 78, 69, 78, 84], [67, 79, 77, 80, 79, 78, 69, 78, 84, 83], [68, 69, 70, 65, 85, 76, 84], [68, 69, 70, 73, 78, 73, 84, 73, 79, 78, 83], [69, 78, 68], [69, 78, 85, 77, 69, 82, 65, 84, 69, 68], [69, 88, 67, 69, 80, 84], [69, 88, 80, 76, 73, 67, 73, 84], [69, 88, 80, 79, 82, 84, 83], [70, 65, 76, 83, 69], [70, 82, 79, 77], [73, 65, 53, 83, 116, 114, 105, 110, 103], [73, 68, 69, 78, 84, 73, 70, 73, 69, 82], [73, 77, 80, 76, 73, 67, 73, 84], [73, 77, 80, 79, 82, 84, 83], [73, 78, 84, 69, 71, 69, 82], [73, 78, 84, 69, 82, 83, 69, 67, 84, 73, 79, 78], [77, 65, 88], [77, 73, 78], [78, 85, 76, 76], [78, 117, 109, 101, 114, 105, 99, 83, 116, 114, 105, 110, 103], [79, 66, 74, 69, 67, 84], [79, 67, 84, 69, 84], [79, 70], [79, 80, 84, 73, 79, 78, 65, 76], [80, 82, 73, 86, 65, 84, 69], [80, 114, 105, 110, 116, 97, 98, 108, 101, 83, 116, 114, 105, 110, 103], [82, 69, 65, 76], [83, 69, 81, 85, 69, 78, 67, 69], [83, 69, 84], [83, 73, 90, 69], [83, 84, 82, 73, 78, 71], [83, 89, 78, 84, 65, 88], [84, 65, 71, 83], [84, 82, 85, 69], [85, 78, 73, 79, 78], [85, 78, 73, 81, 85, 69], [85, 78, 73, 86, 69, 82, 83, 65, 76], [86, 105, 115, 105, 98, 108, 101, 83, 116, 114, 105, 110, 103], [87, 73, 84, 72]]
def asnWordsS : List (List UInt8) := [[65, 76, 76], [65, 80, 80, 76, 73, 67, 65, 84, 73, 79, 78], [65, 85, 84, 79, 77, 65, 84, 73, 67], [66, 69, 71, 73, 78], [66, 73, 84], [66, 79, 79, 76, 69, 65, 78], [66, 89], [67, 72, 79, 73, 67, 69], [67, 76, 65, 83, 83], [67, 79, 77, 80, 79, 78, 69, 78, 84], [67, 79, 77, 80, 79, 78, 69, 78, 84, 83], [68, 69, 70, 65, 85, 76, 84], [68, 69, 70, 73, 78, 73, 84, 73, 79, 78, 83], [69, 78, 68], [69, 78, 85, 77, 69, 82, 65, 84, 69, 68], [69, 88, 67, 69, 80, 84], [69, 88, 80, 76, 73, 67, 73, 84], [69, 88, 80, 79, 82, 84, 83], [70, 65, 76, 83, 69], [70, 82, 79, 77], [73, 65, 53, 83, 116, 114, 105, 110, 103], [73, 68, 69, 78, 84, 73, 70, 73, 69, 82], [73, 77, 80, 76, 73, 67, 73, 84], [73, 77, 80, 79, 82, 84, 83], [73, 78, 84, 69, 71, 69, 82], [73, 78, 84, 69, 82, 83, 69, 67, 84, 73, 79, 78], [77, 65, 88], [77, 73, 78], [78, 85, 76, 76], [78, 117, 109, 101, 114, 105, 99, 83, 116, 114, 105, 110, 103], [79, 66, 74, 69, 67, 84], [79, 67, 84, 69, 84], [79, 70], [79, 80, 84, 73, 79, 78, 65, 76], [80, 82, 73, 86, 65, 84, 69], [80, 114, 105, 110, 116, 97, 98, 108, 101, 83, 116, 114, 105, 110, 103], [82, 69, 65, 76], [83, 69, 81, 85, 69, 78, 67, 69], [83, 69, 84], [83, 73, 90, 69], [83, 84, 82, 73, 78, 71], [83, 89, 78, 84, 65, 88], [84, 65, 71, 83], [84, 82, 85, 69], [85, 78, 73, 79, 78], [85, 78, 73, 81, 85, 69], [85, 78, 73, 86, 69, 82, 83, 65, 76], [86, 105, 115, 105, 98, 108, 101, 83, 116, 114, 105, 110, 103], [87, 73, 84, 72]]
def ttcnWordsB : List (List UInt8) := [[97, 99, 116, 105, 111, 110], [97, 99, 116, 105, 118, 97, 116, 101], [97, 108, 105, 118, 101], [97, 108, 108], [97, 108, 116], [97, 108, 116, 115, 116, 101, 112], [97, 110, 100], [97, 110, 100, 52, 98], [97, 110, 121], [97, 110, 121, 116, 121, 112, 101], [98, 105, 116, 115, 116, 114, 105, 110, 103], [98, 111, 111, 108, 101, 97, 110], [98, 114, 101, 97, 107], [99, 97, 108, 108], [99, 97, 116, 99, 104], [99, 104, 97, 114, 115, 116, 114, 105, 110, 103], [99, 104, 101, 99, 107], [99, 108, 101, 97, 114], [99, 111, 109, 112, 108, 101, 109, 101, 110, 116], [99, 111, 109, 112, 111, 110, 101, 110, 116], [99, 111, 110, 110, 101, 99, 116], [99, 111, 110, 115, 116], [99, 111, 110, 116, 114, 111, 108], [99, 114, 101, 97, 116, 101], [100, 101, 97, 99, 116, 105, 118, 97, 116, 101], [100, 101, 102, 97, 117, 108, 116], [100, 105, 115, 99, 111, 110, 110, 101, 99, 116], [100, 105, 115, 112, 108, 97, 121], [100, 111], [100, 111, 110, 101], [101, 108, 115, 101], [101, 110, 99, 111, 100, 101], [101, 110, 117, 109, 101, 114, 97, 116, 101, 100], [101, 114, 114, 111, 114], [101, 120, 99, 101, 112, 116], [101, 120, 99, 101, 112, 116, 105, 111, 110], [101, 120, 101, 99, 117, 116, 101], [101, 120, 116, 101, 110, 100, 115], [101, 120, 116, 101, 110, 115, 105, 111, 110], [101, 120, 116, 101, 114, 110, 97, 108], [102, 97, 105, 108], [102, 97, 108, 115, 101], [102, 108, 111, 97, 116], [102, 111, 114], [102, 114, 105, 101, 110, 100], [102, 114, 111, 109], [102, 117, 110, 99, 116, 105, 111, 110], [103, 101, 116, 99, 97, 108, 108], [103, 101, 116, 114, 101, 112, 108, 121], [103, 101, 116, 118, 101, 114, 100, 105, 99, 116], [103, 111, 116, 111], [103, 114, 111, 117, 112], [104, 97, 108, 116], [104, 101, 120, 115, 116, 114, 105, 110, 103], [105, 102], [105, 102, 112, 114, 101, 115, 101, 110, 116], [105, 109, 112, 111, 114, 116], [105, 110], [105, 110, 99, 111, 110, 99], [105, 110, 102, 105, 110, 105, 116, 121], [105, 110, 111, 117, 116], [105, 110, 116, 101, 103, 101, 114], [105, 110, 116, 101, 114, 108, 101, 97, 118, 101], [107, 105, 108, 108], [107, 105, 108, 108, 101, 100], [108, 97, 98, 101, 108], [108, 97, 110, 103, 117, 97, 103, 101], [108, 101, 110, 103, 116, 104], [108, 111, 103], [109, 97, 112], [109, 97, 116, 99, 104], [109, 101, 115, 115, 97, 103, 101], [109, 105, 120, 101, 100], [109, 111, 100], [109, 111, 100, 105, 102, 105, 101, 115], [109, 111, 100, 117, 108, 101], [109, 111, 100, 117, 108, 101, 112, 97, 114], [109, 116, 99], [110, 111, 98, 108, 111, 99, 107], [110, 111, 110, 101], [110, 111, 116], [110, 111, 116, 52, 98], [110, 111, 119, 97, 105, 116], [110, 117, 108, 108], [111, 98, 106, 105, 100], [111, 99, 116, 101, 116, 115, 116, 114, 105, 110, 103], [111, 102], [111, 109, 105, 116], [111, 110], [111, 112, 116, 105, 111, 110, 97, 108], [111, 114], [111, 114, 52, 98], [111, 117, 116], [111, 118, 101, 114, 114, 105, 100, 101], [112, 97, 114, 97, 109], [112, 97, 115, 115], [112, 97, 116, 116, 101, 114, 110], [112, 101, 114, 109, 117, 116, 97, 116, 105, 111, 110], [112, 111, 114, 116], [112, 114, 101, 115, 101, 110, 116], [112, 114, 105, 118, 97, 116, 101], [112, 114, 111, 99, 101, 100, 117, 114, 101], [112, 117, 98, 108, 105, 99], [114, 97, 105, 115, 101], [114, 101, 97, 100], [114, 101, 99, 101, 105, 118, 101], [114, 101, 99, 111, 114, 100], [114, 101, 99, 117, 114, 115, 105, 118, 101], [114, 101, 109], [114, 101, 112, 101, 97, 116], [114, 101, 112, 108, 121], [114, 101, 116, 117, 114, 110], [114, 117, 110, 110, 105, 110, 103], [114, 117, 110, 115], [115, 101, 108, 101, 99, 116], [115, 101, 108, 102], [115, 101, 110, 100], [115, 101, 110, 100, 101, 114], [115, 101, 116], [115, 101, 116, 118, 101, 114, 100, 105, 99, 116], [115, 105, 103, 110, 97, 116, 117, 114, 101], [115, 116, 97, 114, 116], [115, 116, 111, 112], [115, 117, 98, 115, 101, 116], [115, 117, 112, 101, 114, 115, 101, 116], [115, 121, 115, 116, 101, 109], [116, 101, 109, 112, 108, 97, 116, 101], [116, 101, 115, 116, 99, 97, 115, 101], [116, 105, 109, 101, 111, 117, 116], [116, 105, 109, 101, 114], [116, 111], [116, 114, 105, 103, 103, 101, 114], [116, 114, 117, 101], [116, 121, 112, 101], [117, 110, 105, 111, 110], [117, 110, 105, 118, 101, 114, 115, 97, 108], [117, 110, 109, 97, 112], [118, 97, 108, 117, 101], [118, 97, 108, 117, 101, 111, 102], [118, 97, 114], [118, 97, 114, 105, 97, 110, 116], [118, 101, 114, 100, 105, 99, 116, 116, 121, 112, 101], [119, 104, 105, 108, 101], [119, 105, 116, 104], [120, 111, 114], [120, 111, 114, 52, 98]]
def ttcnWordsS : List (List UInt8) := [[97, 99, 116, 105, 111, 110], [97, 99, 116, 105, 118, 97, 116, 101], [97, 108, 105, 118, 101], [97, 108, 108], [97, 108, 116], [97, 108, 116, 115, 116, 101, 112], [97, 110, 100], [97, 110, 100, 52, 98], [97, 110, 121], [97, 110, 121, 116, 121, 112, 101], [98, 105, 116, 115, 116, 114, 105, 110, 103], [98, 111, 111, 108, 101, 97, 110], [98, 114, 101, 97, 107], [99, 97, 108, 108], [99, 97, 116, 99, 104], [99, 104, 97, 114, 115, 116, 114, 105, 110, 103], [99, 104, 101, 99, 107], [99, 108, 101, 97, 114], [99, 111, 109, 112, 108, 101, 109, 101, 110, 116], [99, 111, 109, 112, 111, 110, 101, 110, 116], [99, 111, 110, 110, 101, 99, 116], [99, 111, 110, 115, 116], [99, 111, 110, 116, 114, 111, 108], [99, 114, 101, 97, 116, 101], [100, 101, 97, 99, 116, 105, 118, 97, 116, 101], [100, 101, 102, 97, 117, 108, 116], [100, 105, 115, 99, 111, 110, 110, 101, 99, 116], [100, 105, 115, 112, 108, 97, 121], [100, 111], [100, 111, 110, 101], [101, 108, 115, 101], [101, 110, 99, 111, 100, 101], [101, 110, 117, 109, 101, 114, 97, 116, 101, 100], [101, 114, 114, 111, 114], [101, 120, 99, 101, 112, 116], [101, 120, 99, 101, 112, 116, 105, 111, 110], [101, 120, 101, 99, 117, 116, 101], [101, 120, 116, 101, 110, 100, 115], [101, 120, 116, 101, 110, 115, 105, 111, 110], [101, 120, 116, 101, 114, 110, 97, 108], [102, 97, 105, 108], [102, 97, 108, 115, 101], [102, 108, 111, 97, 116], [102, 111, 114], [102, 114, 105, 101, 110, 100], [102, 114, 111, 109], [102, 117, 110, 99, 116, 105, 111, 110], [103, 101, 116, 99, 97, 108, 108], [103, 101, 116, 114, 101, 112, 108, 121], [103, 101, 116, 118, 101, 114, 100, 105, 99, 116], [103, 111, 116, 111], [103, 114, 111, 117, 112], [104, 97, 108, 116], [104, 101, 120, 115, 116, 114, 105, 110, 103], [105, 102], [105, 102, 112, 114, 101, 115, 101, 110, 116], [105, 109, 112, 111, 114, 116], [105, 110], [105, 110, 99, 111, 110, 99], [105, 110, 102, 105, 110, 105, 116, 121], [105, 110, 111, 117, 116], [105, 110, 116, 101, 103, 101, 114], [105, 110, 116, 101, 114, 108, 101, 97, 118, 101], [107, 105, 108, 108], [107, 105, 108, 108, 101, 100], [108, 97, 98, 101, 108], [108, 97, 110, 103, 117, 97, 103, 101], [108, 101, 110, 103, 116, 104], [108, 111, 103], [109, 97, 112], [109, 97, 116, 99, 104], [109, 101, 115, 115, 97, 103, 101], [109, 105, 120, 101, 100], [109, 111, 100], [109, 111, 100, 105, 102, 105, 101, 115], [109, 111, 100, 117, 108, 101], [109, 111, 100, 117, 108, 101, 112, 97, 114], [109, 116, 99], [110, 111, 98, 108, 111, 99, 107], [110, 111, 110, 101], [110, 111, 116], [110, 111, 116, 52, 98], [110, 111, 119, 97, 105, 116], [110, 117, 108, 108], [111, 98, 106, 105, 100], [111, 99, 116, 101, 116, 115, 116, 114, 105, 110, 103], [111, 102], [111, 109, 105, 116], [111, 110], [111, 112, 116, 105, 111, 110, 97, 108], [111, 114], [111, 114, 52, 98], [111, 117, 116], [111, 118, 101, 114, 114, 105, 100, 101], [112, 97, 114, 97, 109], [112, 97, 115, 115], [112, 97, 116, 116, 101, 114, 110], [112, 101, 114, 109, 117, 116, 97, 116, 105, 111, 110], [112, 111, 114, 116], [112, 114, 101, 115, 101, 110, 116], [112, 114, 105, 118, 97, 116, 101], [112, 114, 111, 99, 101, 100, 117, 114, 101], [112, 117, 98, 108, 105, 99], [114, 97, 105, 115, 101], [114, 101, 97, 100], [114, 101, 99, 101, 105, 118, 101], [114, 101, 99, 111, 114, 100], [114, 101, 99, 117, 114, 115, 105, 118, 101], [114, 101, 109], [114, 101, 112, 101, 97, 116], [114, 101, 112, 108, 121], [114, 101, 116, 117, 114, 110], [114, 117, 110, 110, 105, 110, 103], [114, 117, 110, 115], [115, 101, 108, 101, 99, 116], [115, 101, 108, 102], [115, 101, 110, 100], [115, 101, 110, 100, 101, 114], [115, 101, 116], [115, 101, 116, 118, 101, 114, 100, 105, 99, 116], [115, 105, 103, 110, 97, 116, 117, 114, 101], [115, 116, 97, 114, 116], [115, 116, 111, 112], [115, 117, 98, 115, 101, 116], [115, 117, 112, 101, 114, 115, 101, 116], [115, 121, 115, 116, 101, 109], [116, 101, 109, 112, 108, 97, 116, 101], [116, 101, 115, 116, 99, 97, 115, 101], [116, 105, 109, 101, 111, 117, 116], [116, 105, 109, 101, 114], [116, 111], [116, 114, 105, 103, 103, 101, 114], [116, 114, 117, 101], [116, 121, 112, 101], [117, 110, 105, 111, 110], [117, 110, 105, 118, 101, 114, 115, 97, 108], [117, 110, 109, 97, 112], [118, 97, 108, 117, 101], [118, 97, 108, 117, 101, 111, 102], [118, 97, 114], [118, 97, 114, 105, 97, 110, 116], [118, 101, 114, 100, 105, 99, 116, 116, 121, 112, 101], [119, 104, 105, 108, 101], [119, 105, 116, 104], [120, 111, 114], [120, 111, 114, 52, 98]]
def asnSignsB : List (List UInt8) := [[58, 58, 61], [46, 46], [46, 46, 46], [91, 91], [93, 93], [123], [125], [40], [41], [91], [93], [44], [59], [58], [46], [124], [94], [60], [38], [64], [45], [61], [33], [42]]
def asnSignsS : List (List UInt8) := [[33], [38], [40], [41], [42], [44], [45], [46], [46, 46], [46, 46, 46], [58], [58, 58, 61], [59], [60], [61], [64], [91], [91, 91], [93], [93, 93], [94], [123], [124], [125]]
def ttcnSignsB : List (List UInt8) := [[58, 61], [46, 46], [45, 62], [61, 62], [61, 61], [33, 61], [60, 61], [62, 61], [60, 60], [62, 62], [123], [125], [40], [41], [91], [93], [44], [59], [58], [46], [63], [42], [43], [45], [47], [38], [60], [62], [64], [33], [124]]
def ttcnSignsS : List (List UInt8) := [[33], [33, 61], [38], [40], [41], [42], [43], [44], [45], [45, 62], [46], [46, 46], [47], [58], [58, 61], [59], [60], [60, 60], [60, 61], [61, 61], [61, 62], [62], [62, 61], [62, 62], [63], [64], [91], [93], [123], [124], [125]]
def joinSp : List (List UInt8) → List UInt8
  | [] => []
  | [w] => w
  | w :: l => w ++ 32 :: joinSp l
def eqBs : List UInt8 → List UInt8 → Bool
  | [], [] => true
  | a :: l, b :: m => Nat.beq a.toNat b.toNat && eqBs l m
  | _, _ => false
def strsA (l : List (List UInt8)) : List AV := l.map fun w => .sc (.string ⟨w.toArray⟩)
/-- The words of a text, sorted: of the four texts that there are. -/
def extLang : List AV → Option AV
  | [.sc (.string s)] => if eqBs s.data.toList (joinSp asnWordsB) then some (.sl 9 (strsA asnWordsS)) else if eqBs s.data.toList (joinSp ttcnWordsB) then some (.sl 9 (strsA ttcnWordsS)) else
    if eqBs s.data.toList (joinSp asnSignsB) then some (.sl 9 (strsA asnSignsS)) else if eqBs s.data.toList (joinSp ttcnSignsB) then some (.sl 9 (strsA ttcnSignsS)) else none
  | _ => none
end Go.Dam

/- What the variables hold that the chapter's code reads. -/
namespace Go.Proofs.YtdhbhedfbdckaaaGreatDoor
/-- The table of blanks. -/
def SpTab (W : World) : Prop := ∀ c : Nat, c < 256 → W.cell? ⟨0, c, none⟩ = some (.int .u8 (if Lib.isSp (UInt8.ofNat c) then 1 else 0))
/-- Some number, two errors. -/
def layL (w : World) : Prop := (∃ m : Int, w.cell? ⟨1, 0, none⟩ = some (.int .i64 m)) ∧ (∃ t p, w.var? Tryz.prog "strconv.ErrSyntax" = some #[.iface t p]) ∧ (∃ t p, w.var? Tryz.prog "strconv.ErrRange" = some #[.iface t p])
/-- All that is looked at. -/
def layF (w : World) : Prop := layL w ∧ SpTab w
end Go.Proofs.YtdhbhedfbdckaaaGreatDoor

/- What the interpreter knows of this seat's program: written by wip/gentab.py. -/
namespace Go.Proofs.YtdhbhedfbdckaaaGreatDoor
open Go.Dam
noncomputable def tabFn : Nat → Option Func
  | 3 => some Tryz.f3
  | 4 => some Tryz.f4
  | 5 => some Tryz.f5
  | 6 => some Tryz.f6
  | 7 => some Tryz.f7
  | 8 => some Tryz.f8
  | 9 => some Tryz.f9
  | 10 => some Tryz.f10
  | 11 => some Tryz.f11
  | 12 => some Tryz.f12
  | 13 => some Tryz.f13
  | 14 => some Tryz.f14
  | 15 => some Tryz.f15
  | 16 => some Tryz.f16
  | 17 => some Tryz.f17
  | 18 => some Tryz.f18
  | 19 => some Tryz.f19
  | 20 => some Tryz.f20
  | 21 => some Tryz.f21
  | 23 => some Tryz.f23
  | 24 => some Tryz.f24
  | 25 => some Tryz.f25
  | 26 => some Tryz.f26
  | 27 => some Tryz.f27
  | 28 => some Tryz.f28
  | 29 => some Tryz.f29
  | 30 => some Tryz.f30
  | 31 => some Tryz.f31
  | 32 => some Tryz.f32
  | 33 => some Tryz.f33
  | 34 => some Tryz.f34
  | 35 => some Tryz.f35
  | 36 => some Tryz.f36
  | 37 => some Tryz.f37
  | 38 => some Tryz.f38
  | 39 => some Tryz.f39
  | 40 => some Tryz.f40
  | 41 => some Tryz.f41
  | 46 => some Tryz.f46
  | 47 => some Tryz.f47
  | 48 => some Tryz.f48
  | 49 => some Tryz.f49
  | 50 => some Tryz.f50
  | 51 => some Tryz.f51
  | 52 => some Tryz.f52
  | 53 => some Tryz.f53
  | 54 => some Tryz.f54
  | 58 => some Tryz.f58
  | 59 => some Tryz.f59
  | 60 => some Tryz.f60
  | 61 => some Tryz.f61
  | 62 => some Tryz.f62
  | 63 => some Tryz.f63
  | 64 => some Tryz.f64
  | 65 => some Tryz.f65
  | 66 => some Tryz.f66
  | 71 => some Tryz.f71
  | 72 => some Tryz.f72
  | 73 => some Tryz.f73
  | 74 => some Tryz.f74
  | 81 => some Tryz.f81
  | 82 => some Tryz.f82
  | 83 => some Tryz.f83
  | 84 => some Tryz.f84
  | 85 => some Tryz.f85
  | 86 => some Tryz.f86
  | 87 => some Tryz.f87
  | 88 => some Tryz.f88
  | 89 => some Tryz.f89
  | 90 => some Tryz.f90
  | 91 => some Tryz.f91
  | 92 => some Tryz.f92
  | 93 => some Tryz.f93
  | 103 => some Tryz.f103
  | 104 => some Tryz.f104
  | 105 => some Tryz.f105
  | 117 => some Tryz.f117
  | _ => none
def TD7 : TypeDesc := .struct #[{ name := "x", type := 2, offset := 0, embedded := false, tag := "", pkgPath := "runtime", byteOffset := 0 }, { name := "y", type := 3, offset := 1, embedded := false, tag := "", pkgPath := "runtime", byteOffset := 8 }, { name := "signed", type := 4, offset := 2, embedded := false, tag := "", pkgPath := "runtime", byteOffset := 16 }, { name := "code", type := 6, offset := 3, embedded := false, tag := "", pkgPath := "runtime", byteOffset := 17 }]
def TD13 : TypeDesc := .struct #[{ name := "msg", type := 9, offset := 0, embedded := false, tag := "", pkgPath := "runtime", byteOffset := 0 }, { name := "addr", type := 12, offset := 1, embedded := false, tag := "", pkgPath := "runtime", byteOffset := 16 }]
def TD18 : TypeDesc := .struct #[{ name := "typ", type := 17, offset := 0, embedded := false, tag := "", pkgPath := "internal/runtime/maps", byteOffset := 0 }]
def TD31 : TypeDesc := .struct #[{ name := "Tokens", type := 24, offset := 0, embedded := false, tag := "", pkgPath := "", byteOffset := 0 }, { name := "Comments", type := 30, offset := 1, embedded := false, tag := "", pkgPath := "", byteOffset := 24 }, { name := "At", type := 3, offset := 2, embedded := false, tag := "", pkgPath := "", byteOffset := 48 }, { name := "Err", type := 3, offset := 3, embedded := false, tag := "", pkgPath := "", byteOffset := 56 }]
def TD34 : TypeDesc := .struct #[{ name := "Kind", type := 3, offset := 0, embedded := false, tag := "", pkgPath := "", byteOffset := 0 }, { name := "Text", type := 9, offset := 1, embedded := false, tag := "", pkgPath := "", byteOffset := 8 }, { name := "At", type := 3, offset := 2, embedded := false, tag := "", pkgPath := "", byteOffset := 24 }]
def TD39 : TypeDesc := .struct #[{ name := "From", type := 3, offset := 0, embedded := false, tag := "", pkgPath := "", byteOffset := 0 }, { name := "To", type := 3, offset := 1, embedded := false, tag := "", pkgPath := "", byteOffset := 8 }]
def TD72 : TypeDesc := .struct #[{ name := "words", type := 54, offset := 0, embedded := false, tag := "", pkgPath := "examiner/lexis", byteOffset := 0 }, { name := "signs", type := 54, offset := 1, embedded := false, tag := "", pkgPath := "examiner/lexis", byteOffset := 24 }]
def TD74 : TypeDesc := .struct #[{ name := "lang", type := 3, offset := 0, embedded := false, tag := "", pkgPath := "examiner/lexis", byteOffset := 0 }, { name := "language", type := 73, offset := 1, embedded := false, tag := "", pkgPath := "examiner/lexis", byteOffset := 8 }, { name := "s", type := 9, offset := 3, embedded := false, tag := "", pkgPath := "examiner/lexis", byteOffset := 56 }, { name := "at", type := 3, offset := 4, embedded := false, tag := "", pkgPath := "examiner/lexis", byteOffset := 72 }, { name := "tokens", type := 24, offset := 5, embedded := false, tag := "", pkgPath := "examiner/lexis", byteOffset := 80 }, { name := "comments", type := 30, offset := 6, embedded := false, tag := "", pkgPath := "examiner/lexis", byteOffset := 104 }]
def TD76 : TypeDesc := .struct #[{ name := "Kind", type := 3, offset := 0, embedded := false, tag := "", pkgPath := "", byteOffset := 0 }, { name := "End", type := 3, offset := 1, embedded := false, tag := "", pkgPath := "", byteOffset := 8 }, { name := "Comment", type := 4, offset := 2, embedded := false, tag := "", pkgPath := "", byteOffset := 16 }, { name := "Err", type := 3, offset := 3, embedded := false, tag := "", pkgPath := "", byteOffset := 24 }]
def TD82 : TypeDesc := .struct #[{ name := "addr", type := 81, offset := 0, embedded := false, tag := "", pkgPath := "strings", byteOffset := 0 }, { name := "buf", type := 52, offset := 1, embedded := false, tag := "", pkgPath := "strings", byteOffset := 8 }]
def tabTy : Nat → Option TypeDesc
  | 0 => some (.tuple #[])
  | 2 => some (.int .i64)
  | 3 => some (.int .i64)
  | 4 => some (.bool)
  | 5 => some (.int .u8)
  | 6 => some (.int .u8)
  | 9 => some (.string)
  | 10 => some (.string)
  | 11 => some (.string)
  | 12 => some (.int .u64)
  | 15 => some (.pointer 206)
  | 16 => some (.pointer 209)
  | 17 => some (.pointer 216)
  | 21 => some (.int .i32)
  | 24 => some (.slice 35)
  | 25 => some (.int .i64)
  | 26 => some (.tuple #[24, 3, 25])
  | 28 => some (.pointer 32)
  | 30 => some (.slice 40)
  | 37 => some (.tuple #[30, 3, 25])
  | 46 => some (.tuple #[9, 25])
  | 49 => some (.tuple #[9, 3])
  | 52 => some (.slice 5)
  | 54 => some (.slice 9)
  | 55 => some (.tuple #[54, 25])
  | 57 => some (.tuple #[4, 25])
  | 61 => some (.tuple #[3, 25])
  | 63 => some (.tuple #[3, 3])
  | 65 => some (.tuple #[3, 3, 25])
  | 69 => some (.pointer 75)
  | 70 => some (.tuple #[69, 3, 25])
  | 81 => some (.pointer 83)
  | 86 => some (.interface #[("Error", 68)])
  | 88 => some (.tuple #[3, 86])
  | 91 => some (.tuple #[73, 4])
  | 103 => some (.tuple #[3, 4])
  | 108 => some (.pointer 5)
  | 122 => some (.tuple #[21, 3])
  | 124 => some (.int .u32)
  | 125 => some (.tuple #[124, 124])
  | 127 => some (.int .u64)
  | 7 => some TD7
  | 8 => some TD7
  | 13 => some TD13
  | 14 => some TD13
  | 18 => some TD18
  | 19 => some TD18
  | 31 => some TD31
  | 32 => some TD31
  | 34 => some TD34
  | 35 => some TD34
  | 39 => some TD39
  | 40 => some TD39
  | 72 => some TD72
  | 73 => some TD72
  | 74 => some TD74
  | 75 => some TD74
  | 76 => some TD76
  | 77 => some TD76
  | 82 => some TD82
  | 83 => some TD82
  | _ => none
def tabInfo : Nat → Option (List AV × Nat × Nat)
  | 2 => some ([.sc (.int .i64 0)], 1, 8)
  | 3 => some ([.sc (.int .i64 0)], 1, 8)
  | 4 => some ([.sc (.bool false)], 1, 1)
  | 5 => some ([.sc (.int .u8 0)], 1, 1)
  | 6 => some ([.sc (.int .u8 0)], 1, 1)
  | 7 => some ([.sc (.int .i64 0), .sc (.int .i64 0), .sc (.bool false), .sc (.int .u8 0)], 4, 24)
  | 8 => some ([.sc (.int .i64 0), .sc (.int .i64 0), .sc (.bool false), .sc (.int .u8 0)], 4, 24)
  | 9 => some ([.sc (.string ByteArray.empty)], 1, 16)
  | 10 => some ([.sc (.string ByteArray.empty)], 1, 16)
  | 11 => some ([.sc (.string ByteArray.empty)], 1, 16)
  | 12 => some ([.sc (.int .u64 0)], 1, 8)
  | 13 => some ([.sc (.string ByteArray.empty), .sc (.int .u64 0)], 2, 24)
  | 14 => some ([.sc (.string ByteArray.empty), .sc (.int .u64 0)], 2, 24)
  | 15 => some ([.sc (.pointer none)], 1, 8)
  | 16 => some ([.sc (.pointer none)], 1, 8)
  | 17 => some ([.sc (.pointer none)], 1, 8)
  | 18 => some ([.sc (.pointer none)], 1, 8)
  | 19 => some ([.sc (.pointer none)], 1, 8)
  | 21 => some ([.sc (.int .i32 0)], 1, 4)
  | 24 => some ([.sl 35 []], 1, 24)
  | 25 => some ([.sc (.int .i64 0)], 1, 8)
  | 28 => some ([.sc (.pointer none)], 1, 8)
  | 30 => some ([.sl 40 []], 1, 24)
  | 31 => some ([.sl 35 [], .sl 40 [], .sc (.int .i64 0), .sc (.int .i64 0)], 4, 64)
  | 32 => some ([.sl 35 [], .sl 40 [], .sc (.int .i64 0), .sc (.int .i64 0)], 4, 64)
  | 34 => some ([.sc (.int .i64 0), .sc (.string ByteArray.empty), .sc (.int .i64 0)], 3, 32)
  | 35 => some ([.sc (.int .i64 0), .sc (.string ByteArray.empty), .sc (.int .i64 0)], 3, 32)
  | 39 => some ([.sc (.int .i64 0), .sc (.int .i64 0)], 2, 16)
  | 40 => some ([.sc (.int .i64 0), .sc (.int .i64 0)], 2, 16)
  | 52 => some ([.sl 5 []], 1, 24)
  | 54 => some ([.sl 9 []], 1, 24)
  | 69 => some ([.sc (.pointer none)], 1, 8)
  | 72 => some ([.sl 9 [], .sl 9 []], 2, 48)
  | 73 => some ([.sl 9 [], .sl 9 []], 2, 48)
  | 74 => some ([.sc (.int .i64 0), .sl 9 [], .sl 9 [], .sc (.string ByteArray.empty), .sc (.int .i64 0), .sl 35 [], .sl 40 []], 7, 128)
  | 75 => some ([.sc (.int .i64 0), .sl 9 [], .sl 9 [], .sc (.string ByteArray.empty), .sc (.int .i64 0), .sl 35 [], .sl 40 []], 7, 128)
  | 76 => some ([.sc (.int .i64 0), .sc (.int .i64 0), .sc (.bool false), .sc (.int .i64 0)], 4, 32)
  | 77 => some ([.sc (.int .i64 0), .sc (.int .i64 0), .sc (.bool false), .sc (.int .i64 0)], 4, 32)
  | 81 => some ([.sc (.pointer none)], 1, 8)
  | 82 => some ([.sc (.pointer none), .sl 5 []], 2, 32)
  | 83 => some ([.sc (.pointer none), .sl 5 []], 2, 32)
  | 86 => some ([.sc .nilIface], 1, 16)
  | 108 => some ([.sc (.pointer none)], 1, 8)
  | 124 => some ([.sc (.int .u32 0)], 1, 4)
  | 127 => some ([.sc (.int .u64 0)], 1, 8)
  | _ => none
def tabShare : Nat → List Bool
  | 50 => [true, false]
  | _ => []
def tabRes : Nat → List Nat
  | 3 => [4]
  | 4 => [4]
  | 5 => [4]
  | 6 => [4]
  | 7 => [4]
  | 8 => [4]
  | 9 => [4]
  | 10 => [4]
  | 11 => [4]
  | 12 => [4]
  | 13 => [4]
  | 14 => [24, 3, 25]
  | 15 => [28]
  | 16 => [4]
  | 17 => [30, 3, 25]
  | 18 => [25]
  | 19 => [4]
  | 20 => [3]
  | 21 => [4]
  | 22 => [9, 25]
  | 23 => [24]
  | 24 => [9, 3]
  | 25 => [4]
  | 26 => [54, 25]
  | 27 => [54, 25]
  | 28 => [4, 25]
  | 29 => [4]
  | 30 => [54]
  | 31 => [54]
  | 32 => [4]
  | 33 => [3, 25]
  | 34 => [3, 3]
  | 35 => [3, 3, 25]
  | 36 => [9]
  | 37 => [69, 3, 25]
  | 38 => [77]
  | 39 => [4]
  | 40 => [3]
  | 41 => [4]
  | 46 => [4]
  | 47 => [73, 4]
  | 48 => [54]
  | 49 => [54]
  | 50 => [54]
  | 51 => [4]
  | 52 => [3]
  | 53 => [4]
  | 54 => [4]
  | 55 => [3]
  | 56 => [3]
  | 57 => [3]
  | 58 => [3, 25]
  | 59 => [3, 3, 25]
  | 60 => [3, 4]
  | 61 => [4]
  | 62 => [77]
  | 63 => [77]
  | 64 => [77]
  | 65 => [4]
  | 66 => [4]
  | 68 => [54]
  | 71 => [4]
  | 72 => [4]
  | 73 => [4]
  | 74 => [3]
  | 77 => [3]
  | 81 => [9]
  | 82 => [3]
  | 83 => [4]
  | 84 => [4]
  | 85 => [3]
  | 86 => [3, 4]
  | 87 => [4]
  | 88 => [3, 25]
  | 89 => [3, 25]
  | 90 => [3, 3, 25]
  | 91 => [3]
  | 92 => [4]
  | 93 => [3]
  | 103 => [4]
  | 104 => [4]
  | 105 => [4]
  | 106 => [3, 86]
  | 107 => [3]
  | 108 => [9]
  | 117 => [4]
  | _ => []
def tabPlan : Nat → Nat → Option (List (Nat × PK))
  | 3, 12 => some [(0, .norm), (1, .norm), (2, .norm), (3, .norm), (4, .norm), (5, .norm), (6, .norm), (7, .norm), (8, .norm), (9, .norm), (10, .norm), (11, .norm), (12, .norm), (13, .norm)]
  | 4, 12 => some [(0, .norm), (1, .norm), (2, .norm), (3, .norm), (4, .norm), (5, .norm), (6, .norm), (7, .norm), (8, .norm), (9, .norm), (10, .norm), (11, .norm)]
  | 8, 14 => some [(0, .norm), (1, .norm), (2, .norm), (3, .norm), (4, .norm), (5, .norm), (6, .norm), (7, .norm), (8, .norm), (9, .norm), (10, .norm), (11, .norm), (12, .norm), (13, .norm), (14, .norm), (15, .norm), (16, .norm), (17, .norm), (18, .norm), (19, .norm), (20, .norm), (21, .norm), (22, .norm), (23, .norm), (24, .norm), (25, .norm), (26, .norm)]
  | 8, 29 => some [(0, .norm), (1, .norm), (2, .norm), (3, .norm), (4, .norm), (5, .norm), (6, .norm), (7, .norm), (8, .norm)]
  | 9, 15 => some [(0, .norm), (1, .norm), (2, .norm), (3, .norm), (4, .norm), (5, .norm), (6, .norm), (7, .norm), (8, .norm), (9, .norm), (10, .norm), (11, .norm), (12, .norm), (13, .norm), (14, .norm), (15, .norm), (16, .norm), (17, .norm), (18, .norm), (19, .norm), (20, .norm), (21, .norm), (22, .norm), (23, .norm), (24, .norm), (25, .norm), (26, .norm), (27, .norm), (28, .norm), (29, .norm), (30, .norm), (31, .norm), (32, .norm), (33, .norm), (34, .norm), (35, .norm), (36, .norm), (37, .norm), (38, .norm), (39, .norm), (40, .norm), (41, .norm), (42, .norm), (43, .norm), (44, .norm)]
  | 9, 25 => some [(0, .norm), (1, .norm), (2, .norm), (3, .norm), (4, .norm), (5, .norm), (6, .norm), (7, .norm), (8, .norm), (9, .norm), (10, .norm), (11, .norm), (12, .norm), (13, .norm), (14, .norm), (15, .norm), (16, .norm), (17, .norm), (18, .norm), (19, .norm), (20, .norm), (21, .norm), (22, .norm), (23, .norm), (24, .norm)]
  | 15, 15 => some [(0, .norm), (1, .norm), (2, .norm), (3, .norm), (4, .norm), (5, .norm), (6, .norm), (7, .norm), (8, .norm), (9, .norm), (10, .norm), (11, .norm), (12, .norm), (13, .norm)]
  | 15, 16 => some [(0, .norm), (1, .norm), (2, .norm), (3, .norm), (4, .norm), (5, .norm), (6, .norm), (7, .norm), (8, .norm), (9, .norm), (10, .norm), (11, .norm), (12, .norm), (13, .norm), (14, .norm), (15, .norm), (16, .norm), (17, .norm), (18, .norm)]
  | 16, 6 => some [(0, .norm), (1, .norm), (2, .norm), (3, .norm), (4, .norm), (5, .norm), (6, .norm), (7, .norm), (8, .norm), (9, .norm), (10, .norm), (11, .norm), (12, .norm), (13, .norm), (14, .norm), (15, .norm), (16, .norm), (17, .norm), (18, .norm), (19, .norm), (20, .norm), (21, .norm), (22, .norm), (23, .norm)]
  | 20, 4 => some [(0, .norm), (1, .norm), (2, .norm), (3, .norm), (4, .norm), (5, .norm), (6, .norm), (7, .norm), (8, .norm), (9, .norm), (10, .norm), (11, .norm), (12, .norm), (13, .norm), (14, .norm), (15, .norm), (16, .norm), (17, .norm), (18, .norm), (19, .norm), (20, .norm), (21, .norm), (22, .norm)]
  | 24, 15 => some [(0, .norm), (1, .norm), (2, .norm), (3, .norm), (4, .norm), (5, .norm), (6, .norm), (7, .norm), (8, .norm), (9, .norm), (10, .norm), (11, .norm), (12, .norm), (13, .norm), (14, .norm), (15, .norm)]
  | 29, 6 => some [(0, .norm), (1, .norm), (2, .norm), (3, .norm), (4, .norm), (5, .norm), (6, .norm), (7, .norm), (8, .norm)]
  | 35, 6 => some [(0, .norm), (1, .norm), (2, .norm), (5, .norm), (6, .norm), (7, .norm), (8, .norm), (3, .norm), (4, .norm), (9, .norm), (10, .norm), (11, .norm), (12, .norm), (13, .norm)]
  | 37, 13 => some [(0, .norm), (1, .norm), (2, .norm), (3, .norm), (4, .norm), (5, .norm), (6, .norm), (7, .norm)]
  | 37, 15 => some [(0, .norm), (1, .norm), (2, .norm), (3, .norm), (4, .norm), (5, .norm), (6, .norm), (7, .norm), (8, .norm), (9, .norm), (10, .norm), (11, .norm), (12, .norm), (13, .norm), (14, .norm), (15, .norm), (16, .norm), (17, .norm), (18, .norm), (19, .norm), (20, .norm)]
  | 37, 19 => some [(0, .norm), (1, .norm), (2, .norm), (3, .norm), (4, .norm), (5, .norm), (6, .norm), (7, .norm)]
  | 37, 20 => some [(0, .norm), (1, .norm), (2, .norm), (3, .norm), (4, .norm), (5, .norm), (6, .norm), (7, .norm), (8, .norm), (9, .norm), (10, .norm), (11, .norm), (12, .norm), (13, .norm), (14, .norm), (15, .norm), (16, .norm), (17, .norm), (18, .norm), (19, .norm), (20, .norm), (21, .norm), (22, .norm), (23, .norm), (24, .norm), (25, .norm), (26, .norm), (27, .norm)]
  | 38, 7 => some [(0, .norm), (2, .norm), (3, .norm), (4, .norm), (5, .norm), (1, .norm), (6, .norm)]
  | 41, 6 => some [(0, .norm), (1, .norm), (2, .norm), (3, .norm), (4, .norm), (5, .norm), (6, .norm), (7, .norm), (8, .norm), (9, .norm), (10, .norm), (11, .norm), (12, .norm), (13, .norm), (14, .norm), (15, .norm), (16, .norm), (17, .norm), (18, .norm), (19, .norm), (20, .norm), (21, .norm), (22, .norm), (23, .norm), (24, .norm), (25, .norm), (26, .norm), (27, .norm), (28, .norm), (29, .norm), (30, .norm), (31, .norm), (32, .norm), (33, .norm), (34, .norm), (35, .norm), (36, .norm), (37, .norm), (38, .norm), (39, .norm), (40, .norm), (41, .norm), (42, .norm), (43, .norm), (44, .norm), (45, .norm), (46, .norm), (47, .norm), (48, .norm), (49, .norm), (50, .norm), (51, .norm), (52, .norm), (53, .norm), (54, .norm), (55, .norm), (56, .norm), (57, .norm), (58, .norm)]
  | 46, 6 => some [(0, .norm), (1, .norm), (2, .norm), (3, .norm), (4, .norm), (5, .norm), (6, .norm), (7, .norm), (8, .norm), (9, .norm), (10, .norm), (11, .norm), (12, .norm), (13, .norm), (14, .norm), (15, .norm), (16, .norm), (17, .norm), (18, .norm), (19, .norm), (20, .norm), (21, .norm), (22, .norm), (23, .norm)]
  | 50, 7 => some [(0, .norm), (1, .norm), (4, .norm), (5, .norm), (6, .norm), (2, .norm), (3, .norm), (7, .norm), (8, .norm)]
  | 59, 1 => some [(0, .norm), (1, .norm), (2, .norm), (3, .norm), (4, .norm), (5, .norm), (6, .norm), (7, .norm), (8, .norm), (9, .norm)]
  | 59, 6 => some [(0, .norm), (1, .norm), (2, .norm), (3, .norm), (4, .norm), (5, .norm), (6, .norm), (7, .norm), (8, .norm), (9, .norm), (10, .norm), (11, .norm), (12, .norm), (13, .norm), (14, .norm), (15, .norm), (16, .norm), (17, .norm), (18, .norm), (19, .norm), (20, .norm), (21, .norm), (22, .norm), (23, .norm), (24, .norm), (25, .norm)]
  | 81, 1 => some [(0, .norm), (1, .norm), (2, .norm), (3, .norm), (4, .norm), (5, .norm), (6, .norm), (7, .norm), (8, .norm), (9, .norm)]
  | _, _ => none
def tabExt : Nat → Option (List AV → Option AV)
  | 55 => some (extCount1)
  | 56 => some (extLast1)
  | 57 => some (extIdxB)
  | 77 => some (extIndex)
  | 106 => some (extAtoiE)
  | 107 => some (extIxAny)
  | 108 => some (extTrim)
  | 68 => some (extLang)
  | _ => none
def tabRo (t : Nat) : Bool := Nat.beq t 14 || Nat.beq t 17 || Nat.beq t 31 || Nat.beq t 50
def tabCopy : Nat → Nat → Option CopyR
  | _, _ => none
def tabCmp (t : Nat) : Bool := Nat.beq t 35 || Nat.beq t 40
def tabKeep : Nat → Nat → Option (List Nat)
  | 3, 10 => some [5, 8, 9]
  | 4, 10 => some [5, 8, 9]
  | 8, 12 => some [0, 1, 5, 8, 11, 12, 13]
  | 8, 17 => some [0, 1, 5, 8, 11, 13, 14]
  | 8, 27 => some [5, 15, 21]
  | 9, 12 => some [0, 1, 5, 8, 11, 12, 13]
  | 9, 19 => some [0, 1, 5, 8, 11, 12, 13, 15]
  | 9, 23 => some [1, 8, 11, 16]
  | 9, 28 => some [1, 8, 11, 16, 17]
  | 9, 34 => some [11, 18]
  | 11, 16 => some [0, 1, 9, 10, 11, 12, 13, 14]
  | 15, 8 => some [0, 1, 7, 8, 27]
  | 16, 4 => some [0, 1, 5]
  | 21, 4 => some [0, 3]
  | 24, 6 => some [0, 1, 6]
  | 24, 13 => some [0, 1, 8, 9]
  | 29, 4 => some [0, 1, 5]
  | 31, 6 => some [3, 4, 5]
  | 33, 5 => some [0, 4, 10, 11]
  | 34, 5 => some [0, 4, 5]
  | 37, 8 => some [1, 11, 35]
  | 38, 14 => some [1, 2, 6, 11]
  | 38, 24 => some [1, 2, 6, 12, 13, 14]
  | 50, 2 => some [0, 1, 5]
  | 52, 2 => some [0, 1, 7]
  | 58, 15 => some [0, 4, 8, 9]
  | 60, 3 => some [0, 1, 8, 9]
  | 60, 18 => some [0, 1, 11]
  | 62, 4 => some [0, 1, 2, 6, 7, 8, 9]
  | 63, 2 => some [0, 1, 4, 5]
  | 64, 3 => some [0, 1, 2, 6, 7, 8, 9]
  | 74, 2 => some [0, 1, 5]
  | 85, 3 => some [0, 3, 4]
  | 86, 3 => some [0, 1, 6, 7, 8]
  | 88, 3 => some [4, 5]
  | 89, 3 => some [4, 5]
  | 91, 3 => some [0, 3, 10, 11, 12]
  | 93, 2 => some [0, 1, 7, 8]
  | _, _ => none
noncomputable def tab : Tab := { fn := tabFn, ty := tabTy, info := tabInfo, ext := tabExt, keep := tabKeep, share := tabShare, res := tabRes, plan := tabPlan, cmp := tabCmp, roF := tabRo, copy := tabCopy, lay := layF }
end Go.Proofs.YtdhbhedfbdckaaaGreatDoor
