/- A part of an interpreter of the model's code that is proved sound, and of laws told by it: DamExtF, DamExtF2, DamTab. -/
import Derived.Test.YtahifpeggdcamaaGreatDoorPrA1
import Derived.Lib.Atoi
import Derived.Lib.Bytealg
import Derived.Test.YtahifpeggdcamaaGreatDoorProg
set_option linter.unusedVariables false
set_option linter.unusedSimpArgs false
/- Library functions that are told by hand. -/
namespace Go.Dam
def isI64 : AV → Bool
  | .sc (.int .i64 _) => true
  | _ => false
/-- slices.Clone of whole numbers. -/
def extClone (T : Nat) : List AV → Option AV
  | [.sl T' l] => if Nat.beq T' T && (Nat.ble (l.length * 8) 140737488355328 && l.all isI64) then some (.sl T l) else none
  | _ => none
def dig (n : Nat) : List UInt8 := if Nat.blt n 10 then [UInt8.ofNat (48 + n)] else [UInt8.ofNat (48 + n / 10), UInt8.ofNat (48 + n % 10)]
/-- strconv.Itoa of a small number. -/
def extItoa : List AV → Option AV
  | [.sc (.int .i64 n)] => if decide (0 ≤ n) && decide (n < 100) then some (.sc (.string ⟨(dig n.toNat).toArray⟩)) else none
  | _ => none
def shortS (s : ByteArray) : Bool := Nat.ble s.size 1000
/-- strings.Join of four short texts. -/
def extJoin4 (T : Nat) : List AV → Option AV
  | [.sl T' [.sc (.string a), .sc (.string b), .sc (.string c), .sc (.string d)], .sc (.string s)] =>
    if Nat.beq T' T && (shortS a && (shortS b && (shortS c && (shortS d && shortS s)))) then
      some (.sc (.string ⟨(((a.data.toList ++ (s.data.toList ++ b.data.toList)) ++ (s.data.toList ++ c.data.toList)) ++ (s.data.toList ++ d.data.toList)).toArray⟩)) else none
  | _ => none
abbrev Q4 : Type := Int × Int × Int × Int
def dec4 : AV → Option Q4
  | .agg [.sc (.int .i64 a), .sc (.int .i64 b), .sc (.int .i64 c), .sc (.int .i64 d)] => some (a, b, c, d)
  | _ => none
def decAll : List AV → Option (List Q4)
  | [] => some []
  | a :: l => match dec4 a with
    | some x => match decAll l with
      | some xs => some (x :: xs)
      | none => none
    | none => none
def inTbl (S N : Int) (x : Q4) : Bool := decide (0 ≤ x.1) && (decide (x.1 < S) && (decide (0 ≤ x.2.1) && decide (x.2.1 < N)))
/-- The last step from a state by an input. -/
def lastQ (xs : List Q4) (f i : Nat) : Option Q4 := xs.reverse.find? fun x => x.1 == (f : Int) && x.2.1 == (i : Int)
def ptrQ : Option Q4 → AV
  | some x => .ref [.sc (.int .i64 x.1), .sc (.int .i64 x.2.1), .sc (.int .i64 x.2.2.1), .sc (.int .i64 x.2.2.2)]
  | none => .sc (.pointer none)
/-- model.tableOf: for each state and input a pointer to the step, or none. -/
def extTable (Ts Tr Tp : Nat) : List AV → Option AV
  | [.agg [.sc (.int .i64 S), .sc (.int .i64 N), .sc (.int .i64 _), .sc (.int .i64 _), .sl T l]] =>
    if Nat.beq T Ts && (decide (1 ≤ S) && (decide (S ≤ 1000) && (decide (1 ≤ N) && (decide (N ≤ 1000) && Nat.ble l.length 100000)))) then
      match decAll l with
      | some xs => if xs.all (inTbl S N) then some (.sl Tr ((List.range S.toNat).map fun f => .sl Tp ((List.range N.toNat).map fun i => ptrQ (lastQ xs f i)))) else none
      | none => none
    else none
  | _ => none
end Go.Dam

/- More library functions that are told by hand. -/
namespace Go.Dam
/-- slices.Values of whole numbers: g is the closure's function. -/
def extValues (g T : Nat) : List AV → Option AV
  | [.sl T' l] => if Nat.beq T' T && (Nat.ble (l.length * 8) 140737488355328 && l.all isI64) then some (.fn g [.ref [.sl T l]]) else none
  | _ => none
def decInts : List AV → List Int
  | .sc (.int .i64 n) :: l => n :: decInts l
  | _ => []
def sortI (l : List Int) : List Int := l.mergeSort fun x y => decide (x ≤ y)
/-- slices.Sorted of what slices.Values told. -/
def extSorted (g T : Nat) : List AV → Option AV
  | [.fn g' [.ref [.sl T' l]]] => if Nat.beq g' g && (Nat.beq T' T && (Nat.ble (l.length * 8) 140737488351232 && l.all isI64)) then some (.sl T ((sortI (decInts l)).map fun n => .sc (.int .i64 n))) else none
  | _ => none
/-- strconv.Atoi of a short text that is a number. -/
def extAtoi : List AV → Option AV
  | [.sc (.string s)] => if Nat.ble s.size 18 then (match Lib.atoi s.data.toList with
    | some n => some (.tup [.sc (.int .i64 n), .sc .nilIface])
    | none => none) else none
  | _ => none
def noDig (b : UInt8) : Bool := !(Nat.ble 48 b.toNat && Nat.ble b.toNat 57)
def ixOf (o : Option Nat) : Int := match o with
  | some i => (i : Int)
  | none => -1
/-- strings.indexFunc with the function g, which tells what is no digit. -/
def extIdxF (g : Nat) : List AV → Option AV
  | [.sc (.string s), .fn g' [], .sc (.bool true)] => if Nat.beq g' g then some (.sc (.int .i64 (ixOf (s.data.toList.findIdx? noDig)))) else none
  | _ => none
/-- The index of a byte. -/
def extIdxB : List AV → Option AV
  | [.sc (.string s), .sc (.int .u8 c)] => some (.sc (.int .i64 (Lib.indexByte s.data.toList c.toNat.toUInt8)))
  | _ => none
/-- strings.Count of a text of one byte. -/
def extCount1 : List AV → Option AV
  | [.sc (.string s), .sc (.string ⟨⟨[c]⟩⟩)] => some (.sc (.int .i64 (Lib.countByte s.data.toList c : Nat)))
  | _ => none
end Go.Dam

/- What the interpreter knows of this seat's program: written by wip/gentab.py. -/
namespace Go.Proofs.YtahifpeggdcamaaGreatDoor
open Go.Dam
noncomputable def tabFn : Nat → Option Func
  | 3 => some Tryz.f3
  | 4 => some Tryz.f4
  | 5 => some Tryz.f5
  | 6 => some Tryz.f6
  | 7 => some Tryz.f7
  | 8 => some Tryz.f8
  | 9 => some Tryz.f9
  | 10 => some Tryz.f10
  | 11 => some Tryz.f11
  | 12 => some Tryz.f12
  | 13 => some Tryz.f13
  | 14 => some Tryz.f14
  | 15 => some Tryz.f15
  | 16 => some Tryz.f16
  | 17 => some Tryz.f17
  | 18 => some Tryz.f18
  | 19 => some Tryz.f19
  | 20 => some Tryz.f20
  | 21 => some Tryz.f21
  | 22 => some Tryz.f22
  | 23 => some Tryz.f23
  | 24 => some Tryz.f24
  | 25 => some Tryz.f25
  | 26 => some Tryz.f26
  | 27 => some Tryz.f27
  | 30 => some Tryz.f30
  | 31 => some Tryz.f31
  | 32 => some Tryz.f32
  | 33 => some Tryz.f33
  | 34 => some Tryz.f34
  | 35 => some Tryz.f35
  | 37 => some Tryz.f37
  | 38 => some Tryz.f38
  | 41 => some Tryz.f41
  | 42 => some Tryz.f42
  | 43 => some Tryz.f43
  | 44 => some Tryz.f44
  | 45 => some Tryz.f45
  | 46 => some Tryz.f46
  | 47 => some Tryz.f47
  | 48 => some Tryz.f48
  | 49 => some Tryz.f49
  | 50 => some Tryz.f50
  | 51 => some Tryz.f51
  | 52 => some Tryz.f52
  | 53 => some Tryz.f53
  | 54 => some Tryz.f54
  | 55 => some Tryz.f55
  | 60 => some Tryz.f60
  | 61 => some Tryz.f61
  | 66 => some Tryz.f66
  | 67 => some Tryz.f67
  | 68 => some Tryz.f68
  | 69 => some Tryz.f69
  | 71 => some Tryz.f71
  | 72 => some Tryz.f72
  | 73 => some Tryz.f73
  | 74 => some Tryz.f74
  | 75 => some Tryz.f75
  | 76 => some Tryz.f76
  | 80 => some Tryz.f80
  | 84 => some Tryz.f84
  | 85 => some Tryz.f85
  | 86 => some Tryz.f86
  | 89 => some Tryz.f89
  | 90 => some Tryz.f90
  | 91 => some Tryz.f91
  | 92 => some Tryz.f92
  | 93 => some Tryz.f93
  | 94 => some Tryz.f94
  | 95 => some Tryz.f95
  | 119 => some Tryz.f119
  | 126 => some Tryz.f126
  | 127 => some Tryz.f127
  | 128 => some Tryz.f128
  | 129 => some Tryz.f129
  | 140 => some Tryz.f140
  | 147 => some Tryz.f147
  | _ => none
def TD7 : TypeDesc := .struct #[{ name := "x", type := 2, offset := 0, embedded := false, tag := "", pkgPath := "runtime", byteOffset := 0 }, { name := "y", type := 3, offset := 1, embedded := false, tag := "", pkgPath := "runtime", byteOffset := 8 }, { name := "signed", type := 4, offset := 2, embedded := false, tag := "", pkgPath := "runtime", byteOffset := 16 }, { name := "code", type := 6, offset := 3, embedded := false, tag := "", pkgPath := "runtime", byteOffset := 17 }]
def TD13 : TypeDesc := .struct #[{ name := "msg", type := 9, offset := 0, embedded := false, tag := "", pkgPath := "runtime", byteOffset := 0 }, { name := "addr", type := 12, offset := 1, embedded := false, tag := "", pkgPath := "runtime", byteOffset := 16 }]
def TD18 : TypeDesc := .struct #[{ name := "typ", type := 17, offset := 0, embedded := false, tag := "", pkgPath := "internal/runtime/maps", byteOffset := 0 }]
def TD23 : TypeDesc := .struct #[{ name := "States", type := 3, offset := 0, embedded := false, tag := "", pkgPath := "", byteOffset := 0 }, { name := "Inputs", type := 3, offset := 1, embedded := false, tag := "", pkgPath := "", byteOffset := 8 }, { name := "Outputs", type := 3, offset := 2, embedded := false, tag := "", pkgPath := "", byteOffset := 16 }, { name := "Start", type := 3, offset := 3, embedded := false, tag := "", pkgPath := "", byteOffset := 24 }, { name := "Steps", type := 22, offset := 4, embedded := false, tag := "", pkgPath := "", byteOffset := 32 }]
def TD59 : TypeDesc := .struct #[{ name := "States", type := 3, offset := 0, embedded := false, tag := "", pkgPath := "", byteOffset := 0 }, { name := "Start", type := 3, offset := 1, embedded := false, tag := "", pkgPath := "", byteOffset := 8 }, { name := "Inputs", type := 25, offset := 2, embedded := false, tag := "", pkgPath := "", byteOffset := 16 }, { name := "Outputs", type := 3, offset := 3, embedded := false, tag := "", pkgPath := "", byteOffset := 40 }, { name := "Vars", type := 57, offset := 4, embedded := false, tag := "", pkgPath := "", byteOffset := 48 }, { name := "Moves", type := 58, offset := 5, embedded := false, tag := "", pkgPath := "", byteOffset := 72 }]
def TD74 : TypeDesc := .struct #[{ name := "From", type := 3, offset := 0, embedded := false, tag := "", pkgPath := "", byteOffset := 0 }, { name := "Input", type := 3, offset := 1, embedded := false, tag := "", pkgPath := "", byteOffset := 8 }, { name := "Output", type := 3, offset := 2, embedded := false, tag := "", pkgPath := "", byteOffset := 16 }, { name := "To", type := 3, offset := 3, embedded := false, tag := "", pkgPath := "", byteOffset := 24 }]
def TD101 : TypeDesc := .struct #[{ name := "at", type := 25, offset := 0, embedded := false, tag := "", pkgPath := "examiner/model", byteOffset := 0 }, { name := "output", type := 3, offset := 1, embedded := false, tag := "", pkgPath := "examiner/model", byteOffset := 24 }]
def TD107 : TypeDesc := .struct #[{ name := "Kind", type := 3, offset := 0, embedded := false, tag := "", pkgPath := "", byteOffset := 0 }, { name := "N", type := 3, offset := 1, embedded := false, tag := "", pkgPath := "", byteOffset := 8 }]
def TD109 : TypeDesc := .struct #[{ name := "Var", type := 3, offset := 0, embedded := false, tag := "", pkgPath := "", byteOffset := 0 }, { name := "A", type := 108, offset := 1, embedded := false, tag := "", pkgPath := "", byteOffset := 8 }, { name := "B", type := 108, offset := 3, embedded := false, tag := "", pkgPath := "", byteOffset := 24 }, { name := "Minus", type := 4, offset := 5, embedded := false, tag := "", pkgPath := "", byteOffset := 40 }]
def TD113 : TypeDesc := .struct #[{ name := "From", type := 3, offset := 0, embedded := false, tag := "", pkgPath := "", byteOffset := 0 }, { name := "To", type := 3, offset := 1, embedded := false, tag := "", pkgPath := "", byteOffset := 8 }, { name := "Input", type := 3, offset := 2, embedded := false, tag := "", pkgPath := "", byteOffset := 16 }, { name := "Guard", type := 112, offset := 3, embedded := false, tag := "", pkgPath := "", byteOffset := 24 }, { name := "Sets", type := 111, offset := 4, embedded := false, tag := "", pkgPath := "", byteOffset := 48 }, { name := "Output", type := 108, offset := 5, embedded := false, tag := "", pkgPath := "", byteOffset := 72 }]
def TD115 : TypeDesc := .struct #[{ name := "Kind", type := 3, offset := 0, embedded := false, tag := "", pkgPath := "", byteOffset := 0 }, { name := "A", type := 108, offset := 1, embedded := false, tag := "", pkgPath := "", byteOffset := 8 }, { name := "B", type := 108, offset := 3, embedded := false, tag := "", pkgPath := "", byteOffset := 24 }]
def TD117 : TypeDesc := .struct #[{ name := "Low", type := 3, offset := 0, embedded := false, tag := "", pkgPath := "", byteOffset := 0 }, { name := "High", type := 3, offset := 1, embedded := false, tag := "", pkgPath := "", byteOffset := 8 }, { name := "Start", type := 3, offset := 2, embedded := false, tag := "", pkgPath := "", byteOffset := 16 }]
def TD130 : TypeDesc := .struct #[{ name := "addr", type := 128, offset := 0, embedded := false, tag := "", pkgPath := "strings", byteOffset := 0 }, { name := "buf", type := 129, offset := 1, embedded := false, tag := "", pkgPath := "strings", byteOffset := 8 }]
def TD215 : TypeDesc := .struct #[{ name := "Func", type := 9, offset := 0, embedded := false, tag := "", pkgPath := "", byteOffset := 0 }, { name := "Num", type := 9, offset := 1, embedded := false, tag := "", pkgPath := "", byteOffset := 16 }, { name := "Err", type := 134, offset := 2, embedded := false, tag := "", pkgPath := "", byteOffset := 32 }]
def TD224 : TypeDesc := .struct #[{ name := "s", type := 9, offset := 0, embedded := false, tag := "", pkgPath := "errors", byteOffset := 0 }]
def TD229 : TypeDesc := .struct #[{ name := "lo", type := 5, offset := 0, embedded := false, tag := "", pkgPath := "unicode/utf8", byteOffset := 0 }, { name := "hi", type := 5, offset := 1, embedded := false, tag := "", pkgPath := "unicode/utf8", byteOffset := 1 }]
def TD232 : TypeDesc := .struct #[{ name := "_interface", type := 17, offset := 0, embedded := false, tag := "", pkgPath := "runtime", byteOffset := 0 }, { name := "concrete", type := 17, offset := 1, embedded := false, tag := "", pkgPath := "runtime", byteOffset := 8 }, { name := "asserted", type := 17, offset := 2, embedded := false, tag := "", pkgPath := "runtime", byteOffset := 16 }, { name := "missingMethod", type := 9, offset := 3, embedded := false, tag := "", pkgPath := "runtime", byteOffset := 24 }]
def TD235 : TypeDesc := .struct #[{ name := "_", type := 234, offset := 0, embedded := false, tag := "", pkgPath := "runtime", byteOffset := 0 }]
def TD243 : TypeDesc := .struct #[{ name := "Size_", type := 12, offset := 0, embedded := false, tag := "", pkgPath := "", byteOffset := 0 }, { name := "PtrBytes", type := 12, offset := 1, embedded := false, tag := "", pkgPath := "", byteOffset := 8 }, { name := "Hash", type := 175, offset := 2, embedded := false, tag := "", pkgPath := "", byteOffset := 16 }, { name := "TFlag", type := 238, offset := 3, embedded := false, tag := "", pkgPath := "", byteOffset := 20 }, { name := "Align_", type := 5, offset := 4, embedded := false, tag := "", pkgPath := "", byteOffset := 21 }, { name := "FieldAlign_", type := 5, offset := 5, embedded := false, tag := "", pkgPath := "", byteOffset := 22 }, { name := "Kind_", type := 239, offset := 6, embedded := false, tag := "", pkgPath := "", byteOffset := 23 }, { name := "Equal", type := 240, offset := 7, embedded := false, tag := "", pkgPath := "", byteOffset := 24 }, { name := "GCData", type := 156, offset := 8, embedded := false, tag := "", pkgPath := "", byteOffset := 32 }, { name := "Str", type := 241, offset := 9, embedded := false, tag := "", pkgPath := "", byteOffset := 40 }, { name := "PtrToThis", type := 242, offset := 10, embedded := false, tag := "", pkgPath := "", byteOffset := 44 }]
def tabTy : Nat → Option TypeDesc
  | 0 => some (.tuple #[])
  | 2 => some (.int .i64)
  | 3 => some (.int .i64)
  | 4 => some (.bool)
  | 5 => some (.int .u8)
  | 6 => some (.int .u8)
  | 9 => some (.string)
  | 10 => some (.string)
  | 11 => some (.string)
  | 12 => some (.int .u64)
  | 15 => some (.pointer 233)
  | 16 => some (.pointer 236)
  | 17 => some (.pointer 244)
  | 21 => some (.int .i32)
  | 22 => some (.slice 75)
  | 25 => some (.slice 3)
  | 28 => some (.slice 25)
  | 29 => some (.int .i64)
  | 30 => some (.tuple #[25, 28, 29])
  | 33 => some (.slice 4)
  | 34 => some (.tuple #[28, 33])
  | 38 => some (.tuple #[25, 25, 29])
  | 43 => some (.tuple #[25, 25])
  | 46 => some (.tuple #[9, 29])
  | 49 => some (.tuple #[24, 29])
  | 51 => some (.tuple #[24, 3])
  | 55 => some (.tuple #[24, 28, 29])
  | 57 => some (.slice 118)
  | 58 => some (.slice 114)
  | 63 => some (.tuple #[3, 3])
  | 66 => some (.tuple #[25, 28])
  | 70 => some (.func #[125] #[] false)
  | 79 => some (.slice 83)
  | 80 => some (.slice 83)
  | 82 => some (.pointer 75)
  | 83 => some (.slice 82)
  | 85 => some (.slice 9)
  | 89 => some (.tuple #[9, 9, 4])
  | 91 => some (.array 4 3)
  | 92 => some (.tuple #[91, 4])
  | 94 => some (.tuple #[25, 3, 4])
  | 97 => some (.slice 100)
  | 100 => some (.array 2 3)
  | 103 => some (.tuple #[102, 29])
  | 111 => some (.slice 110)
  | 112 => some (.slice 116)
  | 121 => some (.tuple #[3, 29])
  | 126 => some (.slice 29)
  | 128 => some (.pointer 131)
  | 129 => some (.slice 5)
  | 134 => some (.interface #[("Error", 137)])
  | 135 => some (.tuple #[3, 134])
  | 142 => some (.tuple #[3, 4])
  | 145 => some (.slice 102)
  | 146 => some (.tuple #[102, 4])
  | 153 => some (.int .u64)
  | 156 => some (.pointer 5)
  | 167 => some (.int .i64)
  | 168 => some (.tuple #[3, 167])
  | 175 => some (.int .u32)
  | 177 => some (.int .u64)
  | 178 => some (.array 24 5)
  | 180 => some (.tuple #[129, 9])
  | 189 => some (.int .i64)
  | 190 => some (.tuple #[2, 134])
  | 192 => some (.pointer 216)
  | 199 => some (.int .u64)
  | 203 => some (.pointer 3)
  | 205 => some (.array 20 177)
  | 207 => some (.tuple #[175, 175])
  | 210 => some (.tuple #[21, 3])
  | 212 => some (.tuple #[177, 134])
  | 219 => some (.pointer 199)
  | 223 => some (.pointer 225)
  | 234 => some (.array 0 16)
  | 238 => some (.int .u8)
  | 239 => some (.int .u8)
  | 241 => some (.int .i32)
  | 242 => some (.int .i32)
  | 7 => some TD7
  | 8 => some TD7
  | 13 => some TD13
  | 14 => some TD13
  | 18 => some TD18
  | 19 => some TD18
  | 23 => some TD23
  | 24 => some TD23
  | 59 => some TD59
  | 60 => some TD59
  | 74 => some TD74
  | 75 => some TD74
  | 101 => some TD101
  | 102 => some TD101
  | 107 => some TD107
  | 108 => some TD107
  | 109 => some TD109
  | 110 => some TD109
  | 113 => some TD113
  | 114 => some TD113
  | 115 => some TD115
  | 116 => some TD115
  | 117 => some TD117
  | 118 => some TD117
  | 130 => some TD130
  | 131 => some TD130
  | 215 => some TD215
  | 216 => some TD215
  | 224 => some TD224
  | 225 => some TD224
  | 229 => some TD229
  | 230 => some TD229
  | 232 => some TD232
  | 233 => some TD232
  | 235 => some TD235
  | 236 => some TD235
  | 243 => some TD243
  | 244 => some TD243
  | _ => none
def tabInfo : Nat → Option (List AV × Nat × Nat)
  | 2 => some ([.sc (.int .i64 0)], 1, 8)
  | 3 => some ([.sc (.int .i64 0)], 1, 8)
  | 4 => some ([.sc (.bool false)], 1, 1)
  | 5 => some ([.sc (.int .u8 0)], 1, 1)
  | 6 => some ([.sc (.int .u8 0)], 1, 1)
  | 7 => some ([.sc (.int .i64 0), .sc (.int .i64 0), .sc (.bool false), .sc (.int .u8 0)], 4, 24)
  | 8 => some ([.sc (.int .i64 0), .sc (.int .i64 0), .sc (.bool false), .sc (.int .u8 0)], 4, 24)
  | 9 => some ([.sc (.string ByteArray.empty)], 1, 16)
  | 10 => some ([.sc (.string ByteArray.empty)], 1, 16)
  | 11 => some ([.sc (.string ByteArray.empty)], 1, 16)
  | 12 => some ([.sc (.int .u64 0)], 1, 8)
  | 13 => some ([.sc (.string ByteArray.empty), .sc (.int .u64 0)], 2, 24)
  | 14 => some ([.sc (.string ByteArray.empty), .sc (.int .u64 0)], 2, 24)
  | 15 => some ([.sc (.pointer none)], 1, 8)
  | 16 => some ([.sc (.pointer none)], 1, 8)
  | 17 => some ([.sc (.pointer none)], 1, 8)
  | 18 => some ([.sc (.pointer none)], 1, 8)
  | 19 => some ([.sc (.pointer none)], 1, 8)
  | 21 => some ([.sc (.int .i32 0)], 1, 4)
  | 22 => some ([.sl 75 []], 1, 24)
  | 23 => some ([.sc (.int .i64 0), .sc (.int .i64 0), .sc (.int .i64 0), .sc (.int .i64 0), .sl 75 []], 5, 56)
  | 24 => some ([.sc (.int .i64 0), .sc (.int .i64 0), .sc (.int .i64 0), .sc (.int .i64 0), .sl 75 []], 5, 56)
  | 25 => some ([.sl 3 []], 1, 24)
  | 28 => some ([.sl 25 []], 1, 24)
  | 29 => some ([.sc (.int .i64 0)], 1, 8)
  | 33 => some ([.sl 4 []], 1, 24)
  | 57 => some ([.sl 118 []], 1, 24)
  | 58 => some ([.sl 114 []], 1, 24)
  | 59 => some ([.sc (.int .i64 0), .sc (.int .i64 0), .sl 3 [], .sc (.int .i64 0), .sl 118 [], .sl 114 []], 6, 96)
  | 60 => some ([.sc (.int .i64 0), .sc (.int .i64 0), .sl 3 [], .sc (.int .i64 0), .sl 118 [], .sl 114 []], 6, 96)
  | 70 => some ([.sc .nilFunc], 1, 8)
  | 74 => some ([.sc (.int .i64 0), .sc (.int .i64 0), .sc (.int .i64 0), .sc (.int .i64 0)], 4, 32)
  | 75 => some ([.sc (.int .i64 0), .sc (.int .i64 0), .sc (.int .i64 0), .sc (.int .i64 0)], 4, 32)
  | 79 => some ([.sl 83 []], 1, 24)
  | 80 => some ([.sl 83 []], 1, 24)
  | 82 => some ([.sc (.pointer none)], 1, 8)
  | 83 => some ([.sl 82 []], 1, 24)
  | 85 => some ([.sl 9 []], 1, 24)
  | 91 => some ([.sc (.int .i64 0), .sc (.int .i64 0), .sc (.int .i64 0), .sc (.int .i64 0)], 4, 32)
  | 97 => some ([.sl 100 []], 1, 24)
  | 100 => some ([.sc (.int .i64 0), .sc (.int .i64 0)], 2, 16)
  | 101 => some ([.sl 3 [], .sc (.int .i64 0)], 2, 32)
  | 102 => some ([.sl 3 [], .sc (.int .i64 0)], 2, 32)
  | 107 => some ([.sc (.int .i64 0), .sc (.int .i64 0)], 2, 16)
  | 108 => some ([.sc (.int .i64 0), .sc (.int .i64 0)], 2, 16)
  | 109 => some ([.sc (.int .i64 0), .sc (.int .i64 0), .sc (.int .i64 0), .sc (.int .i64 0), .sc (.int .i64 0), .sc (.bool false)], 6, 48)
  | 110 => some ([.sc (.int .i64 0), .sc (.int .i64 0), .sc (.int .i64 0), .sc (.int .i64 0), .sc (.int .i64 0), .sc (.bool false)], 6, 48)
  | 111 => some ([.sl 110 []], 1, 24)
  | 112 => some ([.sl 116 []], 1, 24)
  | 113 => some ([.sc (.int .i64 0), .sc (.int .i64 0), .sc (.int .i64 0), .sl 116 [], .sl 110 [], .sc (.int .i64 0), .sc (.int .i64 0)], 7, 88)
  | 114 => some ([.sc (.int .i64 0), .sc (.int .i64 0), .sc (.int .i64 0), .sl 116 [], .sl 110 [], .sc (.int .i64 0), .sc (.int .i64 0)], 7, 88)
  | 115 => some ([.sc (.int .i64 0), .sc (.int .i64 0), .sc (.int .i64 0), .sc (.int .i64 0), .sc (.int .i64 0)], 5, 40)
  | 116 => some ([.sc (.int .i64 0), .sc (.int .i64 0), .sc (.int .i64 0), .sc (.int .i64 0), .sc (.int .i64 0)], 5, 40)
  | 117 => some ([.sc (.int .i64 0), .sc (.int .i64 0), .sc (.int .i64 0)], 3, 24)
  | 118 => some ([.sc (.int .i64 0), .sc (.int .i64 0), .sc (.int .i64 0)], 3, 24)
  | 126 => some ([.sl 29 []], 1, 24)
  | 128 => some ([.sc (.pointer none)], 1, 8)
  | 129 => some ([.sl 5 []], 1, 24)
  | 130 => some ([.sc (.pointer none), .sl 5 []], 2, 32)
  | 131 => some ([.sc (.pointer none), .sl 5 []], 2, 32)
  | 134 => some ([.sc .nilIface], 1, 16)
  | 145 => some ([.sl 102 []], 1, 24)
  | 153 => some ([.sc (.int .u64 0)], 1, 8)
  | 156 => some ([.sc (.pointer none)], 1, 8)
  | 167 => some ([.sc (.int .i64 0)], 1, 8)
  | 175 => some ([.sc (.int .u32 0)], 1, 4)
  | 177 => some ([.sc (.int .u64 0)], 1, 8)
  | 178 => some ([.sc (.int .u8 0), .sc (.int .u8 0), .sc (.int .u8 0), .sc (.int .u8 0), .sc (.int .u8 0), .sc (.int .u8 0), .sc (.int .u8 0), .sc (.int .u8 0), .sc (.int .u8 0), .sc (.int .u8 0), .sc (.int .u8 0), .sc (.int .u8 0), .sc (.int .u8 0), .sc (.int .u8 0), .sc (.int .u8 0), .sc (.int .u8 0), .sc (.int .u8 0), .sc (.int .u8 0), .sc (.int .u8 0), .sc (.int .u8 0), .sc (.int .u8 0), .sc (.int .u8 0), .sc (.int .u8 0), .sc (.int .u8 0)], 24, 24)
  | 189 => some ([.sc (.int .i64 0)], 1, 8)
  | 192 => some ([.sc (.pointer none)], 1, 8)
  | 199 => some ([.sc (.int .u64 0)], 1, 8)
  | 203 => some ([.sc (.pointer none)], 1, 8)
  | 205 => some ([.sc (.int .u64 0), .sc (.int .u64 0), .sc (.int .u64 0), .sc (.int .u64 0), .sc (.int .u64 0), .sc (.int .u64 0), .sc (.int .u64 0), .sc (.int .u64 0), .sc (.int .u64 0), .sc (.int .u64 0), .sc (.int .u64 0), .sc (.int .u64 0), .sc (.int .u64 0), .sc (.int .u64 0), .sc (.int .u64 0), .sc (.int .u64 0), .sc (.int .u64 0), .sc (.int .u64 0), .sc (.int .u64 0), .sc (.int .u64 0)], 20, 160)
  | 215 => some ([.sc (.string ByteArray.empty), .sc (.string ByteArray.empty), .sc .nilIface], 3, 48)
  | 216 => some ([.sc (.string ByteArray.empty), .sc (.string ByteArray.empty), .sc .nilIface], 3, 48)
  | 219 => some ([.sc (.pointer none)], 1, 8)
  | 223 => some ([.sc (.pointer none)], 1, 8)
  | 224 => some ([.sc (.string ByteArray.empty)], 1, 16)
  | 225 => some ([.sc (.string ByteArray.empty)], 1, 16)
  | 229 => some ([.sc (.int .u8 0), .sc (.int .u8 0)], 2, 2)
  | 230 => some ([.sc (.int .u8 0), .sc (.int .u8 0)], 2, 2)
  | 232 => some ([.sc (.pointer none), .sc (.pointer none), .sc (.pointer none), .sc (.string ByteArray.empty)], 4, 40)
  | 233 => some ([.sc (.pointer none), .sc (.pointer none), .sc (.pointer none), .sc (.string ByteArray.empty)], 4, 40)
  | 234 => some ([], 0, 0)
  | 235 => some ([], 0, 0)
  | 236 => some ([], 0, 0)
  | 238 => some ([.sc (.int .u8 0)], 1, 1)
  | 239 => some ([.sc (.int .u8 0)], 1, 1)
  | 241 => some ([.sc (.int .i32 0)], 1, 4)
  | 242 => some ([.sc (.int .i32 0)], 1, 4)
  | 243 => some ([.sc (.int .u64 0), .sc (.int .u64 0), .sc (.int .u32 0), .sc (.int .u8 0), .sc (.int .u8 0), .sc (.int .u8 0), .sc (.int .u8 0), .sc .nilFunc, .sc (.pointer none), .sc (.int .i32 0), .sc (.int .i32 0)], 11, 48)
  | 244 => some ([.sc (.int .u64 0), .sc (.int .u64 0), .sc (.int .u32 0), .sc (.int .u8 0), .sc (.int .u8 0), .sc (.int .u8 0), .sc (.int .u8 0), .sc .nilFunc, .sc (.pointer none), .sc (.int .i32 0), .sc (.int .i32 0)], 11, 48)
  | _ => none
def tabShare : Nat → List Bool
  | 29 => [true]
  | _ => []
def tabRes : Nat → List Nat
  | 3 => [4]
  | 4 => [4]
  | 5 => [4]
  | 6 => [3]
  | 7 => [25, 28, 29]
  | 8 => [24]
  | 9 => [28, 33]
  | 10 => [4]
  | 11 => [4]
  | 12 => [25, 25, 29]
  | 13 => [25]
  | 14 => [4]
  | 15 => [3]
  | 16 => [25, 25]
  | 17 => [9, 29]
  | 18 => [9]
  | 19 => [24, 29]
  | 20 => [24, 3]
  | 21 => [4]
  | 22 => [24, 28, 29]
  | 23 => [60]
  | 24 => [24]
  | 25 => [3, 3]
  | 26 => [29]
  | 27 => [25, 28]
  | 28 => [25]
  | 29 => [70]
  | 30 => [3]
  | 31 => [3]
  | 32 => [29]
  | 33 => [29]
  | 34 => [4]
  | 35 => [29]
  | 36 => [80]
  | 37 => [25]
  | 38 => [9]
  | 39 => [9]
  | 40 => [9]
  | 41 => [9]
  | 42 => [9, 9, 4]
  | 43 => [91, 4]
  | 44 => [25, 3, 4]
  | 45 => [29]
  | 46 => [97]
  | 47 => [25]
  | 48 => [102, 29]
  | 49 => [3]
  | 50 => [4]
  | 51 => [4]
  | 52 => [3]
  | 53 => [3]
  | 54 => [3, 29]
  | 55 => [4]
  | 56 => [25]
  | 60 => [4]
  | 61 => [4]
  | 66 => [9, 9, 4]
  | 67 => [85]
  | 68 => [4]
  | 69 => [4]
  | 70 => [3, 134]
  | 71 => [4]
  | 72 => [3, 4]
  | 73 => [3, 29]
  | 74 => [102, 4]
  | 75 => [3]
  | 76 => [3]
  | 80 => [3]
  | 84 => [3]
  | 85 => [85]
  | 86 => [3]
  | 89 => [4]
  | 90 => [29]
  | 91 => [4]
  | 92 => [4]
  | 93 => [4]
  | 94 => [3]
  | 95 => [4]
  | 113 => [3]
  | 117 => [85]
  | 118 => [3]
  | 119 => [3]
  | 120 => [3]
  | 126 => [29]
  | 127 => [4]
  | 128 => [4]
  | 129 => [3]
  | 140 => [175, 175]
  | 147 => [3]
  | _ => []
def tabPlan : Nat → Nat → Option (List (Nat × PK))
  | 3, 15 => some [(0, .norm), (1, .norm), (4, .norm), (5, .norm), (6, .norm), (7, .norm), (8, .norm), (2, .pre), (9, .pre), (2, .late), (3, .norm), (9, .late), (10, .norm), (11, .norm), (12, .norm)]
  | 5, 3 => some [(0, .norm), (1, .norm), (2, .norm), (3, .norm), (4, .norm), (5, .norm), (6, .norm), (7, .norm), (8, .norm), (9, .norm), (10, .norm), (11, .norm), (12, .norm), (13, .norm), (14, .norm), (15, .norm), (16, .norm), (17, .norm), (18, .norm), (19, .norm), (20, .norm)]
  | 9, 1 => some [(0, .norm), (1, .norm), (3, .norm), (4, .norm), (2, .pre), (5, .pre), (2, .late), (6, .norm), (5, .late), (7, .norm)]
  | 9, 10 => some [(0, .norm), (1, .norm), (2, .norm), (3, .norm), (4, .norm), (5, .norm), (6, .norm), (7, .norm)]
  | 9, 13 => some [(0, .norm), (1, .norm), (2, .norm), (3, .norm), (4, .norm), (5, .norm), (6, .norm), (7, .norm), (8, .norm), (9, .norm), (10, .norm), (11, .norm), (12, .norm), (13, .norm), (15, .norm), (16, .pre), (14, .norm), (16, .late), (17, .norm), (18, .norm), (19, .norm)]
  | 10, 6 => some [(0, .norm), (1, .norm), (2, .norm), (3, .norm), (4, .norm), (5, .norm), (6, .norm), (7, .norm), (8, .norm)]
  | 11, 6 => some [(0, .norm), (1, .norm), (2, .norm), (3, .norm), (4, .norm), (5, .norm), (6, .norm), (7, .norm), (8, .norm), (9, .norm)]
  | 12, 1 => some [(0, .norm), (2, .norm), (3, .norm), (4, .norm), (5, .norm), (8, .norm), (9, .norm), (10, .norm), (1, .norm), (6, .norm), (7, .norm), (11, .norm), (12, .norm), (13, .norm), (14, .norm)]
  | 16, 6 => some [(0, .norm), (1, .norm), (2, .norm), (3, .norm), (4, .norm), (5, .norm), (6, .norm), (7, .norm), (8, .norm), (9, .norm), (12, .norm), (13, .norm), (14, .norm), (15, .norm), (16, .norm), (17, .norm), (18, .norm), (19, .norm), (20, .norm), (21, .norm), (10, .pre), (22, .pre), (10, .late), (11, .norm), (22, .late), (23, .norm), (24, .norm), (25, .norm)]
  | 18, 1 => some [(0, .norm), (1, .norm), (4, .norm), (5, .norm), (9, .norm), (10, .norm), (14, .norm), (15, .norm), (2, .norm), (3, .norm), (6, .norm), (7, .norm), (8, .norm), (11, .norm), (12, .norm), (13, .norm), (16, .norm), (17, .norm), (18, .norm)]
  | 18, 6 => some [(0, .norm), (1, .norm), (2, .norm), (3, .norm), (7, .norm), (8, .norm), (12, .norm), (13, .norm), (17, .norm), (18, .norm), (4, .norm), (5, .norm), (6, .norm), (9, .norm), (10, .norm), (11, .norm), (14, .norm), (15, .norm), (16, .norm), (19, .norm), (20, .norm), (21, .norm)]
  | 20, 6 => some [(0, .norm), (1, .norm), (2, .norm), (3, .norm), (4, .norm), (5, .norm), (6, .norm), (7, .norm), (8, .norm), (9, .norm), (10, .norm), (11, .norm), (12, .norm), (13, .norm), (14, .norm)]
  | 20, 11 => some [(0, .norm), (1, .norm), (2, .norm), (3, .norm), (4, .norm), (5, .norm), (6, .norm), (7, .norm), (8, .norm), (9, .norm), (10, .norm), (11, .norm), (12, .norm), (13, .norm), (14, .norm), (15, .norm), (16, .norm), (17, .norm), (18, .norm)]
  | 21, 6 => some [(0, .norm), (1, .norm), (2, .norm), (3, .norm), (4, .norm), (5, .norm), (6, .norm), (7, .norm), (8, .norm), (9, .norm), (10, .norm)]
  | 22, 13 => some [(0, .norm), (1, .norm), (2, .norm), (3, .norm), (4, .norm), (5, .norm), (10, .pre), (6, .norm), (7, .norm), (8, .norm), (9, .norm), (10, .late), (11, .norm), (12, .norm)]
  | 24, 5 => some [(0, .norm), (1, .norm), (2, .norm), (3, .norm), (4, .norm), (5, .norm), (6, .norm), (8, .norm), (9, .norm), (10, .norm), (11, .norm), (7, .norm), (12, .norm), (13, .norm), (14, .norm), (15, .norm), (16, .norm)]
  | 25, 11 => some [(0, .norm), (1, .norm), (2, .norm), (3, .norm), (4, .norm), (5, .norm), (6, .norm), (7, .norm), (8, .norm), (9, .norm), (10, .norm), (11, .norm), (12, .norm), (13, .norm), (14, .norm), (15, .norm), (16, .norm), (18, .norm), (19, .norm), (20, .norm), (21, .norm), (17, .pre), (22, .pre), (17, .late), (22, .late), (23, .norm), (24, .norm), (25, .norm)]
  | 27, 10 => some [(0, .norm), (1, .norm), (2, .norm), (3, .norm), (4, .norm), (7, .norm), (8, .norm), (9, .norm), (10, .norm), (11, .norm), (13, .norm), (5, .pre), (14, .pre), (5, .late), (6, .norm), (12, .norm), (14, .late), (15, .norm), (16, .norm), (17, .norm), (18, .norm), (19, .norm)]
  | 37, 5 => some [(0, .norm), (1, .norm), (2, .norm), (3, .norm), (4, .norm), (5, .norm), (6, .norm), (7, .norm)]
  | 44, 10 => some [(0, .norm), (1, .norm), (2, .norm), (3, .norm), (4, .norm), (5, .norm), (6, .norm), (7, .norm), (8, .norm), (9, .norm), (10, .norm), (11, .norm), (12, .norm), (13, .norm), (14, .norm)]
  | 51, 6 => some [(0, .norm), (1, .norm), (2, .norm), (3, .norm), (4, .norm), (5, .norm), (6, .norm), (7, .norm), (8, .norm)]
  | 53, 4 => some [(0, .norm), (1, .norm), (2, .norm), (3, .norm), (4, .norm), (5, .norm), (6, .norm), (7, .norm), (8, .norm)]
  | 53, 5 => some [(0, .norm), (1, .norm), (2, .norm), (3, .norm), (4, .norm), (5, .norm), (6, .norm), (7, .norm), (8, .norm), (9, .norm), (10, .norm), (11, .norm), (12, .norm)]
  | 54, 10 => some [(0, .norm), (1, .norm), (2, .norm), (3, .norm), (4, .norm), (5, .norm), (6, .norm), (7, .norm), (8, .norm), (9, .norm), (10, .norm), (11, .norm), (13, .norm), (14, .norm), (15, .norm), (16, .norm), (17, .norm), (18, .norm), (19, .norm), (20, .norm), (21, .norm), (12, .norm), (22, .norm), (23, .norm), (24, .norm), (25, .norm), (26, .norm)]
  | 66, 3 => some [(0, .norm), (1, .norm), (2, .norm), (3, .norm), (4, .norm), (5, .norm), (6, .norm), (7, .norm), (8, .norm), (9, .norm), (10, .norm), (11, .norm)]
  | 73, 1 => some [(0, .norm), (1, .norm), (17, .norm), (18, .norm), (19, .norm), (20, .norm), (2, .norm), (3, .norm), (4, .norm), (5, .norm), (6, .norm), (7, .norm), (8, .norm), (9, .norm), (10, .norm), (11, .norm), (12, .norm), (13, .norm), (14, .norm), (15, .norm), (16, .norm), (21, .norm), (22, .norm), (23, .norm), (24, .norm)]
  | 74, 2 => some [(0, .norm), (1, .norm), (2, .norm), (3, .norm), (4, .norm), (5, .norm), (6, .norm), (7, .norm), (8, .norm), (9, .norm), (10, .norm), (11, .norm)]
  | 74, 4 => some [(0, .norm), (2, .norm), (3, .norm), (4, .norm), (5, .norm), (8, .pre), (1, .norm), (6, .norm), (7, .norm), (8, .late), (9, .norm)]
  | 74, 18 => some [(0, .norm), (1, .norm), (2, .norm), (3, .norm), (4, .norm), (5, .norm), (6, .norm), (7, .norm), (8, .norm)]
  | 90, 1 => some [(0, .norm), (1, .norm), (2, .norm), (3, .norm), (4, .norm), (24, .norm), (25, .norm), (26, .norm), (27, .norm), (5, .norm), (6, .norm), (7, .norm), (8, .norm), (9, .norm), (10, .norm), (11, .norm), (12, .norm), (13, .norm), (14, .norm), (15, .norm), (16, .norm), (17, .norm), (18, .norm), (19, .norm), (20, .norm), (21, .norm), (22, .norm), (23, .norm), (28, .norm), (29, .norm), (30, .norm), (31, .norm), (32, .norm), (33, .norm), (34, .norm), (35, .norm), (36, .norm), (37, .norm)]
  | 90, 7 => some [(0, .norm), (1, .norm), (4, .norm), (5, .norm), (6, .norm), (8, .norm), (9, .norm), (10, .norm), (2, .norm), (3, .norm), (7, .norm), (11, .norm), (12, .norm), (13, .norm), (14, .norm)]
  | 90, 15 => some [(0, .norm), (1, .norm), (2, .norm), (3, .norm), (4, .norm), (5, .norm), (8, .norm), (9, .norm), (11, .norm), (12, .norm), (13, .norm), (15, .norm), (16, .norm), (17, .norm), (6, .norm), (7, .norm), (10, .norm), (14, .norm), (18, .norm), (19, .norm), (20, .norm), (21, .norm)]
  | 92, 1 => some [(0, .norm), (1, .norm), (2, .norm), (3, .norm), (5, .norm), (6, .norm), (7, .norm), (8, .norm), (4, .norm), (9, .norm), (10, .norm), (11, .norm)]
  | _, _ => none
def tabExt : Nat → Option (List AV → Option AV)
  | 113 => some (extIdxB)
  | 118 => some (extCount1)
  | 28 => some (extSorted 59 3)
  | 29 => some (extValues 59 3)
  | 36 => some (extTable 75 83 82)
  | 39 => some (extItoa)
  | 40 => some (extJoin4 9)
  | 56 => some (extClone 3)
  | 70 => some (extAtoi)
  | 120 => some (extIdxF 69)
  | _ => none
def tabRo (t : Nat) : Bool := Nat.beq t 29 || Nat.beq t 36 || Nat.beq t 47 || Nat.beq t 48 || Nat.beq t 67 || Nat.beq t 74 || Nat.beq t 85
def tabCopy : Nat → Nat → Option CopyR
  | _, _ => none
def tabCmp (t : Nat) : Bool := Nat.beq t 75
def tabKeep : Nat → Nat → Option (List Nat)
  | 3, 12 => some [1, 2, 3, 7, 8, 9, 11, 12, 13, 14, 15]
  | 7, 8 => some [6, 7, 8, 9, 25, 26, 27]
  | 9, 5 => some [1, 4, 5, 6, 7]
  | 9, 8 => some [1, 4, 5, 6, 7, 8]
  | 10, 4 => some [0, 1, 5]
  | 11, 4 => some [0, 1, 5]
  | 12, 7 => some [1, 10, 11, 12, 35, 36, 37]
  | 15, 4 => some [0, 1, 7]
  | 16, 4 => some [3, 8, 9, 10, 11]
  | 17, 7 => some [5, 6, 26, 27, 28]
  | 18, 3 => some [1, 3, 4]
  | 19, 6 => some [2, 5, 6, 7, 8, 9]
  | 20, 7 => some [0, 2, 5, 7]
  | 21, 4 => some [2, 3, 5]
  | 22, 8 => some [1, 2, 6, 7, 8, 9]
  | 22, 11 => some [1, 2, 6, 7, 8, 9, 37, 38, 39]
  | 24, 3 => some [0, 2, 3, 4]
  | 25, 6 => some [1, 4]
  | 27, 4 => some [4, 5, 6, 7]
  | 27, 7 => some [4, 5, 6, 7, 28, 29, 30]
  | 30, 2 => some [0, 1, 7, 8]
  | 31, 2 => some [1, 2, 3, 7]
  | 32, 3 => some [3, 6, 7, 8]
  | 37, 3 => some [1, 2, 3, 7, 8]
  | 38, 3 => some [3, 6, 7, 8]
  | 41, 6 => some [0, 3]
  | 43, 6 => some [2, 4, 15, 16, 17]
  | 44, 2 => some [0, 1, 7]
  | 44, 3 => some [0, 1, 7, 8]
  | 46, 3 => some [3, 8, 9, 10]
  | 46, 6 => some [3, 4, 8, 9, 10, 15, 16]
  | 47, 3 => some [3, 10, 11, 12]
  | 48, 3 => some [1, 3, 5, 6, 8, 14, 15, 16]
  | 49, 2 => some [0, 1, 7, 8]
  | 51, 4 => some [0, 1, 12, 13]
  | 53, 2 => some [0, 1, 5]
  | 54, 6 => some [1, 41, 42, 43]
  | 72, 8 => some [0, 4, 5, 6]
  | 73, 6 => some [1, 5, 42, 43, 44]
  | 73, 16 => some [1, 8, 73, 74, 75]
  | 73, 22 => some [1, 112, 113, 114]
  | 74, 7 => some [4, 6, 7, 8, 11, 44, 45, 46]
  | 75, 3 => some [3, 6, 7, 8]
  | 80, 2 => some [0, 1, 7, 8]
  | 84, 15 => some [0, 1, 5, 6, 7, 8, 9, 10]
  | 85, 11 => some [0, 1, 2, 3, 9, 10]
  | 90, 5 => some [2, 3, 54, 55, 56]
  | 90, 12 => some [2, 3, 79, 80, 81]
  | 129, 2 => some [0, 1, 7, 8]
  | 140, 3 => some [0, 4, 5]
  | 140, 8 => some [4, 6, 7, 8]
  | 147, 2 => some [0, 1, 7, 8]
  | _, _ => none
noncomputable def tab : Tab := { fn := tabFn, ty := tabTy, info := tabInfo, ext := tabExt, keep := tabKeep, share := tabShare, res := tabRes, plan := tabPlan, cmp := tabCmp, roF := tabRo, copy := tabCopy }
end Go.Proofs.YtahifpeggdcamaaGreatDoor
