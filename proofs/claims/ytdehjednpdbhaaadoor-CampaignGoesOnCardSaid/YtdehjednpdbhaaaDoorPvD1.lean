/- A part of an interpreter of the model's code that is proved sound, and of laws told by it: DamExtF5, DamTab. -/
import Derived.Test.YtdehjednpdbhaaaDoorPvA1
import Derived.Test.YtdehjednpdbhaaaDoorProg
set_option linter.unusedVariables false
set_option linter.unusedSimpArgs false
/- Functions of the campaign's journal that are told by hand: the block of an entry, the blocks of a journal. -/
namespace Go.Dam
def byteZ (n : Int) : UInt8 := UInt8.ofNat (n % 256).toNat
/-- The record of an entry. -/
def recL (s : List UInt8) (d v t : Int) : List UInt8 :=
  165 :: byteZ s.length :: (s ++ [byteZ (d / 4294967296), byteZ (d / 16777216), byteZ (d / 65536), byteZ (d / 256), byteZ d, byteZ v, byteZ t, 90])
def padL (l : List UInt8) : List UInt8 := l ++ List.replicate (32 - l.length) 0
def chunkL : Nat → List UInt8 → List (List UInt8)
  | 0, _ => []
  | k + 1, l => if l.isEmpty then [] else l.take 32 :: chunkL k (l.drop 32)
def blocksL (l : List UInt8) : List (List UInt8) := chunkL l.length l
def strA (b : List UInt8) : AV := .sc (.string ⟨b.toArray⟩)
def extBlock : List AV → Option AV
  | [.agg [.sc (.string s), .sc (.int .i64 d), .sc (.int .i64 v), .sc (.int .i64 t)]] => if Nat.ble s.size 22 then some (strA (padL (recL s.data.toList d v t))) else none
  | _ => none
def extBlocks : List AV → Option AV
  | [.sc (.string s)] => if Nat.ble s.size 1536 && Nat.beq (s.size % 32) 0 then some (.sl 9 ((blocksL s.data.toList).map strA)) else none
  | _ => none
end Go.Dam

/- What the interpreter knows of this seat's program: written by wip/gentab.py. -/
namespace Go.Proofs.YtdehjednpdbhaaaDoor
open Go.Dam
noncomputable def tabFn : Nat → Option Func
  | 3 => some Tryd.f3
  | 4 => some Tryd.f4
  | 5 => some Tryd.f5
  | 6 => some Tryd.f6
  | 9 => some Tryd.f9
  | 10 => some Tryd.f10
  | 11 => some Tryd.f11
  | 12 => some Tryd.f12
  | 14 => some Tryd.f14
  | 15 => some Tryd.f15
  | 16 => some Tryd.f16
  | 18 => some Tryd.f18
  | 20 => some Tryd.f20
  | 23 => some Tryd.f23
  | 24 => some Tryd.f24
  | 26 => some Tryd.f26
  | 27 => some Tryd.f27
  | 28 => some Tryd.f28
  | 30 => some Tryd.f30
  | 31 => some Tryd.f31
  | 32 => some Tryd.f32
  | 33 => some Tryd.f33
  | 35 => some Tryd.f35
  | 36 => some Tryd.f36
  | 38 => some Tryd.f38
  | 39 => some Tryd.f39
  | 40 => some Tryd.f40
  | 41 => some Tryd.f41
  | 42 => some Tryd.f42
  | _ => none
def TD7 : TypeDesc := .struct #[{ name := "x", type := 2, offset := 0, embedded := false, tag := "", pkgPath := "runtime", byteOffset := 0 }, { name := "y", type := 3, offset := 1, embedded := false, tag := "", pkgPath := "runtime", byteOffset := 8 }, { name := "signed", type := 4, offset := 2, embedded := false, tag := "", pkgPath := "runtime", byteOffset := 16 }, { name := "code", type := 6, offset := 3, embedded := false, tag := "", pkgPath := "runtime", byteOffset := 17 }]
def TD13 : TypeDesc := .struct #[{ name := "msg", type := 9, offset := 0, embedded := false, tag := "", pkgPath := "runtime", byteOffset := 0 }, { name := "addr", type := 12, offset := 1, embedded := false, tag := "", pkgPath := "runtime", byteOffset := 16 }]
def TD18 : TypeDesc := .struct #[{ name := "typ", type := 17, offset := 0, embedded := false, tag := "", pkgPath := "internal/runtime/maps", byteOffset := 0 }]
def TD26 : TypeDesc := .struct #[{ name := "Entries", type := 24, offset := 0, embedded := false, tag := "", pkgPath := "", byteOffset := 0 }, { name := "Kept", type := 25, offset := 1, embedded := false, tag := "", pkgPath := "", byteOffset := 24 }]
def TD45 : TypeDesc := .struct #[{ name := "Test", type := 9, offset := 0, embedded := false, tag := "", pkgPath := "", byteOffset := 0 }, { name := "Digest", type := 3, offset := 1, embedded := false, tag := "", pkgPath := "", byteOffset := 16 }, { name := "Verdict", type := 3, offset := 2, embedded := false, tag := "", pkgPath := "", byteOffset := 24 }, { name := "Turns", type := 3, offset := 3, embedded := false, tag := "", pkgPath := "", byteOffset := 32 }]
def TD56 : TypeDesc := .struct #[{ name := "At", type := 3, offset := 0, embedded := false, tag := "", pkgPath := "", byteOffset := 0 }, { name := "Bytes", type := 9, offset := 1, embedded := false, tag := "", pkgPath := "", byteOffset := 8 }]
def TD62 : TypeDesc := .struct #[{ name := "addr", type := 61, offset := 0, embedded := false, tag := "", pkgPath := "strings", byteOffset := 0 }, { name := "buf", type := 25, offset := 1, embedded := false, tag := "", pkgPath := "strings", byteOffset := 8 }]
def TD102 : TypeDesc := .struct #[{ name := "lo", type := 5, offset := 0, embedded := false, tag := "", pkgPath := "unicode/utf8", byteOffset := 0 }, { name := "hi", type := 5, offset := 1, embedded := false, tag := "", pkgPath := "unicode/utf8", byteOffset := 1 }]
def TD109 : TypeDesc := .struct #[{ name := "_interface", type := 17, offset := 0, embedded := false, tag := "", pkgPath := "runtime", byteOffset := 0 }, { name := "concrete", type := 17, offset := 1, embedded := false, tag := "", pkgPath := "runtime", byteOffset := 8 }, { name := "asserted", type := 17, offset := 2, embedded := false, tag := "", pkgPath := "runtime", byteOffset := 16 }, { name := "missingMethod", type := 9, offset := 3, embedded := false, tag := "", pkgPath := "runtime", byteOffset := 24 }]
def TD112 : TypeDesc := .struct #[{ name := "_", type := 111, offset := 0, embedded := false, tag := "", pkgPath := "runtime", byteOffset := 0 }]
def TD121 : TypeDesc := .struct #[{ name := "Size_", type := 12, offset := 0, embedded := false, tag := "", pkgPath := "", byteOffset := 0 }, { name := "PtrBytes", type := 12, offset := 1, embedded := false, tag := "", pkgPath := "", byteOffset := 8 }, { name := "Hash", type := 115, offset := 2, embedded := false, tag := "", pkgPath := "", byteOffset := 16 }, { name := "TFlag", type := 116, offset := 3, embedded := false, tag := "", pkgPath := "", byteOffset := 20 }, { name := "Align_", type := 5, offset := 4, embedded := false, tag := "", pkgPath := "", byteOffset := 21 }, { name := "FieldAlign_", type := 5, offset := 5, embedded := false, tag := "", pkgPath := "", byteOffset := 22 }, { name := "Kind_", type := 117, offset := 6, embedded := false, tag := "", pkgPath := "", byteOffset := 23 }, { name := "Equal", type := 118, offset := 7, embedded := false, tag := "", pkgPath := "", byteOffset := 24 }, { name := "GCData", type := 78, offset := 8, embedded := false, tag := "", pkgPath := "", byteOffset := 32 }, { name := "Str", type := 119, offset := 9, embedded := false, tag := "", pkgPath := "", byteOffset := 40 }, { name := "PtrToThis", type := 120, offset := 10, embedded := false, tag := "", pkgPath := "", byteOffset := 44 }]
def tabTy : Nat → Option TypeDesc
  | 0 => some (.tuple #[])
  | 2 => some (.int .i64)
  | 3 => some (.int .i64)
  | 4 => some (.bool)
  | 5 => some (.int .u8)
  | 6 => some (.int .u8)
  | 9 => some (.string)
  | 10 => some (.string)
  | 11 => some (.string)
  | 12 => some (.int .u64)
  | 15 => some (.pointer 110)
  | 16 => some (.pointer 113)
  | 17 => some (.pointer 122)
  | 21 => some (.int .i32)
  | 22 => some (.slice 27)
  | 24 => some (.slice 46)
  | 25 => some (.slice 5)
  | 29 => some (.slice 57)
  | 30 => some (.int .i64)
  | 31 => some (.tuple #[29, 30])
  | 33 => some (.slice 3)
  | 34 => some (.tuple #[9, 30])
  | 36 => some (.tuple #[24, 29, 30])
  | 41 => some (.tuple #[24, 3, 30])
  | 47 => some (.tuple #[3, 3])
  | 51 => some (.slice 9)
  | 53 => some (.tuple #[3, 30])
  | 61 => some (.pointer 63)
  | 66 => some (.tuple #[3, 65])
  | 70 => some (.tuple #[46, 4])
  | 78 => some (.pointer 5)
  | 81 => some (.tuple #[9, 9, 4])
  | 83 => some (.int .u64)
  | 93 => some (.tuple #[92, 4])
  | 96 => some (.pointer 92)
  | 97 => some (.tuple #[21, 3])
  | 111 => some (.array 0 16)
  | 115 => some (.int .u32)
  | 116 => some (.int .u8)
  | 117 => some (.int .u8)
  | 119 => some (.int .i32)
  | 120 => some (.int .i32)
  | 7 => some TD7
  | 8 => some TD7
  | 13 => some TD13
  | 14 => some TD13
  | 18 => some TD18
  | 19 => some TD18
  | 26 => some TD26
  | 27 => some TD26
  | 45 => some TD45
  | 46 => some TD45
  | 56 => some TD56
  | 57 => some TD56
  | 62 => some TD62
  | 63 => some TD62
  | 102 => some TD102
  | 103 => some TD102
  | 109 => some TD109
  | 110 => some TD109
  | 112 => some TD112
  | 113 => some TD112
  | 121 => some TD121
  | 122 => some TD121
  | _ => none
def tabInfo : Nat → Option (List AV × Nat × Nat)
  | 2 => some ([.sc (.int .i64 0)], 1, 8)
  | 3 => some ([.sc (.int .i64 0)], 1, 8)
  | 4 => some ([.sc (.bool false)], 1, 1)
  | 5 => some ([.sc (.int .u8 0)], 1, 1)
  | 6 => some ([.sc (.int .u8 0)], 1, 1)
  | 7 => some ([.sc (.int .i64 0), .sc (.int .i64 0), .sc (.bool false), .sc (.int .u8 0)], 4, 24)
  | 8 => some ([.sc (.int .i64 0), .sc (.int .i64 0), .sc (.bool false), .sc (.int .u8 0)], 4, 24)
  | 9 => some ([.sc (.string ByteArray.empty)], 1, 16)
  | 10 => some ([.sc (.string ByteArray.empty)], 1, 16)
  | 11 => some ([.sc (.string ByteArray.empty)], 1, 16)
  | 12 => some ([.sc (.int .u64 0)], 1, 8)
  | 13 => some ([.sc (.string ByteArray.empty), .sc (.int .u64 0)], 2, 24)
  | 14 => some ([.sc (.string ByteArray.empty), .sc (.int .u64 0)], 2, 24)
  | 15 => some ([.sc (.pointer none)], 1, 8)
  | 16 => some ([.sc (.pointer none)], 1, 8)
  | 17 => some ([.sc (.pointer none)], 1, 8)
  | 18 => some ([.sc (.pointer none)], 1, 8)
  | 19 => some ([.sc (.pointer none)], 1, 8)
  | 21 => some ([.sc (.int .i32 0)], 1, 4)
  | 22 => some ([.sl 27 []], 1, 24)
  | 24 => some ([.sl 46 []], 1, 24)
  | 25 => some ([.sl 5 []], 1, 24)
  | 26 => some ([.sl 46 [], .sl 5 []], 2, 48)
  | 27 => some ([.sl 46 [], .sl 5 []], 2, 48)
  | 29 => some ([.sl 57 []], 1, 24)
  | 30 => some ([.sc (.int .i64 0)], 1, 8)
  | 33 => some ([.sl 3 []], 1, 24)
  | 45 => some ([.sc (.string ByteArray.empty), .sc (.int .i64 0), .sc (.int .i64 0), .sc (.int .i64 0)], 4, 40)
  | 46 => some ([.sc (.string ByteArray.empty), .sc (.int .i64 0), .sc (.int .i64 0), .sc (.int .i64 0)], 4, 40)
  | 51 => some ([.sl 9 []], 1, 24)
  | 56 => some ([.sc (.int .i64 0), .sc (.string ByteArray.empty)], 2, 24)
  | 57 => some ([.sc (.int .i64 0), .sc (.string ByteArray.empty)], 2, 24)
  | 61 => some ([.sc (.pointer none)], 1, 8)
  | 62 => some ([.sc (.pointer none), .sl 5 []], 2, 32)
  | 63 => some ([.sc (.pointer none), .sl 5 []], 2, 32)
  | 78 => some ([.sc (.pointer none)], 1, 8)
  | 83 => some ([.sc (.int .u64 0)], 1, 8)
  | 96 => some ([.sc (.pointer none)], 1, 8)
  | 102 => some ([.sc (.int .u8 0), .sc (.int .u8 0)], 2, 2)
  | 103 => some ([.sc (.int .u8 0), .sc (.int .u8 0)], 2, 2)
  | 109 => some ([.sc (.pointer none), .sc (.pointer none), .sc (.pointer none), .sc (.string ByteArray.empty)], 4, 40)
  | 110 => some ([.sc (.pointer none), .sc (.pointer none), .sc (.pointer none), .sc (.string ByteArray.empty)], 4, 40)
  | 111 => some ([], 0, 0)
  | 112 => some ([], 0, 0)
  | 113 => some ([], 0, 0)
  | 115 => some ([.sc (.int .u32 0)], 1, 4)
  | 116 => some ([.sc (.int .u8 0)], 1, 1)
  | 117 => some ([.sc (.int .u8 0)], 1, 1)
  | 119 => some ([.sc (.int .i32 0)], 1, 4)
  | 120 => some ([.sc (.int .i32 0)], 1, 4)
  | 121 => some ([.sc (.int .u64 0), .sc (.int .u64 0), .sc (.int .u32 0), .sc (.int .u8 0), .sc (.int .u8 0), .sc (.int .u8 0), .sc (.int .u8 0), .sc .nilFunc, .sc (.pointer none), .sc (.int .i32 0), .sc (.int .i32 0)], 11, 48)
  | 122 => some ([.sc (.int .u64 0), .sc (.int .u64 0), .sc (.int .u32 0), .sc (.int .u8 0), .sc (.int .u8 0), .sc (.int .u8 0), .sc (.int .u8 0), .sc .nilFunc, .sc (.pointer none), .sc (.int .i32 0), .sc (.int .i32 0)], 11, 48)
  | _ => none
def tabShare : Nat → List Bool
  | _ => []
def tabRes : Nat → List Nat
  | 3 => [4]
  | 4 => [4]
  | 5 => [3]
  | 6 => [29, 30]
  | 7 => [9, 30]
  | 8 => [24, 29, 30]
  | 9 => [4]
  | 10 => [33]
  | 11 => [9]
  | 12 => [24, 3, 30]
  | 13 => [9, 30]
  | 14 => [3, 3]
  | 15 => [30]
  | 16 => [24]
  | 17 => [51]
  | 18 => [3, 30]
  | 19 => [9]
  | 20 => [30]
  | 23 => [3]
  | 24 => [46, 4]
  | 26 => [30]
  | 27 => [4]
  | 28 => [4]
  | 30 => [4]
  | 31 => [4]
  | 32 => [9, 9, 4]
  | 33 => [9]
  | 35 => [4]
  | 36 => [3]
  | 38 => [4]
  | 39 => [4]
  | 40 => [4]
  | 41 => [9]
  | 42 => [9]
  | _ => []
def tabPlan : Nat → Nat → Option (List (Nat × PK))
  | 3, 28 => some [(0, .norm), (2, .norm), (4, .norm), (5, .norm), (6, .norm), (7, .norm), (8, .norm), (9, .norm), (10, .norm), (11, .norm), (1, .norm), (3, .norm), (12, .norm), (13, .norm), (14, .norm)]
  | 3, 32 => some [(0, .norm), (1, .norm), (2, .norm), (3, .norm), (4, .norm), (5, .norm), (6, .norm), (7, .norm), (8, .norm), (9, .norm), (10, .norm), (11, .norm), (12, .norm), (13, .norm), (14, .norm), (15, .norm), (16, .norm), (17, .norm), (18, .norm)]
  | 3, 34 => some [(0, .norm), (1, .norm), (2, .norm), (4, .norm), (5, .norm), (6, .norm), (7, .norm), (8, .norm), (9, .norm), (10, .norm), (11, .norm), (3, .norm), (12, .norm), (13, .norm), (14, .norm), (15, .norm), (16, .norm), (17, .norm), (18, .norm)]
  | 3, 37 => some [(0, .norm), (1, .norm), (2, .norm), (4, .norm), (6, .norm), (7, .norm), (3, .norm), (5, .norm), (8, .norm), (9, .norm), (10, .norm), (11, .norm), (12, .norm), (13, .norm), (14, .norm)]
  | 3, 39 => some [(0, .norm), (1, .norm), (2, .norm), (3, .norm), (4, .norm), (5, .norm), (6, .norm), (7, .norm), (9, .norm), (11, .norm), (12, .norm), (8, .norm), (10, .norm), (13, .norm), (14, .norm), (15, .norm), (16, .norm)]
  | 9, 6 => some [(0, .norm), (1, .norm), (2, .norm), (3, .norm), (4, .norm), (5, .norm), (6, .norm), (7, .norm), (8, .norm)]
  | 24, 10 => some [(0, .norm), (1, .norm), (2, .norm), (3, .norm), (4, .norm), (5, .norm), (6, .norm), (7, .norm), (8, .norm), (9, .norm)]
  | 24, 12 => some [(0, .norm), (1, .norm), (2, .norm), (3, .norm), (4, .norm), (5, .norm), (6, .norm), (7, .norm), (8, .norm), (9, .norm), (10, .norm), (11, .norm), (12, .norm), (13, .norm)]
  | 32, 6 => some [(0, .norm), (1, .norm), (2, .norm), (3, .norm), (4, .norm), (5, .norm), (6, .norm), (7, .norm), (8, .norm), (9, .norm), (10, .norm)]
  | 33, 4 => some [(0, .norm), (1, .norm), (2, .norm), (4, .norm), (5, .norm), (3, .norm), (6, .norm), (7, .norm)]
  | _, _ => none
def tabExt : Nat → Option (List AV → Option AV)
  | 17 => some (extBlocks)
  | 19 => some (extBlock)
  | _ => none
def tabRo (t : Nat) : Bool := Nat.beq t 8
def tabCopy : Nat → Nat → Option CopyR
  | _, _ => none
def tabCmp (t : Nat) : Bool := Nat.beq t 46
def tabKeep : Nat → Nat → Option (List Nat)
  | 3, 8 => some [0, 3, 4, 5]
  | 3, 18 => some [0, 3, 4, 5, 6, 7, 9, 10]
  | 6, 14 => some [7, 10, 39, 40, 41]
  | 9, 4 => some [0, 1, 5]
  | 10, 3 => some [0, 3, 4]
  | 14, 4 => some [0, 4]
  | 16, 3 => some [3, 9, 10, 11]
  | 18, 4 => some [10, 11, 12]
  | 20, 4 => some [0, 1, 10, 11, 12]
  | 24, 6 => some [2, 5, 7, 29, 30, 31]
  | 30, 4 => some [0, 3]
  | 35, 4 => some [15, 16, 17]
  | 36, 2 => some [0, 1, 7, 8]
  | 41, 1 => some [0, 1]
  | 42, 1 => some [0, 1]
  | _, _ => none
noncomputable def tab : Tab := { fn := tabFn, ty := tabTy, info := tabInfo, ext := tabExt, keep := tabKeep, share := tabShare, res := tabRes, plan := tabPlan, cmp := tabCmp, roF := tabRo, copy := tabCopy }
end Go.Proofs.YtdehjednpdbhaaaDoor
