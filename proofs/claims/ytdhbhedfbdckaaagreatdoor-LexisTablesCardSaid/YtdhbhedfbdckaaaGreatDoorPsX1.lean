/- More parts of the texts of this chapter: equations and laws that one law more wants. -/
import Derived.Test.YtdhbhedfbdckaaaGreatDoorPsE1
import Derived.Test.YtdhbhedfbdckaaaGreatDoorPsD1
import Derived.KernelRfl
import Derived.Test.YtdhbhedfbdckaaaGreatDoorPsG1
import Derived.Test.YtdhbhedfbdckaaaGreatDoorPsF4
import Derived.Test.YtdhbhedfbdckaaaGreatDoorPsH1
set_option linter.unusedVariables false
set_option linter.unusedSimpArgs false
namespace Go.Proofs.YtdhbhedfbdckaaaGreatDoor
open Go.Dam
set_option linter.unusedVariables false
set_option maxRecDepth 100000
noncomputable section
def tr26 (K : Nat) (a0 : Int) : OA :=
  match run tab K 47 [I a0] with | some r93 => (castL 9 (cellN (compN r93 0) 0) fun l94 => castL 9 (cellN (compN r93 0) 1) fun l95 => castB (compN r93 1) fun b96 => match (!b96) with | true => (some (.tup [.sl 9 [], I 4])) | false => (some (.tup [.sl 9 l94, I 0]))) | none => none
def sh26 (K : Nat) (a0 : Int) : OA := tr26 K a0
theorem eq26 (K : Nat) (a0 : Int) : run tab (K + 1) 26 [I a0] = sh26 K a0 := by kernel_rfl

def tr27 (K : Nat) (a0 : Int) : OA :=
  match run tab K 47 [I a0] with | some r97 => (castL 9 (cellN (compN r97 0) 0) fun l98 => castL 9 (cellN (compN r97 0) 1) fun l99 => castB (compN r97 1) fun b100 => match (!b100) with | true => (some (.tup [.sl 9 [], I 4])) | false => (some (.tup [.sl 9 l99, I 0]))) | none => none
def sh27 (K : Nat) (a0 : Int) : OA := tr27 K a0
theorem eq27 (K : Nat) (a0 : Int) : run tab (K + 1) 27 [I a0] = sh27 K a0 := by kernel_rfl

def tr28 (K : Nat) (a0 : Int) (a1 : ByteArray) : OA :=
  match (a0 != (0 : Int)) with | true => (match (a0 != (1 : Int)) with | true => (some (.tup [B false, I 4])) | false => (match run tab K 39 [I a0, I 0, St a1] with | some r101 => (castB r101 fun b102 => some (.tup [B b102, I 0])) | none => none)) | false => (match run tab K 39 [I a0, I 0, St a1] with | some r103 => (castB r103 fun b104 => some (.tup [B b104, I 0])) | none => none)
def sh28 (K : Nat) (a0 : Int) (a1 : ByteArray) : OA := tr28 K a0 a1
theorem eq28 (K : Nat) (a0 : Int) (a1 : ByteArray) : run tab (K + 1) 28 [I a0, St a1] = sh28 K a0 a1 := by kernel_rfl

def tr29_4 (K : Nat) (q4 : LA → LA → Int → OA) (y1 : LA) (y2 : LA) (y3 : Int) : OA :=
  match decide (y3 < (y1.length : Int)) with | true => (if 0 ≤ y3 then (match y1[y3.toNat]? with | some x105 => (castS x105 fun s106 => if 0 ≤ y3 then (match y2[y3.toNat]? with | some x107 => (castS x107 fun s108 => match (!(s106 == s108)) with | true => (some (B false)) | false => (q4 y1 y2 (IntKind.i64.wrap (y3 + 1)))) | none => none) else none) | none => none) else none) | false => (some (B true))
def tr29 (K : Nat) (q4 : LA → LA → Int → OA) (a0 : LA) (a1 : LA) : OA :=
  match ((a0.length : Int) != (a1.length : Int)) with | true => (some (B false)) | false => (q4 a0 a1 (0 : Int))
def lp29_4 (K : Nat) : Nat → LA → LA → Int → OA
  | 0, _, _, _ => none
  | k + 1, y1, y2, y3 => tr29_4 K (lp29_4 K k) y1 y2 y3
def sh29 (K : Nat) (a0 : LA) (a1 : LA) : OA := tr29 K (lp29_4 K K) a0 a1
def fr29_4 (y1 : LA) (y2 : LA) (y3 : Int) : Fr := { slots := (.sl 9 y1, .uni .lent) :: (.sl 9 y2, .uni .lent) :: gap 3 ((I y3, .uni .ro) :: gap 20 []), boxes := [] }
theorem st29_4 (K : Nat) (k : Nat) (y1 : LA) (y2 : LA) (y3 : Int) : mlp 29 Tryz.f29 K 4 (fun i_ => fun _ => none) (k + 1) (fr29_4 y1 y2 y3) = tr29_4 K (fun y1 y2 y3 => mlp 29 Tryz.f29 K 4 (fun i_ => fun _ => none) k (fr29_4 y1 y2 y3)) y1 y2 y3 := by kernel_rfl
theorem lq29_4 (K : Nat) : ∀ (k : Nat) (y1 : LA) (y2 : LA) (y3 : Int), mlp 29 Tryz.f29 K 4 (fun i_ => fun _ => none) k (fr29_4 y1 y2 y3) = lp29_4 K k y1 y2 y3
  | 0, _, _, _ => rfl
  | k + 1, y1, y2, y3 => by
    rw [st29_4]
    have ih := lq29_4 K k
    try simp only [ih]
    try rfl
theorem eq29 (K : Nat) (a0 : LA) (a1 : LA) : run tab (K + 1) 29 [.sl 9 a0, .sl 9 a1] = sh29 K a0 a1 := by
  have h : run tab (K + 1) 29 [.sl 9 a0, .sl 9 a1] = tr29 K (fun y1 y2 y3 => mlp 29 Tryz.f29 K 4 (fun i_ => fun _ => none) K (fr29_4 y1 y2 y3)) a0 a1 := by kernel_rfl
  rw [h]
  simp only [lq29_4]
  rfl

def tr32 (K : Nat) (a0 : Int) (a1 : ByteArray) : OA :=
  match run tab K 25 [I (a1.size : Int), I 1, I 32] with | some r113 => (castB r113 fun b114 => match b114 with | true => (if 0 ≤ (0 : Int) then (match a1[(0 : Int).toNat]? with | some c115 => (match run tab K 51 [.sc (.int .u8 (c115.toNat : Int))] with | some r116 => (castB r116 fun b117 => match b117 with | true => (match run tab K 52 [I a0, St a1, I 0] with | some r118 => (castI .i64 r118 fun n119 => match (n119 == (a1.size : Int)) with | true => (match run tab K 30 [I a0] with | some r120 => (castL 9 r120 fun l121 => match run tab K 53 [.sl 9 l121, St a1] with | some r122 => (castB r122 fun b123 => some (B (!b123))) | none => none) | none => none) | false => (some (B false))) | none => none) | false => (some (B false))) | none => none) | none => none) else none) | false => (some (B false))) | none => none
def sh32 (K : Nat) (a0 : Int) (a1 : ByteArray) : OA := tr32 K a0 a1
theorem eq32 (K : Nat) (a0 : Int) (a1 : ByteArray) : run tab (K + 1) 32 [I a0, St a1] = sh32 K a0 a1 := by kernel_rfl

end
end Go.Proofs.YtdhbhedfbdckaaaGreatDoor

namespace Go.Proofs.YtdhbhedfbdckaaaGreatDoor
open Go.Dam
set_option linter.unusedVariables false
set_option maxRecDepth 100000
noncomputable section
def tr10 (K : Nat) (a0 : Int) (a1 : ByteArray) : OA :=
  match run tab2 K 12 [] with | some r95 => (castB r95 fun b96 => match (!b96) with | true => (some (B false)) | false => (match decide ((a1.size : Int) > (100 : Int)) with | true => (some (B true)) | false => (match run tab2 K 26 [I a0] with | some r97 => (castL 9 (compN r97 0) fun l98 => castI .i64 (compN r97 1) fun n99 => match run tab2 K 27 [I a0] with | some r100 => (castL 9 (compN r100 0) fun l101 => castI .i64 (compN r100 1) fun n102 => match run tab2 K 28 [I a0, St a1] with | some r103 => (castB (compN r103 0) fun b104 => castI .i64 (compN r103 1) fun n105 => match run tab2 K 19 [I a0] with | some r106 => (castB r106 fun b107 => match (!b107) with | true => (match (n99 == (4 : Int)) with | true => (match ((l98.length : Int) == (0 : Int)) with | true => (match (n102 == (4 : Int)) with | true => (match ((l101.length : Int) == (0 : Int)) with | true => (match (n105 == (4 : Int)) with | true => (some (B (!b104))) | false => (some (B false))) | false => (some (B false))) | false => (some (B false))) | false => (some (B false))) | false => (some (B false))) | false => (match (n99 == (0 : Int)) with | true => (match run tab2 K 30 [I a0] with | some r108 => (castL 9 r108 fun l109 => match run tab2 K 29 [.sl 9 l98, .sl 9 l109] with | some r110 => (castB r110 fun b111 => match b111 with | true => (match (n102 == (0 : Int)) with | true => (match run tab2 K 31 [I a0] with | some r112 => (castL 9 r112 fun l113 => match run tab2 K 29 [.sl 9 l101, .sl 9 l113] with | some r114 => (castB r114 fun b115 => match b115 with | true => (match (n105 == (0 : Int)) with | true => (match run tab2 K 32 [I a0, St a1] with | some r116 => (castB r116 fun b117 => some (B (b104 == b117))) | none => none) | false => (some (B false))) | false => (some (B false))) | none => none) | none => none) | false => (some (B false))) | false => (some (B false))) | none => none) | none => none) | false => (some (B false)))) | none => none) | none => none) | none => none) | none => none))) | none => none
def sh10 (K : Nat) (a0 : Int) (a1 : ByteArray) : OA := tr10 K a0 a1
theorem eq10 (K : Nat) (a0 : Int) (a1 : ByteArray) : run tab2 (K + 1) 10 [I a0, St a1] = sh10 K a0 a1 := by kernel_rfl

end
end Go.Proofs.YtdhbhedfbdckaaaGreatDoor
