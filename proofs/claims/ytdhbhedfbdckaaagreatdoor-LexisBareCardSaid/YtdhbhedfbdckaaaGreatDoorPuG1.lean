/- A part of an interpreter of the model's code that is proved sound, and of laws told by it: DamG2, DamG3. -/
import Derived.Test.YtdhbhedfbdckaaaGreatDoorPuF4
import Derived.KernelRfl
set_option linter.unusedVariables false
set_option linter.unusedSimpArgs false
namespace Go.Proofs.YtdhbhedfbdckaaaGreatDoor
open Go.Dam
set_option linter.unusedVariables false
set_option maxRecDepth 100000
noncomputable section
def mlp2 (f : Nat) (fn : Func) (K j : Nat) (outs : Nat → Fr → OA) : Nat → Fr → OA := loopN (atLoop tab2 (run tab2 K) f K j outs (bodyOf fn) (doneK tab2 (tab2.roF f) fn) (fun _ _ => none) (doneK tab2 (tab2.roF f) fn)) (tab2.keep f j)

def tr3_10 (K : Nat) (q10 : LA → AV → Int → OA) (y1 : LA) (y2 : AV) (y3 : Int) : OA :=
  match decide (y3 < (y1.length : Int)) with | true => (if 0 ≤ y3 then (match y1[y3.toNat]? with | some x22 => (castI .i64 (cellN x22 2) fun n23 => castRef y2 fun p24 => castRef (.ref p24) fun p25 => castL 35 (p25.getD 0 .undef) fun l26 => if 0 ≤ y3 then (match l26[y3.toNat]? with | some x27 => (castI .i64 (cellN x27 2) fun n28 => match (n23 != n28) with | true => (some (B false)) | false => (q10 y1 y2 (IntKind.i64.wrap (y3 + 1)))) | none => none) else none) | none => none) else none) | false => (some (B true))
def tr12 (K : Nat) : OA :=
  match run tab2 K 36 [] with | some r135 => (castS r135 fun s136 => match run tab2 K 14 [I 0, St s136] with | some r137 => (castL 35 (compN r137 0) fun l138 => castI .i64 (compN r137 1) fun n139 => castI .i64 (compN r137 2) fun n140 => match run tab2 K 36 [] with | some r141 => (castS r141 fun s142 => match run tab2 K 17 [I 0, St s142] with | some r143 => (castL 40 (compN r143 0) fun l144 => castI .i64 (compN r143 1) fun n145 => castI .i64 (compN r143 2) fun n146 => match run tab2 K 22 [I 0, .sl 35 [.agg [I 0, St (⟨#[97]⟩ : ByteArray), I 0], .agg [I 6, St (⟨#[46]⟩ : ByteArray), I 0], .agg [I 0, St (⟨#[98]⟩ : ByteArray), I 0]]] with | some r147 => (castS (compN r147 0) fun s148 => castI .i64 (compN r147 1) fun n149 => match (n140 == (0 : Int)) with | true => (match ((l138.length : Int) == (8 : Int)) with | true => (match (n146 == (0 : Int)) with | true => (match ((l144.length : Int) == (1 : Int)) with | true => (match (n149 == (0 : Int)) with | true => (some (B (s148 == (⟨#[97, 46, 98]⟩ : ByteArray)))) | false => (some (B false))) | false => (some (B false))) | false => (some (B false))) | false => (some (B false))) | false => (some (B false))) | none => none) | none => none) | none => none) | none => none) | none => none
def sh12 (K : Nat) : OA := tr12 K 
theorem eq12 (K : Nat) : run tab2 (K + 1) 12 [] = sh12 K  := by kernel_rfl

end
end Go.Proofs.YtdhbhedfbdckaaaGreatDoor

namespace Go.Proofs.YtdhbhedfbdckaaaGreatDoor
open Go.Dam
set_option linter.unusedVariables false
set_option maxRecDepth 100000
noncomputable section

def tr8_17 (K : Nat) (q12 : Int → ByteArray → LA → LA → LA → Int → Int → OA) (q17 : Int → ByteArray → LA → LA → LA → Int → Int → OA) (y1 : Int) (y2 : ByteArray) (y3 : LA) (y4 : LA) (y5 : LA) (y6 : Int) (y7 : Int) : OA :=
  if 0 ≤ y6 then (match y4[y6.toNat]? with | some x25 => (castI .i64 (cellN x25 1) fun n26 => match decide (y7 < n26) with | true => (if 0 ≤ y7 then (match y5[y7.toNat]? with | some x27 => (castI .u8 x27 fun n28 => match (n28 != (10 : Int)) with | true => (if 0 ≤ y7 then (match y5[y7.toNat]? with | some x29 => (if y7.toNat < y5.length then (q17 y1 y2 y3 y4 (y5.set y7.toNat (.sc (.int .u8 32) : AV)) y6 (IntKind.i64.wrap (y7 + 1))) else none) | none => none) else none) | false => (q17 y1 y2 y3 y4 y5 y6 (IntKind.i64.wrap (y7 + 1)))) | none => none) else none) | false => (if 0 ≤ y6 then (match y4[y6.toNat]? with | some x30 => (castI .i64 (cellN x30 1) fun n31 => q12 y1 y2 y3 y4 y5 n31 (IntKind.i64.wrap (y6 + 1))) | none => none) else none)) | none => none) else none
def tr8_27 (K : Nat) (q27 : LA → LA → Int → OA) (y1 : LA) (y2 : LA) (y3 : Int) : OA :=
  match decide (y3 < (y1.length : Int)) with | true => (if 0 ≤ y3 then (match y1[y3.toNat]? with | some x42 => (castI .i64 (cellN x42 0) fun n43 => castS (cellN x42 1) fun s44 => castI .i64 (cellN x42 2) fun n45 => if 0 ≤ y3 then (match y2[y3.toNat]? with | some x46 => (castI .i64 (cellN x46 0) fun n47 => castS (cellN x46 1) fun s48 => castI .i64 (cellN x46 2) fun n49 => match (!((n43 == n47) && ((s44 == s48) && ((n45 == n49) && true)))) with | true => (some (B false)) | false => (q27 y1 y2 (IntKind.i64.wrap (y3 + 1)))) | none => none) else none) | none => none) else none) | false => (some (B true))
def tr8_12 (K : Nat) (q17 : Int → ByteArray → LA → LA → LA → Int → Int → OA) (q27 : LA → LA → Int → OA) (y1 : Int) (y2 : ByteArray) (y3 : LA) (y4 : LA) (y5 : LA) (y6 : Int) (y7 : Int) : OA :=
  match decide (y7 < (y4.length : Int)) with | true => (if 0 ≤ y7 then (match y4[y7.toNat]? with | some x13 => (castI .i64 (cellN x13 0) fun n14 => match run tab2 K 25 [I n14, I y6, I (y2.size : Int)] with | some r15 => (castB r15 fun b16 => match (!b16) with | true => (some (B false)) | false => (if 0 ≤ y7 then (match y4[y7.toNat]? with | some x17 => (castI .i64 (cellN x17 1) fun n18 => if 0 ≤ y7 then (match y4[y7.toNat]? with | some x19 => (castI .i64 (cellN x19 0) fun n20 => match run tab2 K 25 [I n18, I (IntKind.i64.wrap (n20 + 2)), I (y2.size : Int)] with | some r21 => (castB r21 fun b22 => match (!b22) with | true => (some (B false)) | false => (if 0 ≤ y7 then (match y4[y7.toNat]? with | some x23 => (castI .i64 (cellN x23 0) fun n24 => q17 y1 y2 y3 y4 y5 y7 n24) | none => none) else none)) | none => none) | none => none) else none) | none => none) else none)) | none => none) | none => none) else none) | false => (bytesK y5 fun z32 => match run tab2 K 14 [I y1, St (⟨z32.toArray⟩ : ByteArray)] with | some r33 => (castL 35 (compN r33 0) fun l34 => castI .i64 (compN r33 1) fun n35 => castI .i64 (compN r33 2) fun n36 => bytesK y5 fun z37 => match run tab2 K 17 [I y1, St (⟨z37.toArray⟩ : ByteArray)] with | some r38 => (castL 40 (compN r38 0) fun l39 => castI .i64 (compN r38 1) fun n40 => castI .i64 (compN r38 2) fun n41 => match (n36 != (0 : Int)) with | true => (some (B false)) | false => (match (n41 != (0 : Int)) with | true => (some (B false)) | false => (match decide ((l39.length : Int) > (0 : Int)) with | true => (some (B false)) | false => (match ((y3.length : Int) != (l34.length : Int)) with | true => (some (B false)) | false => (q27 y3 l34 (0 : Int)))))) | none => none) | none => none)
def tr8 (K : Nat) (q12 : Int → ByteArray → LA → LA → LA → Int → Int → OA) (a0 : Int) (a1 : ByteArray) : OA :=
  match run tab2 K 12 [] with | some r1 => (castB r1 fun b2 => match (!b2) with | true => (some (B false)) | false => (match run tab2 K 13 [St a1] with | some r3 => (castB r3 fun b4 => match (!b4) with | true => (some (B true)) | false => (match run tab2 K 14 [I a0, St a1] with | some r5 => (castL 35 (compN r5 0) fun l6 => castI .i64 (compN r5 1) fun n7 => castI .i64 (compN r5 2) fun n8 => match run tab2 K 17 [I a0, St a1] with | some r9 => (castL 40 (compN r9 0) fun l10 => castI .i64 (compN r9 1) fun n11 => castI .i64 (compN r9 2) fun n12 => match (n8 != (0 : Int)) with | true => (match (n8 == n12) with | true => (match ((l6.length : Int) == (0 : Int)) with | true => (some (B ((l10.length : Int) == (0 : Int)))) | false => (some (B false))) | false => (some (B false))) | false => (match (n12 != (0 : Int)) with | true => (match (n8 == n12) with | true => (match ((l6.length : Int) == (0 : Int)) with | true => (some (B ((l10.length : Int) == (0 : Int)))) | false => (some (B false))) | false => (some (B false))) | false => (match Nat.ble a1.size 9223372036854775807 with | true => (q12 a0 a1 l6 l10 (a1.data.toList.map fun c => AV.sc (.int .u8 (c.toNat : Int))) (0 : Int) (0 : Int)) | false => none))) | none => none) | none => none)) | none => none)) | none => none
def lp8_17 (K : Nat) (q12 : Int → ByteArray → LA → LA → LA → Int → Int → OA) : Nat → Int → ByteArray → LA → LA → LA → Int → Int → OA
  | 0, _, _, _, _, _, _, _ => none
  | k + 1, y1, y2, y3, y4, y5, y6, y7 => tr8_17 K q12 (lp8_17 K q12 k) y1 y2 y3 y4 y5 y6 y7
def lp8_27 (K : Nat) (q12 : Int → ByteArray → LA → LA → LA → Int → Int → OA) : Nat → LA → LA → Int → OA
  | 0, _, _, _ => none
  | k + 1, y1, y2, y3 => tr8_27 K (lp8_27 K q12 k) y1 y2 y3
def lp8_12 (K : Nat) : Nat → Int → ByteArray → LA → LA → LA → Int → Int → OA
  | 0, _, _, _, _, _, _, _ => none
  | k + 1, y1, y2, y3, y4, y5, y6, y7 => tr8_12 K (lp8_17 K (lp8_12 K k) K) (lp8_27 K (lp8_12 K k) K) y1 y2 y3 y4 y5 y6 y7
def sh8 (K : Nat) (a0 : Int) (a1 : ByteArray) : OA := tr8 K (lp8_12 K K) a0 a1
def fr8_17 (y1 : Int) (y2 : ByteArray) (y3 : LA) (y4 : LA) (y5 : LA) (y6 : Int) (y7 : Int) : Fr := { slots := (I y1, .uni .ro) :: (St y2, .uni .ro) :: gap 3 ((.sl 35 y3, .uni .ro) :: gap 2 ((.sl 40 y4, .uni .ro) :: gap 2 ((.sl 5 y5, .uni .own) :: gap 1 ((I y6, .uni .ro) :: (I y7, .uni .ro) :: gap 156 [])))), boxes := [] }
def fr8_27 (y1 : LA) (y2 : LA) (y3 : Int) : Fr := { slots := gap 5 ((.sl 35 y1, .uni .ro) :: gap 9 ((.sl 35 y2, .uni .ro) :: gap 5 ((I y3, .uni .ro) :: gap 149 []))), boxes := [] }
def fr8_12 (y1 : Int) (y2 : ByteArray) (y3 : LA) (y4 : LA) (y5 : LA) (y6 : Int) (y7 : Int) : Fr := { slots := (I y1, .uni .ro) :: (St y2, .uni .ro) :: gap 3 ((.sl 35 y3, .uni .ro) :: gap 2 ((.sl 40 y4, .uni .ro) :: gap 2 ((.sl 5 y5, .uni .own) :: (I y6, .uni .ro) :: (I y7, .uni .ro) :: gap 157 []))), boxes := [] }
theorem st8_17 (K : Nat) (RO12 : Fr → OA) (k : Nat) (y1 : Int) (y2 : ByteArray) (y3 : LA) (y4 : LA) (y5 : LA) (y6 : Int) (y7 : Int) : mlp2 8 Tryz.f8 K 17 (fun i_ => if i_ = 12 then RO12 else fun _ => none) (k + 1) (fr8_17 y1 y2 y3 y4 y5 y6 y7) = tr8_17 K (fun y1 y2 y3 y4 y5 y6 y7 => RO12 (fr8_12 y1 y2 y3 y4 y5 y6 y7)) (fun y1 y2 y3 y4 y5 y6 y7 => mlp2 8 Tryz.f8 K 17 (fun i_ => if i_ = 12 then RO12 else fun _ => none) k (fr8_17 y1 y2 y3 y4 y5 y6 y7)) y1 y2 y3 y4 y5 y6 y7 := by kernel_rfl
theorem lq8_17 (K : Nat) (RO12 : Fr → OA) : ∀ (k : Nat) (y1 : Int) (y2 : ByteArray) (y3 : LA) (y4 : LA) (y5 : LA) (y6 : Int) (y7 : Int), mlp2 8 Tryz.f8 K 17 (fun i_ => if i_ = 12 then RO12 else fun _ => none) k (fr8_17 y1 y2 y3 y4 y5 y6 y7) = lp8_17 K (fun y1 y2 y3 y4 y5 y6 y7 => RO12 (fr8_12 y1 y2 y3 y4 y5 y6 y7)) k y1 y2 y3 y4 y5 y6 y7
  | 0, _, _, _, _, _, _, _ => rfl
  | k + 1, y1, y2, y3, y4, y5, y6, y7 => by
    rw [st8_17]
    have ih := lq8_17 K RO12 k
    try simp only [ih]
    try rfl
theorem st8_27 (K : Nat) (RO12 : Fr → OA) (k : Nat) (y1 : LA) (y2 : LA) (y3 : Int) : mlp2 8 Tryz.f8 K 27 (fun i_ => if i_ = 12 then RO12 else fun _ => none) (k + 1) (fr8_27 y1 y2 y3) = tr8_27 K (fun y1 y2 y3 => mlp2 8 Tryz.f8 K 27 (fun i_ => if i_ = 12 then RO12 else fun _ => none) k (fr8_27 y1 y2 y3)) y1 y2 y3 := by kernel_rfl
theorem lq8_27 (K : Nat) (RO12 : Fr → OA) : ∀ (k : Nat) (y1 : LA) (y2 : LA) (y3 : Int), mlp2 8 Tryz.f8 K 27 (fun i_ => if i_ = 12 then RO12 else fun _ => none) k (fr8_27 y1 y2 y3) = lp8_27 K (fun y1 y2 y3 y4 y5 y6 y7 => RO12 (fr8_12 y1 y2 y3 y4 y5 y6 y7)) k y1 y2 y3
  | 0, _, _, _ => rfl
  | k + 1, y1, y2, y3 => by
    rw [st8_27]
    have ih := lq8_27 K RO12 k
    try simp only [ih]
    try rfl
theorem st8_12 (K : Nat) (k : Nat) (y1 : Int) (y2 : ByteArray) (y3 : LA) (y4 : LA) (y5 : LA) (y6 : Int) (y7 : Int) : mlp2 8 Tryz.f8 K 12 (fun i_ => fun _ => none) (k + 1) (fr8_12 y1 y2 y3 y4 y5 y6 y7) = tr8_12 K (fun y1 y2 y3 y4 y5 y6 y7 => mlp2 8 Tryz.f8 K 17 (fun i_ => if i_ = 12 then (fun fr_ => mlp2 8 Tryz.f8 K 12 (fun i_ => fun _ => none) k fr_) else fun _ => none) K (fr8_17 y1 y2 y3 y4 y5 y6 y7)) (fun y1 y2 y3 => mlp2 8 Tryz.f8 K 27 (fun i_ => if i_ = 12 then (fun fr_ => mlp2 8 Tryz.f8 K 12 (fun i_ => fun _ => none) k fr_) else fun _ => none) K (fr8_27 y1 y2 y3)) y1 y2 y3 y4 y5 y6 y7 := by kernel_rfl
theorem lq8_12 (K : Nat) : ∀ (k : Nat) (y1 : Int) (y2 : ByteArray) (y3 : LA) (y4 : LA) (y5 : LA) (y6 : Int) (y7 : Int), mlp2 8 Tryz.f8 K 12 (fun i_ => fun _ => none) k (fr8_12 y1 y2 y3 y4 y5 y6 y7) = lp8_12 K k y1 y2 y3 y4 y5 y6 y7
  | 0, _, _, _, _, _, _, _ => rfl
  | k + 1, y1, y2, y3, y4, y5, y6, y7 => by
    rw [st8_12]
    have ih := lq8_12 K k
    have ih17 := lq8_17 K (fun fr_ => mlp2 8 Tryz.f8 K 12 (fun i_ => fun _ => none) k fr_) K
    have ih27 := lq8_27 K (fun fr_ => mlp2 8 Tryz.f8 K 12 (fun i_ => fun _ => none) k fr_) K
    try simp only [ih, ih17, ih27]
    try rfl
theorem eq8 (K : Nat) (a0 : Int) (a1 : ByteArray) : run tab2 (K + 1) 8 [I a0, St a1] = sh8 K a0 a1 := by
  have h : run tab2 (K + 1) 8 [I a0, St a1] = tr8 K (fun y1 y2 y3 y4 y5 y6 y7 => mlp2 8 Tryz.f8 K 12 (fun i_ => fun _ => none) K (fr8_12 y1 y2 y3 y4 y5 y6 y7)) a0 a1 := by kernel_rfl
  rw [h]
  simp only [lq8_12]
  rfl

def tr9_19 (K : Nat) (q12 : Int → ByteArray → LA → LA → LA → Int → Int → OA) (q19 : Int → ByteArray → LA → LA → LA → Int → Int → Int → OA) (y1 : Int) (y2 : ByteArray) (y3 : LA) (y4 : LA) (y5 : LA) (y6 : Int) (y7 : Int) (y8 : Int) : OA :=
  match decide (y8 < y6) with | true => (if 0 ≤ y8 then (match y5[y8.toNat]? with | some x70 => (if y8.toNat < y5.length then (q19 y1 y2 y3 y4 (y5.set y8.toNat (.sc (.int .u8 32) : AV)) y6 y7 (IntKind.i64.wrap (y8 + 1))) else none) | none => none) else none) | false => (q12 y1 y2 y3 y4 y5 y6 (IntKind.i64.wrap (y7 + 1)))
def tr9_28 (K : Nat) (q23 : ByteArray → LA → LA → Int → OA) (q28 : ByteArray → LA → LA → Int → Int → OA) (y1 : ByteArray) (y2 : LA) (y3 : LA) (y4 : Int) (y5 : Int) : OA :=
  if 0 ≤ y4 then (match y2[y4.toNat]? with | some x83 => (castI .i64 (cellN x83 1) fun n84 => match decide (y5 < n84) with | true => (if 0 ≤ y5 then (match y3[y5.toNat]? with | some x85 => (castI .u8 x85 fun n86 => match (n86 == (32 : Int)) with | true => (if 0 ≤ y5 then (match y1[y5.toNat]? with | some c87 => (match ((c87.toNat : Int) != (32 : Int)) with | true => (some (B false)) | false => (if 0 ≤ y5 then (match y3[y5.toNat]? with | some x88 => (if y5.toNat < y3.length then (q28 y1 y2 (y3.set y5.toNat (.sc (.int .u8 32) : AV)) y4 (IntKind.i64.wrap (y5 + 1))) else none) | none => none) else none)) | none => none) else none) | false => (if 0 ≤ y5 then (match y3[y5.toNat]? with | some x89 => (if y5.toNat < y3.length then (q28 y1 y2 (y3.set y5.toNat (.sc (.int .u8 32) : AV)) y4 (IntKind.i64.wrap (y5 + 1))) else none) | none => none) else none)) | none => none) else none) | false => (q23 y1 y2 y3 (IntKind.i64.wrap (y4 + 1)))) | none => none) else none
def tr9_34 (K : Nat) (q34 : LA → Int → OA) (y1 : LA) (y2 : Int) : OA :=
  match decide (y2 < (y1.length : Int)) with | true => (if 0 ≤ y2 then (match y1[y2.toNat]? with | some x90 => (castI .u8 x90 fun n91 => match (n91 != (32 : Int)) with | true => (if 0 ≤ y2 then (match y1[y2.toNat]? with | some x92 => (castI .u8 x92 fun n93 => match (n93 != (10 : Int)) with | true => (if 0 ≤ y2 then (match y1[y2.toNat]? with | some x94 => (castI .u8 x94 fun n95 => match (n95 != (9 : Int)) with | true => (some (B false)) | false => (q34 y1 (IntKind.i64.wrap (y2 + 1)))) | none => none) else none) | false => (q34 y1 (IntKind.i64.wrap (y2 + 1)))) | none => none) else none) | false => (q34 y1 (IntKind.i64.wrap (y2 + 1)))) | none => none) else none) | false => (some (B true))
def tr9_23 (K : Nat) (q28 : ByteArray → LA → LA → Int → Int → OA) (q34 : LA → Int → OA) (y1 : ByteArray) (y2 : LA) (y3 : LA) (y4 : Int) : OA :=
  match decide (y4 < (y2.length : Int)) with | true => (if 0 ≤ y4 then (match y2[y4.toNat]? with | some x71 => (castI .i64 (cellN x71 0) fun n72 => match run tab2 K 25 [I n72, I 0, I (y1.size : Int)] with | some r73 => (castB r73 fun b74 => match (!b74) with | true => (some (B false)) | false => (if 0 ≤ y4 then (match y2[y4.toNat]? with | some x75 => (castI .i64 (cellN x75 1) fun n76 => if 0 ≤ y4 then (match y2[y4.toNat]? with | some x77 => (castI .i64 (cellN x77 0) fun n78 => match run tab2 K 25 [I n76, I n78, I (y1.size : Int)] with | some r79 => (castB r79 fun b80 => match (!b80) with | true => (some (B false)) | false => (if 0 ≤ y4 then (match y2[y4.toNat]? with | some x81 => (castI .i64 (cellN x81 0) fun n82 => q28 y1 y2 y3 y4 n82) | none => none) else none)) | none => none) | none => none) else none) | none => none) else none)) | none => none) | none => none) else none) | false => (q34 y3 (0 : Int))
def tr9_12 (K : Nat) (q19 : Int → ByteArray → LA → LA → LA → Int → Int → Int → OA) (q23 : ByteArray → LA → LA → Int → OA) (y1 : Int) (y2 : ByteArray) (y3 : LA) (y4 : LA) (y5 : LA) (y6 : Int) (y7 : Int) : OA :=
  match decide (y7 < (y3.length : Int)) with | true => (if 0 ≤ y7 then (match y3[y7.toNat]? with | some x62 => (castI .i64 (cellN x62 0) fun n63 => castS (cellN x62 1) fun s64 => castI .i64 (cellN x62 2) fun n65 => match run tab2 K 25 [I n65, I y6, I (y2.size : Int)] with | some r66 => (castB r66 fun b67 => match (!b67) with | true => (some (B false)) | false => (match ((s64.size : Int) == (0 : Int)) with | true => (some (B false)) | false => (match decide ((IntKind.i64.wrap (n65 + (s64.size : Int))) > (y2.size : Int)) with | true => (some (B false)) | false => (if 0 ≤ n65 ∧ n65 ≤ (IntKind.i64.wrap (n65 + (s64.size : Int))) ∧ (IntKind.i64.wrap (n65 + (s64.size : Int))) ≤ y2.size then (match (!((y2.extract n65.toNat (IntKind.i64.wrap (n65 + (s64.size : Int))).toNat) == s64)) with | true => (some (B false)) | false => (match run tab2 K 18 [I y1, .agg [I n63, St s64, I n65]] with | some r68 => (castI .i64 r68 fun n69 => match (n69 != (0 : Int)) with | true => (some (B false)) | false => (q19 y1 y2 y3 y4 y5 (IntKind.i64.wrap (n65 + (s64.size : Int))) y7 n65)) | none => none)) else none)))) | none => none) | none => none) else none) | false => (q23 y2 y4 y5 (0 : Int))
def tr9 (K : Nat) (q12 : Int → ByteArray → LA → LA → LA → Int → Int → OA) (a0 : Int) (a1 : ByteArray) : OA :=
  match run tab2 K 12 [] with | some r50 => (castB r50 fun b51 => match (!b51) with | true => (some (B false)) | false => (match run tab2 K 13 [St a1] with | some r52 => (castB r52 fun b53 => match (!b53) with | true => (some (B true)) | false => (match run tab2 K 14 [I a0, St a1] with | some r54 => (castL 35 (compN r54 0) fun l55 => castI .i64 (compN r54 1) fun n56 => castI .i64 (compN r54 2) fun n57 => match run tab2 K 17 [I a0, St a1] with | some r58 => (castL 40 (compN r58 0) fun l59 => castI .i64 (compN r58 1) fun n60 => castI .i64 (compN r58 2) fun n61 => match (n57 != (0 : Int)) with | true => (some (B (n57 == n61))) | false => (match (n61 != (0 : Int)) with | true => (some (B (n57 == n61))) | false => (match Nat.ble a1.size 9223372036854775807 with | true => (q12 a0 a1 l55 l59 (a1.data.toList.map fun c => AV.sc (.int .u8 (c.toNat : Int))) (0 : Int) (0 : Int)) | false => none))) | none => none) | none => none)) | none => none)) | none => none
def lp9_19 (K : Nat) (q12 : Int → ByteArray → LA → LA → LA → Int → Int → OA) : Nat → Int → ByteArray → LA → LA → LA → Int → Int → Int → OA
  | 0, _, _, _, _, _, _, _, _ => none
  | k + 1, y1, y2, y3, y4, y5, y6, y7, y8 => tr9_19 K q12 (lp9_19 K q12 k) y1 y2 y3 y4 y5 y6 y7 y8
def lp9_28 (K : Nat) (q12 : Int → ByteArray → LA → LA → LA → Int → Int → OA) (q23 : ByteArray → LA → LA → Int → OA) : Nat → ByteArray → LA → LA → Int → Int → OA
  | 0, _, _, _, _, _ => none
  | k + 1, y1, y2, y3, y4, y5 => tr9_28 K q23 (lp9_28 K q12 q23 k) y1 y2 y3 y4 y5
def lp9_34 (K : Nat) (q12 : Int → ByteArray → LA → LA → LA → Int → Int → OA) (q23 : ByteArray → LA → LA → Int → OA) : Nat → LA → Int → OA
  | 0, _, _ => none
  | k + 1, y1, y2 => tr9_34 K (lp9_34 K q12 q23 k) y1 y2
def lp9_23 (K : Nat) (q12 : Int → ByteArray → LA → LA → LA → Int → Int → OA) : Nat → ByteArray → LA → LA → Int → OA
  | 0, _, _, _, _ => none
  | k + 1, y1, y2, y3, y4 => tr9_23 K (lp9_28 K q12 (lp9_23 K q12 k) K) (lp9_34 K q12 (lp9_23 K q12 k) K) y1 y2 y3 y4
def lp9_12 (K : Nat) : Nat → Int → ByteArray → LA → LA → LA → Int → Int → OA
  | 0, _, _, _, _, _, _, _ => none
  | k + 1, y1, y2, y3, y4, y5, y6, y7 => tr9_12 K (lp9_19 K (lp9_12 K k) K) (lp9_23 K (lp9_12 K k) K) y1 y2 y3 y4 y5 y6 y7
def sh9 (K : Nat) (a0 : Int) (a1 : ByteArray) : OA := tr9 K (lp9_12 K K) a0 a1
def fr9_19 (y1 : Int) (y2 : ByteArray) (y3 : LA) (y4 : LA) (y5 : LA) (y6 : Int) (y7 : Int) (y8 : Int) : Fr := { slots := (I y1, .uni .ro) :: (St y2, .uni .ro) :: gap 3 ((.sl 35 y3, .uni .ro) :: gap 2 ((.sl 40 y4, .uni .ro) :: gap 2 ((.sl 5 y5, .uni .own) :: (I y6, .uni .ro) :: (I y7, .uni .ro) :: gap 1 ((I y8, .uni .ro) :: gap 188 [])))), boxes := [] }
def fr9_28 (y1 : ByteArray) (y2 : LA) (y3 : LA) (y4 : Int) (y5 : Int) : Fr := { slots := gap 1 ((St y1, .uni .ro) :: gap 6 ((.sl 40 y2, .uni .ro) :: gap 2 ((.sl 5 y3, .uni .own) :: gap 4 ((I y4, .uni .ro) :: (I y5, .uni .ro) :: gap 186 [])))), boxes := [] }
def fr9_34 (y1 : LA) (y2 : Int) : Fr := { slots := gap 11 ((.sl 5 y1, .uni .own) :: gap 6 ((I y2, .uni .ro) :: gap 185 [])), boxes := [] }
def fr9_23 (y1 : ByteArray) (y2 : LA) (y3 : LA) (y4 : Int) : Fr := { slots := gap 1 ((St y1, .uni .ro) :: gap 6 ((.sl 40 y2, .uni .ro) :: gap 2 ((.sl 5 y3, .uni .own) :: gap 4 ((I y4, .uni .ro) :: gap 187 [])))), boxes := [] }
def fr9_12 (y1 : Int) (y2 : ByteArray) (y3 : LA) (y4 : LA) (y5 : LA) (y6 : Int) (y7 : Int) : Fr := { slots := (I y1, .uni .ro) :: (St y2, .uni .ro) :: gap 3 ((.sl 35 y3, .uni .ro) :: gap 2 ((.sl 40 y4, .uni .ro) :: gap 2 ((.sl 5 y5, .uni .own) :: (I y6, .uni .ro) :: (I y7, .uni .ro) :: gap 190 []))), boxes := [] }
theorem st9_19 (K : Nat) (RO12 : Fr → OA) (k : Nat) (y1 : Int) (y2 : ByteArray) (y3 : LA) (y4 : LA) (y5 : LA) (y6 : Int) (y7 : Int) (y8 : Int) : mlp2 9 Tryz.f9 K 19 (fun i_ => if i_ = 12 then RO12 else fun _ => none) (k + 1) (fr9_19 y1 y2 y3 y4 y5 y6 y7 y8) = tr9_19 K (fun y1 y2 y3 y4 y5 y6 y7 => RO12 (fr9_12 y1 y2 y3 y4 y5 y6 y7)) (fun y1 y2 y3 y4 y5 y6 y7 y8 => mlp2 9 Tryz.f9 K 19 (fun i_ => if i_ = 12 then RO12 else fun _ => none) k (fr9_19 y1 y2 y3 y4 y5 y6 y7 y8)) y1 y2 y3 y4 y5 y6 y7 y8 := by kernel_rfl
theorem lq9_19 (K : Nat) (RO12 : Fr → OA) : ∀ (k : Nat) (y1 : Int) (y2 : ByteArray) (y3 : LA) (y4 : LA) (y5 : LA) (y6 : Int) (y7 : Int) (y8 : Int), mlp2 9 Tryz.f9 K 19 (fun i_ => if i_ = 12 then RO12 else fun _ => none) k (fr9_19 y1 y2 y3 y4 y5 y6 y7 y8) = lp9_19 K (fun y1 y2 y3 y4 y5 y6 y7 => RO12 (fr9_12 y1 y2 y3 y4 y5 y6 y7)) k y1 y2 y3 y4 y5 y6 y7 y8
  | 0, _, _, _, _, _, _, _, _ => rfl
  | k + 1, y1, y2, y3, y4, y5, y6, y7, y8 => by
    rw [st9_19]
    have ih := lq9_19 K RO12 k
    try simp only [ih]
    try rfl
theorem st9_28 (K : Nat) (RO12 : Fr → OA) (RO23 : Fr → OA) (k : Nat) (y1 : ByteArray) (y2 : LA) (y3 : LA) (y4 : Int) (y5 : Int) : mlp2 9 Tryz.f9 K 28 (fun i_ => if i_ = 12 then RO12 else if i_ = 23 then RO23 else fun _ => none) (k + 1) (fr9_28 y1 y2 y3 y4 y5) = tr9_28 K (fun y1 y2 y3 y4 => RO23 (fr9_23 y1 y2 y3 y4)) (fun y1 y2 y3 y4 y5 => mlp2 9 Tryz.f9 K 28 (fun i_ => if i_ = 12 then RO12 else if i_ = 23 then RO23 else fun _ => none) k (fr9_28 y1 y2 y3 y4 y5)) y1 y2 y3 y4 y5 := by kernel_rfl
theorem lq9_28 (K : Nat) (RO12 : Fr → OA) (RO23 : Fr → OA) : ∀ (k : Nat) (y1 : ByteArray) (y2 : LA) (y3 : LA) (y4 : Int) (y5 : Int), mlp2 9 Tryz.f9 K 28 (fun i_ => if i_ = 12 then RO12 else if i_ = 23 then RO23 else fun _ => none) k (fr9_28 y1 y2 y3 y4 y5) = lp9_28 K (fun y1 y2 y3 y4 y5 y6 y7 => RO12 (fr9_12 y1 y2 y3 y4 y5 y6 y7)) (fun y1 y2 y3 y4 => RO23 (fr9_23 y1 y2 y3 y4)) k y1 y2 y3 y4 y5
  | 0, _, _, _, _, _ => rfl
  | k + 1, y1, y2, y3, y4, y5 => by
    rw [st9_28]
    have ih := lq9_28 K RO12 RO23 k
    try simp only [ih]
    try rfl
theorem st9_34 (K : Nat) (RO12 : Fr → OA) (RO23 : Fr → OA) (k : Nat) (y1 : LA) (y2 : Int) : mlp2 9 Tryz.f9 K 34 (fun i_ => if i_ = 12 then RO12 else if i_ = 23 then RO23 else fun _ => none) (k + 1) (fr9_34 y1 y2) = tr9_34 K (fun y1 y2 => mlp2 9 Tryz.f9 K 34 (fun i_ => if i_ = 12 then RO12 else if i_ = 23 then RO23 else fun _ => none) k (fr9_34 y1 y2)) y1 y2 := by kernel_rfl
theorem lq9_34 (K : Nat) (RO12 : Fr → OA) (RO23 : Fr → OA) : ∀ (k : Nat) (y1 : LA) (y2 : Int), mlp2 9 Tryz.f9 K 34 (fun i_ => if i_ = 12 then RO12 else if i_ = 23 then RO23 else fun _ => none) k (fr9_34 y1 y2) = lp9_34 K (fun y1 y2 y3 y4 y5 y6 y7 => RO12 (fr9_12 y1 y2 y3 y4 y5 y6 y7)) (fun y1 y2 y3 y4 => RO23 (fr9_23 y1 y2 y3 y4)) k y1 y2
  | 0, _, _ => rfl
  | k + 1, y1, y2 => by
    rw [st9_34]
    have ih := lq9_34 K RO12 RO23 k
    try simp only [ih]
    try rfl
theorem st9_23 (K : Nat) (RO12 : Fr → OA) (k : Nat) (y1 : ByteArray) (y2 : LA) (y3 : LA) (y4 : Int) : mlp2 9 Tryz.f9 K 23 (fun i_ => if i_ = 12 then RO12 else fun _ => none) (k + 1) (fr9_23 y1 y2 y3 y4) = tr9_23 K (fun y1 y2 y3 y4 y5 => mlp2 9 Tryz.f9 K 28 (fun i_ => if i_ = 12 then RO12 else if i_ = 23 then (fun fr_ => mlp2 9 Tryz.f9 K 23 (fun i_ => if i_ = 12 then RO12 else fun _ => none) k fr_) else fun _ => none) K (fr9_28 y1 y2 y3 y4 y5)) (fun y1 y2 => mlp2 9 Tryz.f9 K 34 (fun i_ => if i_ = 12 then RO12 else if i_ = 23 then (fun fr_ => mlp2 9 Tryz.f9 K 23 (fun i_ => if i_ = 12 then RO12 else fun _ => none) k fr_) else fun _ => none) K (fr9_34 y1 y2)) y1 y2 y3 y4 := by kernel_rfl
theorem lq9_23 (K : Nat) (RO12 : Fr → OA) : ∀ (k : Nat) (y1 : ByteArray) (y2 : LA) (y3 : LA) (y4 : Int), mlp2 9 Tryz.f9 K 23 (fun i_ => if i_ = 12 then RO12 else fun _ => none) k (fr9_23 y1 y2 y3 y4) = lp9_23 K (fun y1 y2 y3 y4 y5 y6 y7 => RO12 (fr9_12 y1 y2 y3 y4 y5 y6 y7)) k y1 y2 y3 y4
  | 0, _, _, _, _ => rfl
  | k + 1, y1, y2, y3, y4 => by
    rw [st9_23]
    have ih := lq9_23 K RO12 k
    have ih28 := lq9_28 K RO12 (fun fr_ => mlp2 9 Tryz.f9 K 23 (fun i_ => if i_ = 12 then RO12 else fun _ => none) k fr_) K
    have ih34 := lq9_34 K RO12 (fun fr_ => mlp2 9 Tryz.f9 K 23 (fun i_ => if i_ = 12 then RO12 else fun _ => none) k fr_) K
    try simp only [ih, ih28, ih34]
    try rfl
theorem st9_12 (K : Nat) (k : Nat) (y1 : Int) (y2 : ByteArray) (y3 : LA) (y4 : LA) (y5 : LA) (y6 : Int) (y7 : Int) : mlp2 9 Tryz.f9 K 12 (fun i_ => fun _ => none) (k + 1) (fr9_12 y1 y2 y3 y4 y5 y6 y7) = tr9_12 K (fun y1 y2 y3 y4 y5 y6 y7 y8 => mlp2 9 Tryz.f9 K 19 (fun i_ => if i_ = 12 then (fun fr_ => mlp2 9 Tryz.f9 K 12 (fun i_ => fun _ => none) k fr_) else fun _ => none) K (fr9_19 y1 y2 y3 y4 y5 y6 y7 y8)) (fun y1 y2 y3 y4 => mlp2 9 Tryz.f9 K 23 (fun i_ => if i_ = 12 then (fun fr_ => mlp2 9 Tryz.f9 K 12 (fun i_ => fun _ => none) k fr_) else fun _ => none) K (fr9_23 y1 y2 y3 y4)) y1 y2 y3 y4 y5 y6 y7 := by kernel_rfl
theorem lq9_12 (K : Nat) : ∀ (k : Nat) (y1 : Int) (y2 : ByteArray) (y3 : LA) (y4 : LA) (y5 : LA) (y6 : Int) (y7 : Int), mlp2 9 Tryz.f9 K 12 (fun i_ => fun _ => none) k (fr9_12 y1 y2 y3 y4 y5 y6 y7) = lp9_12 K k y1 y2 y3 y4 y5 y6 y7
  | 0, _, _, _, _, _, _, _ => rfl
  | k + 1, y1, y2, y3, y4, y5, y6, y7 => by
    rw [st9_12]
    have ih := lq9_12 K k
    have ih19 := lq9_19 K (fun fr_ => mlp2 9 Tryz.f9 K 12 (fun i_ => fun _ => none) k fr_) K
    have ih23 := lq9_23 K (fun fr_ => mlp2 9 Tryz.f9 K 12 (fun i_ => fun _ => none) k fr_) K
    try simp only [ih, ih19, ih23]
    try rfl
theorem eq9 (K : Nat) (a0 : Int) (a1 : ByteArray) : run tab2 (K + 1) 9 [I a0, St a1] = sh9 K a0 a1 := by
  have h : run tab2 (K + 1) 9 [I a0, St a1] = tr9 K (fun y1 y2 y3 y4 y5 y6 y7 => mlp2 9 Tryz.f9 K 12 (fun i_ => fun _ => none) K (fr9_12 y1 y2 y3 y4 y5 y6 y7)) a0 a1 := by kernel_rfl
  rw [h]
  simp only [lq9_12]
  rfl

end
end Go.Proofs.YtdhbhedfbdckaaaGreatDoor
