/- A part of an interpreter of the model's code that is proved sound, and of laws told by it: DamG1. -/
import Derived.Test.YtahifpeggdcamaaGreatDoorPqD1
import Derived.KernelRfl
set_option linter.unusedVariables false
set_option linter.unusedSimpArgs false
namespace Go.Proofs.YtahifpeggdcamaaGreatDoor
open Go.Dam
set_option linter.unusedVariables false
set_option maxRecDepth 100000
noncomputable section
abbrev LA := List AV
abbrev OA := Option AV
abbrev gap (n : Nat) (l : List (AV × Md)) : List (AV × Md) := Nat.rec l (fun _ r => none1 :: r) n
def mlp (f : Nat) (fn : Func) (K j : Nat) (outs : Nat → Fr → OA) : Nat → Fr → OA := loopN (atLoop tab (run tab K) f K j outs (bodyOf fn) (doneK tab (tab.roF f) fn) (fun _ _ => none) (doneK tab (tab.roF f) fn)) (tab.keep f j)
abbrev I (n : Int) : AV := .sc (.int .i64 n)
abbrev B (b : Bool) : AV := .sc (.bool b)
def tr32_3 (K : Nat) (q3 : Int → LA → Int → Int → OA) (y1 : Int) (y2 : LA) (y3 : Int) (y4 : Int) : OA :=
  match decide (y4 < y3) with | true => (if 0 ≤ y4 then (match y2[y4.toNat]? with | some x1 => (castI .i64 x1 fun n2 => match (n2 != y1) with | true => (some (I n2)) | false => (q3 y1 y2 y3 (IntKind.i64.wrap (y4 + 1)))) | none => none) else none) | false => (some (I y1))
def tr32 (K : Nat) (q3 : Int → LA → Int → Int → OA) (a0 : LA) : OA :=
  q3 (0 : Int) a0 (a0.length : Int) (0 : Int)
def lp32_3 (K : Nat) : Nat → Int → LA → Int → Int → OA
  | 0, _, _, _, _ => none
  | k + 1, y1, y2, y3, y4 => tr32_3 K (lp32_3 K k) y1 y2 y3 y4
def sh32 (K : Nat) (a0 : LA) : OA := tr32 K (lp32_3 K K) a0
def fr32_3 (y1 : Int) (y2 : LA) (y3 : Int) (y4 : Int) : Fr := { slots := gap 3 ((I y1, .uni .ro) :: gap 2 ((.sl 29 y2, .uni .lent) :: (I y3, .uni .ro) :: (I y4, .uni .ro) :: gap 9 [])), boxes := [] }
theorem st32_3 (K : Nat) (k : Nat) (y1 : Int) (y2 : LA) (y3 : Int) (y4 : Int) : mlp 32 Tryz.f32 K 3 (fun i_ => fun _ => none) (k + 1) (fr32_3 y1 y2 y3 y4) = tr32_3 K (fun y1 y2 y3 y4 => mlp 32 Tryz.f32 K 3 (fun i_ => fun _ => none) k (fr32_3 y1 y2 y3 y4)) y1 y2 y3 y4 := by kernel_rfl
theorem lq32_3 (K : Nat) : ∀ (k : Nat) (y1 : Int) (y2 : LA) (y3 : Int) (y4 : Int), mlp 32 Tryz.f32 K 3 (fun i_ => fun _ => none) k (fr32_3 y1 y2 y3 y4) = lp32_3 K k y1 y2 y3 y4
  | 0, _, _, _, _ => rfl
  | k + 1, y1, y2, y3, y4 => by
    rw [st32_3]
    have ih := lq32_3 K k
    try simp only [ih]
    try rfl
theorem eq32 (K : Nat) (a0 : LA) : run tab (K + 1) 32 [.sl 29 a0] = sh32 K a0 := by
  have h : run tab (K + 1) 32 [.sl 29 a0] = tr32 K (fun y1 y2 y3 y4 => mlp 32 Tryz.f32 K 3 (fun i_ => fun _ => none) K (fr32_3 y1 y2 y3 y4)) a0 := by kernel_rfl
  rw [h]
  simp only [lq32_3]
  rfl

def tr33 (K : Nat) (a0 : Bool) (a1 : Int) : OA :=
  match a0 with | true => (some (I 0)) | false => (some (I a1))
def sh33 (K : Nat) (a0 : Bool) (a1 : Int) : OA := tr33 K a0 a1
theorem eq33 (K : Nat) (a0 : Bool) (a1 : Int) : run tab (K + 1) 33 [B a0, I a1] = sh33 K a0 a1 := by kernel_rfl

def tr75_3 (K : Nat) (q3 : Int → LA → Int → Int → OA) (y1 : Int) (y2 : LA) (y3 : Int) (y4 : Int) : OA :=
  match decide (y4 < y3) with | true => (if 0 ≤ y4 then (match y2[y4.toNat]? with | some x3 => (castI .i64 x3 fun n4 => match (n4 != y1) with | true => (some (I n4)) | false => (q3 y1 y2 y3 (IntKind.i64.wrap (y4 + 1)))) | none => none) else none) | false => (some (I y1))
def tr75 (K : Nat) (q3 : Int → LA → Int → Int → OA) (a0 : LA) : OA :=
  q3 (0 : Int) a0 (a0.length : Int) (0 : Int)
def lp75_3 (K : Nat) : Nat → Int → LA → Int → Int → OA
  | 0, _, _, _, _ => none
  | k + 1, y1, y2, y3, y4 => tr75_3 K (lp75_3 K k) y1 y2 y3 y4
def sh75 (K : Nat) (a0 : LA) : OA := tr75 K (lp75_3 K K) a0
def fr75_3 (y1 : Int) (y2 : LA) (y3 : Int) (y4 : Int) : Fr := { slots := gap 3 ((I y1, .uni .ro) :: gap 2 ((.sl 3 y2, .uni .lent) :: (I y3, .uni .ro) :: (I y4, .uni .ro) :: gap 9 [])), boxes := [] }
theorem st75_3 (K : Nat) (k : Nat) (y1 : Int) (y2 : LA) (y3 : Int) (y4 : Int) : mlp 75 Tryz.f75 K 3 (fun i_ => fun _ => none) (k + 1) (fr75_3 y1 y2 y3 y4) = tr75_3 K (fun y1 y2 y3 y4 => mlp 75 Tryz.f75 K 3 (fun i_ => fun _ => none) k (fr75_3 y1 y2 y3 y4)) y1 y2 y3 y4 := by kernel_rfl
theorem lq75_3 (K : Nat) : ∀ (k : Nat) (y1 : Int) (y2 : LA) (y3 : Int) (y4 : Int), mlp 75 Tryz.f75 K 3 (fun i_ => fun _ => none) k (fr75_3 y1 y2 y3 y4) = lp75_3 K k y1 y2 y3 y4
  | 0, _, _, _, _ => rfl
  | k + 1, y1, y2, y3, y4 => by
    rw [st75_3]
    have ih := lq75_3 K k
    try simp only [ih]
    try rfl
theorem eq75 (K : Nat) (a0 : LA) : run tab (K + 1) 75 [.sl 3 a0] = sh75 K a0 := by
  have h : run tab (K + 1) 75 [.sl 3 a0] = tr75 K (fun y1 y2 y3 y4 => mlp 75 Tryz.f75 K 3 (fun i_ => fun _ => none) K (fr75_3 y1 y2 y3 y4)) a0 := by kernel_rfl
  rw [h]
  simp only [lq75_3]
  rfl

def tr76 (K : Nat) (a0 : Int) (a1 : Int) : OA :=
  match run tab K 95 [I a0] with | some r5 => (castB r5 fun b6 => match run tab K 95 [I a1] with | some r7 => (castB r7 fun b8 => match b6 with | true => (match b8 with | true => (some (I 0)) | false => (some (I (-1)))) | false => (match b8 with | true => (some (I 1)) | false => (match decide (a0 < a1) with | true => (some (I (-1))) | false => (match decide (a0 > a1) with | true => (some (I 1)) | false => (some (I 0)))))) | none => none) | none => none
def sh76 (K : Nat) (a0 : Int) (a1 : Int) : OA := tr76 K a0 a1
theorem eq76 (K : Nat) (a0 : Int) (a1 : Int) : run tab (K + 1) 76 [I a0, I a1] = sh76 K a0 a1 := by kernel_rfl

def tr95 (K : Nat) (a0 : Int) : OA :=
  some (B (a0 != a0))
def sh95 (K : Nat) (a0 : Int) : OA := tr95 K a0
theorem eq95 (K : Nat) (a0 : Int) : run tab (K + 1) 95 [I a0] = sh95 K a0 := by kernel_rfl

def tr14 (K : Nat) (a0 : Int) (a1 : Int) (a2 : Int) : OA :=
  match decide (a1 ≤ a0) with | true => (some (B (decide (a0 ≤ a2)))) | false => (some (B false))
def sh14 (K : Nat) (a0 : Int) (a1 : Int) (a2 : Int) : OA := tr14 K a0 a1 a2
theorem eq14 (K : Nat) (a0 : Int) (a1 : Int) (a2 : Int) : run tab (K + 1) 14 [I a0, I a1, I a2] = sh14 K a0 a1 a2 := by kernel_rfl

def tr53_2 (K : Nat) (q2 : LA → LA → Int → OA) (y1 : LA) (y2 : LA) (y3 : Int) : OA :=
  match decide (y3 < (y1.length : Int)) with | true => (match decide (y3 < (y2.length : Int)) with | true => (if 0 ≤ y3 then (match y1[y3.toNat]? with | some x9 => (castI .i64 x9 fun n10 => if 0 ≤ y3 then (match y2[y3.toNat]? with | some x11 => (castI .i64 x11 fun n12 => match (n10 != n12) with | true => (if 0 ≤ y3 then (match y1[y3.toNat]? with | some x13 => (castI .i64 x13 fun n14 => if 0 ≤ y3 then (match y2[y3.toNat]? with | some x15 => (castI .i64 x15 fun n16 => match run tab K 52 [B (decide (n14 > n16))] with | some r17 => (castI .i64 r17 fun n18 => some (I (IntKind.i64.wrap ((IntKind.i64.wrap (2 * n18)) - 1)))) | none => none) | none => none) else none) | none => none) else none) | false => (q2 y1 y2 (IntKind.i64.wrap (y3 + 1)))) | none => none) else none) | none => none) else none) | false => (match run tab K 52 [B (decide ((y1.length : Int) > (y2.length : Int)))] with | some r19 => (castI .i64 r19 fun n20 => match run tab K 52 [B (decide ((y1.length : Int) < (y2.length : Int)))] with | some r21 => (castI .i64 r21 fun n22 => some (I (IntKind.i64.wrap (n20 - n22)))) | none => none) | none => none)) | false => (match run tab K 52 [B (decide ((y1.length : Int) > (y2.length : Int)))] with | some r23 => (castI .i64 r23 fun n24 => match run tab K 52 [B (decide ((y1.length : Int) < (y2.length : Int)))] with | some r25 => (castI .i64 r25 fun n26 => some (I (IntKind.i64.wrap (n24 - n26)))) | none => none) | none => none)
def tr53 (K : Nat) (q2 : LA → LA → Int → OA) (a0 : LA) (a1 : LA) : OA :=
  q2 a0 a1 (0 : Int)
def lp53_2 (K : Nat) : Nat → LA → LA → Int → OA
  | 0, _, _, _ => none
  | k + 1, y1, y2, y3 => tr53_2 K (lp53_2 K k) y1 y2 y3
def sh53 (K : Nat) (a0 : LA) (a1 : LA) : OA := tr53 K (lp53_2 K K) a0 a1
def fr53_2 (y1 : LA) (y2 : LA) (y3 : Int) : Fr := { slots := (.sl 3 y1, .uni .lent) :: (.sl 3 y2, .uni .lent) :: gap 3 ((I y3, .uni .ro) :: gap 46 []), boxes := [] }
theorem st53_2 (K : Nat) (k : Nat) (y1 : LA) (y2 : LA) (y3 : Int) : mlp 53 Tryz.f53 K 2 (fun i_ => fun _ => none) (k + 1) (fr53_2 y1 y2 y3) = tr53_2 K (fun y1 y2 y3 => mlp 53 Tryz.f53 K 2 (fun i_ => fun _ => none) k (fr53_2 y1 y2 y3)) y1 y2 y3 := by kernel_rfl
theorem lq53_2 (K : Nat) : ∀ (k : Nat) (y1 : LA) (y2 : LA) (y3 : Int), mlp 53 Tryz.f53 K 2 (fun i_ => fun _ => none) k (fr53_2 y1 y2 y3) = lp53_2 K k y1 y2 y3
  | 0, _, _, _ => rfl
  | k + 1, y1, y2, y3 => by
    rw [st53_2]
    have ih := lq53_2 K k
    try simp only [ih]
    try rfl
theorem eq53 (K : Nat) (a0 : LA) (a1 : LA) : run tab (K + 1) 53 [.sl 3 a0, .sl 3 a1] = sh53 K a0 a1 := by
  have h : run tab (K + 1) 53 [.sl 3 a0, .sl 3 a1] = tr53 K (fun y1 y2 y3 => mlp 53 Tryz.f53 K 2 (fun i_ => fun _ => none) K (fr53_2 y1 y2 y3)) a0 a1 := by kernel_rfl
  rw [h]
  simp only [lq53_2]
  rfl

def tr25_6 (K : Nat) (q6 : Int → Int → Int → Int → Int → LA → OA) (y1 : Int) (y2 : Int) (y3 : Int) (y4 : Int) (y5 : Int) (y6 : LA) : OA :=
  match decide (y1 < (y6.length : Int)) with | true => (if 0 ≤ y1 then (match y6[y1.toNat]? with | some x35 => (castI .i64 (cellN x35 0) fun n36 => castI .i64 (cellN x35 1) fun n37 => castI .i64 (cellN x35 2) fun n38 => castI .i64 (cellN x35 3) fun n39 => match run tab K 14 [I n36, I 0, I (IntKind.i64.wrap (y2 - 1))] with | some r40 => (castB r40 fun b41 => match (!b41) with | true => (some (.tup [I y1, I 3])) | false => (match run tab K 14 [I n39, I 0, I (IntKind.i64.wrap (y2 - 1))] with | some r42 => (castB r42 fun b43 => match (!b43) with | true => (some (.tup [I y1, I 3])) | false => (match run tab K 14 [I n37, I 0, I (IntKind.i64.wrap (y3 - 1))] with | some r44 => (castB r44 fun b45 => match (!b45) with | true => (some (.tup [I y1, I 3])) | false => (match run tab K 14 [I n38, I 0, I (IntKind.i64.wrap (y4 - 1))] with | some r46 => (castB r46 fun b47 => match (!b47) with | true => (some (.tup [I y1, I 3])) | false => (match decide (y1 > (0 : Int)) with | true => (if 0 ≤ (IntKind.i64.wrap (y1 - 1)) then (match y6[(IntKind.i64.wrap (y1 - 1)).toNat]? with | some x48 => (castI .i64 (cellN x48 0) fun n49 => if 0 ≤ (IntKind.i64.wrap (y1 - 1)) then (match y6[(IntKind.i64.wrap (y1 - 1)).toNat]? with | some x50 => (castI .i64 (cellN x50 1) fun n51 => match run tab K 53 [.sl 3 [I n49, I n51], .sl 3 [I n36, I n37]] with | some r52 => (castI .i64 r52 fun n53 => match decide (n53 ≥ (0 : Int)) with | true => (some (.tup [I y1, I 14])) | false => (q6 (IntKind.i64.wrap (y1 + 1)) y2 y3 y4 y5 y6)) | none => none) | none => none) else none) | none => none) else none) | false => (q6 (IntKind.i64.wrap (y1 + 1)) y2 y3 y4 y5 y6))) | none => none)) | none => none)) | none => none)) | none => none) | none => none) else none) | false => (some (.tup [I 0, I 0]))
def tr25 (K : Nat) (q6 : Int → Int → Int → Int → Int → LA → OA) (a0_0 : Int) (a0_1 : Int) (a0_2 : Int) (a0_3 : Int) (a0_4 : LA) : OA :=
  match run tab K 14 [I a0_0, I 1, I 40] with | some r27 => (castB r27 fun b28 => match (!b28) with | true => (some (.tup [I 0, I 3])) | false => (match run tab K 14 [I a0_1, I 1, I 8] with | some r29 => (castB r29 fun b30 => match (!b30) with | true => (some (.tup [I 0, I 3])) | false => (match run tab K 14 [I a0_2, I 1, I 8] with | some r31 => (castB r31 fun b32 => match (!b32) with | true => (some (.tup [I 0, I 3])) | false => (match run tab K 14 [I a0_3, I 0, I (IntKind.i64.wrap (a0_0 - 1))] with | some r33 => (castB r33 fun b34 => match (!b34) with | true => (some (.tup [I 0, I 3])) | false => (match decide ((a0_4.length : Int) > (IntKind.i64.wrap (a0_0 * a0_1))) with | true => (some (.tup [I 0, I 2])) | false => (q6 (0 : Int) a0_0 a0_1 a0_2 a0_3 a0_4))) | none => none)) | none => none)) | none => none)) | none => none
def lp25_6 (K : Nat) : Nat → Int → Int → Int → Int → Int → LA → OA
  | 0, _, _, _, _, _, _ => none
  | k + 1, y1, y2, y3, y4, y5, y6 => tr25_6 K (lp25_6 K k) y1 y2 y3 y4 y5 y6
def sh25 (K : Nat) (a0_0 : Int) (a0_1 : Int) (a0_2 : Int) (a0_3 : Int) (a0_4 : LA) : OA := tr25 K (lp25_6 K K) a0_0 a0_1 a0_2 a0_3 a0_4
def fr25_6 (y1 : Int) (y2 : Int) (y3 : Int) (y4 : Int) (y5 : Int) (y6 : LA) : Fr := { slots := gap 1 ((.undef, .loc 1 0) :: gap 2 ((I y1, .uni .ro) :: gap 109 [])), boxes := [(1, [(I y2, .ro), (I y3, .ro), (I y4, .ro), (I y5, .ro), (.sl 75 y6, .lent)])] }
theorem st25_6 (K : Nat) (k : Nat) (y1 : Int) (y2 : Int) (y3 : Int) (y4 : Int) (y5 : Int) (y6 : LA) : mlp 25 Tryz.f25 K 6 (fun i_ => fun _ => none) (k + 1) (fr25_6 y1 y2 y3 y4 y5 y6) = tr25_6 K (fun y1 y2 y3 y4 y5 y6 => mlp 25 Tryz.f25 K 6 (fun i_ => fun _ => none) k (fr25_6 y1 y2 y3 y4 y5 y6)) y1 y2 y3 y4 y5 y6 := by kernel_rfl
theorem lq25_6 (K : Nat) : ∀ (k : Nat) (y1 : Int) (y2 : Int) (y3 : Int) (y4 : Int) (y5 : Int) (y6 : LA), mlp 25 Tryz.f25 K 6 (fun i_ => fun _ => none) k (fr25_6 y1 y2 y3 y4 y5 y6) = lp25_6 K k y1 y2 y3 y4 y5 y6
  | 0, _, _, _, _, _, _ => rfl
  | k + 1, y1, y2, y3, y4, y5, y6 => by
    rw [st25_6]
    have ih := lq25_6 K k
    try simp only [ih]
    try rfl
theorem eq25 (K : Nat) (a0_0 : Int) (a0_1 : Int) (a0_2 : Int) (a0_3 : Int) (a0_4 : LA) : run tab (K + 1) 25 [.agg [I a0_0, I a0_1, I a0_2, I a0_3, .sl 75 a0_4]] = sh25 K a0_0 a0_1 a0_2 a0_3 a0_4 := by
  have h : run tab (K + 1) 25 [.agg [I a0_0, I a0_1, I a0_2, I a0_3, .sl 75 a0_4]] = tr25 K (fun y1 y2 y3 y4 y5 y6 => mlp 25 Tryz.f25 K 6 (fun i_ => fun _ => none) K (fr25_6 y1 y2 y3 y4 y5 y6)) a0_0 a0_1 a0_2 a0_3 a0_4 := by kernel_rfl
  rw [h]
  simp only [lq25_6]
  rfl

def tr34 (K : Nat) (a0 : Int) (a1 : Int) (a2 : Int) : OA :=
  match decide (a1 ≤ a0) with | true => (some (B (decide (a0 ≤ a2)))) | false => (some (B false))
def sh34 (K : Nat) (a0 : Int) (a1 : Int) (a2 : Int) : OA := tr34 K a0 a1 a2
theorem eq34 (K : Nat) (a0 : Int) (a1 : Int) (a2 : Int) : run tab (K + 1) 34 [I a0, I a1, I a2] = sh34 K a0 a1 a2 := by kernel_rfl

def tr54_6 (K : Nat) (q6 : LA → Int → Int → Int → Int → Int → Int → LA → OA) (y1 : LA) (y2 : Int) (y3 : Int) (y4 : Int) (y5 : Int) (y6 : Int) (y7 : Int) (y8 : LA) : OA :=
  match decide (y3 < y2) with | true => (if 0 ≤ y3 then (match y1[y3.toNat]? with | some x62 => (castI .i64 (cellN x62 0) fun n63 => castI .i64 (cellN x62 1) fun n64 => castI .i64 (cellN x62 2) fun n65 => castI .i64 (cellN x62 3) fun n66 => match run tab K 34 [I n63, I 0, I (IntKind.i64.wrap (y4 - 1))] with | some r67 => (castB r67 fun b68 => match (!b68) with | true => (some (.tup [I y3, I 3])) | false => (match run tab K 34 [I n66, I 0, I (IntKind.i64.wrap (y4 - 1))] with | some r69 => (castB r69 fun b70 => match (!b70) with | true => (some (.tup [I y3, I 3])) | false => (match run tab K 34 [I n64, I 0, I (IntKind.i64.wrap (y5 - 1))] with | some r71 => (castB r71 fun b72 => match (!b72) with | true => (some (.tup [I y3, I 3])) | false => (match run tab K 34 [I n65, I 0, I (IntKind.i64.wrap (y6 - 1))] with | some r73 => (castB r73 fun b74 => match (!b74) with | true => (some (.tup [I y3, I 3])) | false => (match decide (y3 > (0 : Int)) with | true => (if 0 ≤ (IntKind.i64.wrap (y3 - 1)) then (match y8[(IntKind.i64.wrap (y3 - 1)).toNat]? with | some x75 => (castI .i64 (cellN x75 0) fun n76 => if 0 ≤ (IntKind.i64.wrap (y3 - 1)) then (match y8[(IntKind.i64.wrap (y3 - 1)).toNat]? with | some x77 => (castI .i64 (cellN x77 1) fun n78 => match run tab K 76 [I n76, I n63] with | some r79 => (castI .i64 r79 fun n80 => match run tab K 76 [I n78, I n64] with | some r81 => (castI .i64 r81 fun n82 => match run tab K 75 [.sl 3 [I n80, I n82]] with | some r83 => (castI .i64 r83 fun n84 => match decide (n84 ≥ (0 : Int)) with | true => (some (.tup [I y3, I 14])) | false => (q6 y1 y2 (IntKind.i64.wrap (y3 + 1)) y4 y5 y6 y7 y8)) | none => none) | none => none) | none => none) | none => none) else none) | none => none) else none) | false => (q6 y1 y2 (IntKind.i64.wrap (y3 + 1)) y4 y5 y6 y7 y8))) | none => none)) | none => none)) | none => none)) | none => none) | none => none) else none) | false => (some (.tup [I 0, I 0]))
def tr54 (K : Nat) (q6 : LA → Int → Int → Int → Int → Int → Int → LA → OA) (a0_0 : Int) (a0_1 : Int) (a0_2 : Int) (a0_3 : Int) (a0_4 : LA) : OA :=
  match run tab K 34 [I a0_0, I 1, I 40] with | some r54 => (castB r54 fun b55 => match (!b55) with | true => (some (.tup [I 0, I 3])) | false => (match run tab K 34 [I a0_1, I 1, I 8] with | some r56 => (castB r56 fun b57 => match (!b57) with | true => (some (.tup [I 0, I 3])) | false => (match run tab K 34 [I a0_2, I 1, I 8] with | some r58 => (castB r58 fun b59 => match (!b59) with | true => (some (.tup [I 0, I 3])) | false => (match run tab K 34 [I a0_3, I 0, I (IntKind.i64.wrap (a0_0 - 1))] with | some r60 => (castB r60 fun b61 => match (!b61) with | true => (some (.tup [I 0, I 3])) | false => (match decide ((a0_4.length : Int) > (IntKind.i64.wrap (a0_0 * a0_1))) with | true => (some (.tup [I 0, I 2])) | false => (q6 a0_4 (a0_4.length : Int) (0 : Int) a0_0 a0_1 a0_2 a0_3 a0_4))) | none => none)) | none => none)) | none => none)) | none => none
def lp54_6 (K : Nat) : Nat → LA → Int → Int → Int → Int → Int → Int → LA → OA
  | 0, _, _, _, _, _, _, _, _ => none
  | k + 1, y1, y2, y3, y4, y5, y6, y7, y8 => tr54_6 K (lp54_6 K k) y1 y2 y3 y4 y5 y6 y7 y8
def sh54 (K : Nat) (a0_0 : Int) (a0_1 : Int) (a0_2 : Int) (a0_3 : Int) (a0_4 : LA) : OA := tr54 K (lp54_6 K K) a0_0 a0_1 a0_2 a0_3 a0_4
def fr54_6 (y1 : LA) (y2 : Int) (y3 : Int) (y4 : Int) (y5 : Int) (y6 : Int) (y7 : Int) (y8 : LA) : Fr := { slots := gap 1 ((.undef, .loc 1 0) :: gap 39 ((.sl 75 y1, .uni .lent) :: (I y2, .uni .ro) :: (I y3, .uni .ro) :: gap 68 [])), boxes := [(1, [(I y4, .ro), (I y5, .ro), (I y6, .ro), (I y7, .ro), (.sl 75 y8, .lent)])] }
theorem st54_6 (K : Nat) (k : Nat) (y1 : LA) (y2 : Int) (y3 : Int) (y4 : Int) (y5 : Int) (y6 : Int) (y7 : Int) (y8 : LA) : mlp 54 Tryz.f54 K 6 (fun i_ => fun _ => none) (k + 1) (fr54_6 y1 y2 y3 y4 y5 y6 y7 y8) = tr54_6 K (fun y1 y2 y3 y4 y5 y6 y7 y8 => mlp 54 Tryz.f54 K 6 (fun i_ => fun _ => none) k (fr54_6 y1 y2 y3 y4 y5 y6 y7 y8)) y1 y2 y3 y4 y5 y6 y7 y8 := by kernel_rfl
theorem lq54_6 (K : Nat) : ∀ (k : Nat) (y1 : LA) (y2 : Int) (y3 : Int) (y4 : Int) (y5 : Int) (y6 : Int) (y7 : Int) (y8 : LA), mlp 54 Tryz.f54 K 6 (fun i_ => fun _ => none) k (fr54_6 y1 y2 y3 y4 y5 y6 y7 y8) = lp54_6 K k y1 y2 y3 y4 y5 y6 y7 y8
  | 0, _, _, _, _, _, _, _, _ => rfl
  | k + 1, y1, y2, y3, y4, y5, y6, y7, y8 => by
    rw [st54_6]
    have ih := lq54_6 K k
    try simp only [ih]
    try rfl
theorem eq54 (K : Nat) (a0_0 : Int) (a0_1 : Int) (a0_2 : Int) (a0_3 : Int) (a0_4 : LA) : run tab (K + 1) 54 [.agg [I a0_0, I a0_1, I a0_2, I a0_3, .sl 75 a0_4]] = sh54 K a0_0 a0_1 a0_2 a0_3 a0_4 := by
  have h : run tab (K + 1) 54 [.agg [I a0_0, I a0_1, I a0_2, I a0_3, .sl 75 a0_4]] = tr54 K (fun y1 y2 y3 y4 y5 y6 y7 y8 => mlp 54 Tryz.f54 K 6 (fun i_ => fun _ => none) K (fr54_6 y1 y2 y3 y4 y5 y6 y7 y8)) a0_0 a0_1 a0_2 a0_3 a0_4 := by kernel_rfl
  rw [h]
  simp only [lq54_6]
  rfl

def tr26 (K : Nat) (a0_0 : Int) (a0_1 : Int) (a0_2 : Int) (a0_3 : Int) (a0_4 : LA) : OA :=
  match run tab K 54 [.agg [I a0_0, I a0_1, I a0_2, I a0_3, .sl 75 a0_4]] with | some r85 => (castI .i64 (compN r85 0) fun n86 => castI .i64 (compN r85 1) fun n87 => some (I n87)) | none => none
def sh26 (K : Nat) (a0_0 : Int) (a0_1 : Int) (a0_2 : Int) (a0_3 : Int) (a0_4 : LA) : OA := tr26 K a0_0 a0_1 a0_2 a0_3 a0_4
theorem eq26 (K : Nat) (a0_0 : Int) (a0_1 : Int) (a0_2 : Int) (a0_3 : Int) (a0_4 : LA) : run tab (K + 1) 26 [.agg [I a0_0, I a0_1, I a0_2, I a0_3, .sl 75 a0_4]] = sh26 K a0_0 a0_1 a0_2 a0_3 a0_4 := by kernel_rfl

def tr6 (K : Nat) (a0_0 : Int) (a0_1 : Int) (a0_2 : Int) (a0_3 : Int) (a0_4 : LA) : OA :=
  match run tab K 25 [.agg [I a0_0, I a0_1, I a0_2, I a0_3, .sl 75 a0_4]] with | some r88 => (castI .i64 (compN r88 0) fun n89 => castI .i64 (compN r88 1) fun n90 => some (I n90)) | none => none
def sh6 (K : Nat) (a0_0 : Int) (a0_1 : Int) (a0_2 : Int) (a0_3 : Int) (a0_4 : LA) : OA := tr6 K a0_0 a0_1 a0_2 a0_3 a0_4
theorem eq6 (K : Nat) (a0_0 : Int) (a0_1 : Int) (a0_2 : Int) (a0_3 : Int) (a0_4 : LA) : run tab (K + 1) 6 [.agg [I a0_0, I a0_1, I a0_2, I a0_3, .sl 75 a0_4]] = sh6 K a0_0 a0_1 a0_2 a0_3 a0_4 := by kernel_rfl

def tr8 (K : Nat) (a0_0 : Int) (a0_1 : Int) (a0_2 : Int) (a0_3 : Int) (a0_4 : LA) : OA :=
  if (([] : LA).length + a0_4.length) * 32 ≤ maxBytes then (some (.agg [I a0_0, I a0_1, I a0_2, I a0_3, .sl 75 (([] : LA) ++ a0_4)])) else none
def sh8 (K : Nat) (a0_0 : Int) (a0_1 : Int) (a0_2 : Int) (a0_3 : Int) (a0_4 : LA) : OA := tr8 K a0_0 a0_1 a0_2 a0_3 a0_4
theorem eq8 (K : Nat) (a0_0 : Int) (a0_1 : Int) (a0_2 : Int) (a0_3 : Int) (a0_4 : LA) : run tab (K + 1) 8 [.agg [I a0_0, I a0_1, I a0_2, I a0_3, .sl 75 a0_4]] = sh8 K a0_0 a0_1 a0_2 a0_3 a0_4 := by kernel_rfl

def tr10_4 (K : Nat) (q4 : LA → LA → Int → OA) (y1 : LA) (y2 : LA) (y3 : Int) : OA :=
  match decide (y3 < (y1.length : Int)) with | true => (if 0 ≤ y3 then (match y1[y3.toNat]? with | some x91 => (castI .i64 x91 fun n92 => if 0 ≤ y3 then (match y2[y3.toNat]? with | some x93 => (castI .i64 x93 fun n94 => match (n92 != n94) with | true => (some (B false)) | false => (q4 y1 y2 (IntKind.i64.wrap (y3 + 1)))) | none => none) else none) | none => none) else none) | false => (some (B true))
def tr10 (K : Nat) (q4 : LA → LA → Int → OA) (a0 : LA) (a1 : LA) : OA :=
  match ((a0.length : Int) != (a1.length : Int)) with | true => (some (B false)) | false => (q4 a0 a1 (0 : Int))
def lp10_4 (K : Nat) : Nat → LA → LA → Int → OA
  | 0, _, _, _ => none
  | k + 1, y1, y2, y3 => tr10_4 K (lp10_4 K k) y1 y2 y3
def sh10 (K : Nat) (a0 : LA) (a1 : LA) : OA := tr10 K (lp10_4 K K) a0 a1
def fr10_4 (y1 : LA) (y2 : LA) (y3 : Int) : Fr := { slots := (.sl 3 y1, .uni .lent) :: (.sl 3 y2, .uni .lent) :: gap 3 ((I y3, .uni .ro) :: gap 20 []), boxes := [] }
theorem st10_4 (K : Nat) (k : Nat) (y1 : LA) (y2 : LA) (y3 : Int) : mlp 10 Tryz.f10 K 4 (fun i_ => fun _ => none) (k + 1) (fr10_4 y1 y2 y3) = tr10_4 K (fun y1 y2 y3 => mlp 10 Tryz.f10 K 4 (fun i_ => fun _ => none) k (fr10_4 y1 y2 y3)) y1 y2 y3 := by kernel_rfl
theorem lq10_4 (K : Nat) : ∀ (k : Nat) (y1 : LA) (y2 : LA) (y3 : Int), mlp 10 Tryz.f10 K 4 (fun i_ => fun _ => none) k (fr10_4 y1 y2 y3) = lp10_4 K k y1 y2 y3
  | 0, _, _, _ => rfl
  | k + 1, y1, y2, y3 => by
    rw [st10_4]
    have ih := lq10_4 K k
    try simp only [ih]
    try rfl
theorem eq10 (K : Nat) (a0 : LA) (a1 : LA) : run tab (K + 1) 10 [.sl 3 a0, .sl 3 a1] = sh10 K a0 a1 := by
  have h : run tab (K + 1) 10 [.sl 3 a0, .sl 3 a1] = tr10 K (fun y1 y2 y3 => mlp 10 Tryz.f10 K 4 (fun i_ => fun _ => none) K (fr10_4 y1 y2 y3)) a0 a1 := by kernel_rfl
  rw [h]
  simp only [lq10_4]
  rfl

def tr11_4 (K : Nat) (q4 : LA → LA → Int → OA) (y1 : LA) (y2 : LA) (y3 : Int) : OA :=
  match decide (y3 < (y1.length : Int)) with | true => (if 0 ≤ y3 then (match y1[y3.toNat]? with | some x95 => (castL 3 x95 fun l96 => if 0 ≤ y3 then (match y2[y3.toNat]? with | some x97 => (castL 3 x97 fun l98 => match run tab K 10 [.sl 3 l96, .sl 3 l98] with | some r99 => (castB r99 fun b100 => match (!b100) with | true => (some (B false)) | false => (q4 y1 y2 (IntKind.i64.wrap (y3 + 1)))) | none => none) | none => none) else none) | none => none) else none) | false => (some (B true))
def tr11 (K : Nat) (q4 : LA → LA → Int → OA) (a0 : LA) (a1 : LA) : OA :=
  match ((a0.length : Int) != (a1.length : Int)) with | true => (some (B false)) | false => (q4 a0 a1 (0 : Int))
def lp11_4 (K : Nat) : Nat → LA → LA → Int → OA
  | 0, _, _, _ => none
  | k + 1, y1, y2, y3 => tr11_4 K (lp11_4 K k) y1 y2 y3
def sh11 (K : Nat) (a0 : LA) (a1 : LA) : OA := tr11 K (lp11_4 K K) a0 a1
def fr11_4 (y1 : LA) (y2 : LA) (y3 : Int) : Fr := { slots := (.sl 25 y1, .uni .lent) :: (.sl 25 y2, .uni .lent) :: gap 3 ((I y3, .uni .ro) :: gap 21 []), boxes := [] }
theorem st11_4 (K : Nat) (k : Nat) (y1 : LA) (y2 : LA) (y3 : Int) : mlp 11 Tryz.f11 K 4 (fun i_ => fun _ => none) (k + 1) (fr11_4 y1 y2 y3) = tr11_4 K (fun y1 y2 y3 => mlp 11 Tryz.f11 K 4 (fun i_ => fun _ => none) k (fr11_4 y1 y2 y3)) y1 y2 y3 := by kernel_rfl
theorem lq11_4 (K : Nat) : ∀ (k : Nat) (y1 : LA) (y2 : LA) (y3 : Int), mlp 11 Tryz.f11 K 4 (fun i_ => fun _ => none) k (fr11_4 y1 y2 y3) = lp11_4 K k y1 y2 y3
  | 0, _, _, _ => rfl
  | k + 1, y1, y2, y3 => by
    rw [st11_4]
    have ih := lq11_4 K k
    try simp only [ih]
    try rfl
theorem eq11 (K : Nat) (a0 : LA) (a1 : LA) : run tab (K + 1) 11 [.sl 25 a0, .sl 25 a1] = sh11 K a0 a1 := by
  have h : run tab (K + 1) 11 [.sl 25 a0, .sl 25 a1] = tr11 K (fun y1 y2 y3 => mlp 11 Tryz.f11 K 4 (fun i_ => fun _ => none) K (fr11_4 y1 y2 y3)) a0 a1 := by kernel_rfl
  rw [h]
  simp only [lq11_4]
  rfl

def tr13 (K : Nat) (a0 : LA) : OA :=
  if (([] : LA).length + a0.length) * 8 ≤ maxBytes then (some (.sl 3 (([] : LA) ++ a0))) else none
def sh13 (K : Nat) (a0 : LA) : OA := tr13 K a0
theorem eq13 (K : Nat) (a0 : LA) : run tab (K + 1) 13 [.sl 3 a0] = sh13 K a0 := by kernel_rfl

def tr15_4 (K : Nat) (q4 : LA → Int → Int → OA) (y1 : LA) (y2 : Int) (y3 : Int) : OA :=
  match decide (y3 < (y1.length : Int)) with | true => (if 0 ≤ y3 then (match y1[y3.toNat]? with | some x101 => (castI .i64 x101 fun n102 => match run tab K 14 [I n102, I 0, I (IntKind.i64.wrap (y2 - 1))] with | some r103 => (castB r103 fun b104 => match (!b104) with | true => (some (I 3)) | false => (q4 y1 y2 (IntKind.i64.wrap (y3 + 1)))) | none => none) | none => none) else none) | false => (some (I 0))
def tr15 (K : Nat) (q4 : LA → Int → Int → OA) (a0 : LA) (a1 : Int) (a2 : Int) : OA :=
  match decide ((a0.length : Int) > a2) with | true => (some (I 2)) | false => (q4 a0 a1 (0 : Int))
def lp15_4 (K : Nat) : Nat → LA → Int → Int → OA
  | 0, _, _, _ => none
  | k + 1, y1, y2, y3 => tr15_4 K (lp15_4 K k) y1 y2 y3
def sh15 (K : Nat) (a0 : LA) (a1 : Int) (a2 : Int) : OA := tr15 K (lp15_4 K K) a0 a1 a2
def fr15_4 (y1 : LA) (y2 : Int) (y3 : Int) : Fr := { slots := (.sl 3 y1, .uni .lent) :: (I y2, .uni .ro) :: gap 5 ((I y3, .uni .ro) :: gap 18 []), boxes := [] }
theorem st15_4 (K : Nat) (k : Nat) (y1 : LA) (y2 : Int) (y3 : Int) : mlp 15 Tryz.f15 K 4 (fun i_ => fun _ => none) (k + 1) (fr15_4 y1 y2 y3) = tr15_4 K (fun y1 y2 y3 => mlp 15 Tryz.f15 K 4 (fun i_ => fun _ => none) k (fr15_4 y1 y2 y3)) y1 y2 y3 := by kernel_rfl
theorem lq15_4 (K : Nat) : ∀ (k : Nat) (y1 : LA) (y2 : Int) (y3 : Int), mlp 15 Tryz.f15 K 4 (fun i_ => fun _ => none) k (fr15_4 y1 y2 y3) = lp15_4 K k y1 y2 y3
  | 0, _, _, _ => rfl
  | k + 1, y1, y2, y3 => by
    rw [st15_4]
    have ih := lq15_4 K k
    try simp only [ih]
    try rfl
theorem eq15 (K : Nat) (a0 : LA) (a1 : Int) (a2 : Int) : run tab (K + 1) 15 [.sl 3 a0, I a1, I a2] = sh15 K a0 a1 a2 := by
  have h : run tab (K + 1) 15 [.sl 3 a0, I a1, I a2] = tr15 K (fun y1 y2 y3 => mlp 15 Tryz.f15 K 4 (fun i_ => fun _ => none) K (fr15_4 y1 y2 y3)) a0 a1 a2 := by kernel_rfl
  rw [h]
  simp only [lq15_4]
  rfl

def tr16_4 (K : Nat) (q4 : LA → LA → LA → Int → Int → Int → Int → Int → LA → OA) (y1 : LA) (y2 : LA) (y3 : LA) (y4 : Int) (y5 : Int) (y6 : Int) (y7 : Int) (y8 : Int) (y9 : LA) : OA :=
  match decide (y4 < (y3.length : Int)) with | true => (if 0 ≤ y4 then (match y3[y4.toNat]? with | some x107 => (castI .i64 x107 fun n108 => if 0 ≤ n108 then (match y9[n108.toNat]? with | some x109 => (castI .i64 (cellN x109 2) fun n110 => if 0 ≤ y4 then (match y3[y4.toNat]? with | some x111 => (castI .i64 x111 fun n112 => if 0 ≤ n112 then (match y9[n112.toNat]? with | some x113 => (castI .i64 (cellN x113 3) fun n114 => if (y1.length + ([I n110] : LA).length) * 8 ≤ maxBytes then (if (y2.length + ([I n114] : LA).length) * 8 ≤ maxBytes then (q4 (y1 ++ ([I n110] : LA)) (y2 ++ ([I n114] : LA)) y3 (IntKind.i64.wrap (y4 + 1)) y5 y6 y7 y8 y9) else none) else none) | none => none) else none) | none => none) else none) | none => none) else none) | none => none) else none) | false => (some (.tup [.sl 3 y1, .sl 3 y2]))
def tr16 (K : Nat) (q4 : LA → LA → LA → Int → Int → Int → Int → Int → LA → OA) (a0_0 : Int) (a0_1 : Int) (a0_2 : Int) (a0_3 : Int) (a0_4 : LA) (a1 : Int) (a2 : LA) : OA :=
  match run tab K 37 [.agg [I a0_0, I a0_1, I a0_2, I a0_3, .sl 75 a0_4], I a1, .sl 3 a2] with | some r105 => (castL 3 r105 fun l106 => q4 ([] : LA) ([] : LA) l106 (0 : Int) a0_0 a0_1 a0_2 a0_3 a0_4) | none => none
def lp16_4 (K : Nat) : Nat → LA → LA → LA → Int → Int → Int → Int → Int → LA → OA
  | 0, _, _, _, _, _, _, _, _, _ => none
  | k + 1, y1, y2, y3, y4, y5, y6, y7, y8, y9 => tr16_4 K (lp16_4 K k) y1 y2 y3 y4 y5 y6 y7 y8 y9
def sh16 (K : Nat) (a0_0 : Int) (a0_1 : Int) (a0_2 : Int) (a0_3 : Int) (a0_4 : LA) (a1 : Int) (a2 : LA) : OA := tr16 K (lp16_4 K K) a0_0 a0_1 a0_2 a0_3 a0_4 a1 a2
def fr16_4 (y1 : LA) (y2 : LA) (y3 : LA) (y4 : Int) (y5 : Int) (y6 : Int) (y7 : Int) (y8 : Int) (y9 : LA) : Fr := { slots := gap 3 ((.undef, .loc 3 0) :: gap 4 ((.sl 3 y1, .uni .own) :: (.sl 3 y2, .uni .own) :: (.sl 3 y3, .uni .own) :: (I y4, .uni .ro) :: gap 36 [])), boxes := [(3, [(I y5, .ro), (I y6, .ro), (I y7, .ro), (I y8, .ro), (.sl 75 y9, .lent)])] }
theorem st16_4 (K : Nat) (k : Nat) (y1 : LA) (y2 : LA) (y3 : LA) (y4 : Int) (y5 : Int) (y6 : Int) (y7 : Int) (y8 : Int) (y9 : LA) : mlp 16 Tryz.f16 K 4 (fun i_ => fun _ => none) (k + 1) (fr16_4 y1 y2 y3 y4 y5 y6 y7 y8 y9) = tr16_4 K (fun y1 y2 y3 y4 y5 y6 y7 y8 y9 => mlp 16 Tryz.f16 K 4 (fun i_ => fun _ => none) k (fr16_4 y1 y2 y3 y4 y5 y6 y7 y8 y9)) y1 y2 y3 y4 y5 y6 y7 y8 y9 := by kernel_rfl
theorem lq16_4 (K : Nat) : ∀ (k : Nat) (y1 : LA) (y2 : LA) (y3 : LA) (y4 : Int) (y5 : Int) (y6 : Int) (y7 : Int) (y8 : Int) (y9 : LA), mlp 16 Tryz.f16 K 4 (fun i_ => fun _ => none) k (fr16_4 y1 y2 y3 y4 y5 y6 y7 y8 y9) = lp16_4 K k y1 y2 y3 y4 y5 y6 y7 y8 y9
  | 0, _, _, _, _, _, _, _, _, _ => rfl
  | k + 1, y1, y2, y3, y4, y5, y6, y7, y8, y9 => by
    rw [st16_4]
    have ih := lq16_4 K k
    try simp only [ih]
    try rfl
theorem eq16 (K : Nat) (a0_0 : Int) (a0_1 : Int) (a0_2 : Int) (a0_3 : Int) (a0_4 : LA) (a1 : Int) (a2 : LA) : run tab (K + 1) 16 [.agg [I a0_0, I a0_1, I a0_2, I a0_3, .sl 75 a0_4], I a1, .sl 3 a2] = sh16 K a0_0 a0_1 a0_2 a0_3 a0_4 a1 a2 := by
  have h : run tab (K + 1) 16 [.agg [I a0_0, I a0_1, I a0_2, I a0_3, .sl 75 a0_4], I a1, .sl 3 a2] = tr16 K (fun y1 y2 y3 y4 y5 y6 y7 y8 y9 => mlp 16 Tryz.f16 K 4 (fun i_ => fun _ => none) K (fr16_4 y1 y2 y3 y4 y5 y6 y7 y8 y9)) a0_0 a0_1 a0_2 a0_3 a0_4 a1 a2 := by kernel_rfl
  rw [h]
  simp only [lq16_4]
  rfl

def tr30_2 (K : Nat) (q2 : LA → Int → Int → Int → OA) (y1 : LA) (y2 : Int) (y3 : Int) (y4 : Int) : OA :=
  match decide (y4 < y3) with | true => (if 0 ≤ y4 then (match y1[y4.toNat]? with | some x115 => (castI .i64 x115 fun n116 => match (y2 == n116) with | true => (some (I y4)) | false => (q2 y1 y2 y3 (IntKind.i64.wrap (y4 + 1)))) | none => none) else none) | false => (some (I (-1)))
def tr30 (K : Nat) (q2 : LA → Int → Int → Int → OA) (a0 : LA) (a1 : Int) : OA :=
  q2 a0 a1 (a0.length : Int) (0 : Int)
def lp30_2 (K : Nat) : Nat → LA → Int → Int → Int → OA
  | 0, _, _, _, _ => none
  | k + 1, y1, y2, y3, y4 => tr30_2 K (lp30_2 K k) y1 y2 y3 y4
def sh30 (K : Nat) (a0 : LA) (a1 : Int) : OA := tr30 K (lp30_2 K K) a0 a1
def fr30_2 (y1 : LA) (y2 : Int) (y3 : Int) (y4 : Int) : Fr := { slots := (.sl 3 y1, .uni .lent) :: (I y2, .uni .ro) :: gap 5 ((I y3, .uni .ro) :: (I y4, .uni .ro) :: gap 10 []), boxes := [] }
theorem st30_2 (K : Nat) (k : Nat) (y1 : LA) (y2 : Int) (y3 : Int) (y4 : Int) : mlp 30 Tryz.f30 K 2 (fun i_ => fun _ => none) (k + 1) (fr30_2 y1 y2 y3 y4) = tr30_2 K (fun y1 y2 y3 y4 => mlp 30 Tryz.f30 K 2 (fun i_ => fun _ => none) k (fr30_2 y1 y2 y3 y4)) y1 y2 y3 y4 := by kernel_rfl
theorem lq30_2 (K : Nat) : ∀ (k : Nat) (y1 : LA) (y2 : Int) (y3 : Int) (y4 : Int), mlp 30 Tryz.f30 K 2 (fun i_ => fun _ => none) k (fr30_2 y1 y2 y3 y4) = lp30_2 K k y1 y2 y3 y4
  | 0, _, _, _, _ => rfl
  | k + 1, y1, y2, y3, y4 => by
    rw [st30_2]
    have ih := lq30_2 K k
    try simp only [ih]
    try rfl
theorem eq30 (K : Nat) (a0 : LA) (a1 : Int) : run tab (K + 1) 30 [.sl 3 a0, I a1] = sh30 K a0 a1 := by
  have h : run tab (K + 1) 30 [.sl 3 a0, I a1] = tr30 K (fun y1 y2 y3 y4 => mlp 30 Tryz.f30 K 2 (fun i_ => fun _ => none) K (fr30_2 y1 y2 y3 y4)) a0 a1 := by kernel_rfl
  rw [h]
  simp only [lq30_2]
  rfl

def tr31_2 (K : Nat) (q2 : Int → Int → Int → Int → Int → Int → Int → LA → OA) (y1 : Int) (y2 : Int) (y3 : Int) (y4 : Int) (y5 : Int) (y6 : Int) (y7 : Int) (y8 : LA) : OA :=
  match decide (y3 < (y8.length : Int)) with | true => (if 0 ≤ y3 then (match y8[y3.toNat]? with | some x117 => (castI .i64 (cellN x117 0) fun n118 => match (n118 == y1) with | true => (if 0 ≤ y3 then (match y8[y3.toNat]? with | some x119 => (castI .i64 (cellN x119 1) fun n120 => match (n120 == y2) with | true => (some (I y3)) | false => (q2 y1 y2 (IntKind.i64.wrap (y3 + 1)) y4 y5 y6 y7 y8)) | none => none) else none) | false => (q2 y1 y2 (IntKind.i64.wrap (y3 + 1)) y4 y5 y6 y7 y8)) | none => none) else none) | false => (some (I (-1)))
def tr31 (K : Nat) (q2 : Int → Int → Int → Int → Int → Int → Int → LA → OA) (a0_0 : Int) (a0_1 : Int) (a0_2 : Int) (a0_3 : Int) (a0_4 : LA) (a1 : Int) (a2 : Int) : OA :=
  q2 a1 a2 (0 : Int) a0_0 a0_1 a0_2 a0_3 a0_4
def lp31_2 (K : Nat) : Nat → Int → Int → Int → Int → Int → Int → Int → LA → OA
  | 0, _, _, _, _, _, _, _, _ => none
  | k + 1, y1, y2, y3, y4, y5, y6, y7, y8 => tr31_2 K (lp31_2 K k) y1 y2 y3 y4 y5 y6 y7 y8
def sh31 (K : Nat) (a0_0 : Int) (a0_1 : Int) (a0_2 : Int) (a0_3 : Int) (a0_4 : LA) (a1 : Int) (a2 : Int) : OA := tr31 K (lp31_2 K K) a0_0 a0_1 a0_2 a0_3 a0_4 a1 a2
def fr31_2 (y1 : Int) (y2 : Int) (y3 : Int) (y4 : Int) (y5 : Int) (y6 : Int) (y7 : Int) (y8 : LA) : Fr := { slots := gap 1 ((I y1, .uni .ro) :: (I y2, .uni .ro) :: (.undef, .loc 3 0) :: gap 3 ((I y3, .uni .ro) :: gap 26 [])), boxes := [(3, [(I y4, .ro), (I y5, .ro), (I y6, .ro), (I y7, .ro), (.sl 75 y8, .lent)])] }
theorem st31_2 (K : Nat) (k : Nat) (y1 : Int) (y2 : Int) (y3 : Int) (y4 : Int) (y5 : Int) (y6 : Int) (y7 : Int) (y8 : LA) : mlp 31 Tryz.f31 K 2 (fun i_ => fun _ => none) (k + 1) (fr31_2 y1 y2 y3 y4 y5 y6 y7 y8) = tr31_2 K (fun y1 y2 y3 y4 y5 y6 y7 y8 => mlp 31 Tryz.f31 K 2 (fun i_ => fun _ => none) k (fr31_2 y1 y2 y3 y4 y5 y6 y7 y8)) y1 y2 y3 y4 y5 y6 y7 y8 := by kernel_rfl
theorem lq31_2 (K : Nat) : ∀ (k : Nat) (y1 : Int) (y2 : Int) (y3 : Int) (y4 : Int) (y5 : Int) (y6 : Int) (y7 : Int) (y8 : LA), mlp 31 Tryz.f31 K 2 (fun i_ => fun _ => none) k (fr31_2 y1 y2 y3 y4 y5 y6 y7 y8) = lp31_2 K k y1 y2 y3 y4 y5 y6 y7 y8
  | 0, _, _, _, _, _, _, _, _ => rfl
  | k + 1, y1, y2, y3, y4, y5, y6, y7, y8 => by
    rw [st31_2]
    have ih := lq31_2 K k
    try simp only [ih]
    try rfl
theorem eq31 (K : Nat) (a0_0 : Int) (a0_1 : Int) (a0_2 : Int) (a0_3 : Int) (a0_4 : LA) (a1 : Int) (a2 : Int) : run tab (K + 1) 31 [.agg [I a0_0, I a0_1, I a0_2, I a0_3, .sl 75 a0_4], I a1, I a2] = sh31 K a0_0 a0_1 a0_2 a0_3 a0_4 a1 a2 := by
  have h : run tab (K + 1) 31 [.agg [I a0_0, I a0_1, I a0_2, I a0_3, .sl 75 a0_4], I a1, I a2] = tr31 K (fun y1 y2 y3 y4 y5 y6 y7 y8 => mlp 31 Tryz.f31 K 2 (fun i_ => fun _ => none) K (fr31_2 y1 y2 y3 y4 y5 y6 y7 y8)) a0_0 a0_1 a0_2 a0_3 a0_4 a1 a2 := by kernel_rfl
  rw [h]
  simp only [lq31_2]
  rfl

def tr35 (K : Nat) (a0 : LA) (a1 : Int) : OA :=
  match decide ((a0.length : Int) > (60 : Int)) with | true => (some (I 2)) | false => (match run tab K 61 [.sl 3 a0, .fn 60 [.ref [I a1]]] with | some r121 => (castB r121 fun b122 => match run tab K 33 [B (!b122), I 3] with | some r123 => (castI .i64 r123 fun n124 => some (I n124)) | none => none) | none => none)
def sh35 (K : Nat) (a0 : LA) (a1 : Int) : OA := tr35 K a0 a1
theorem eq35 (K : Nat) (a0 : LA) (a1 : Int) : run tab (K + 1) 35 [.sl 3 a0, I a1] = sh35 K a0 a1 := by kernel_rfl

def tr37_3 (K : Nat) (q3 : Int → LA → LA → Int → Int → Int → Int → Int → LA → OA) (y1 : Int) (y2 : LA) (y3 : LA) (y4 : Int) (y5 : Int) (y6 : Int) (y7 : Int) (y8 : Int) (y9 : LA) : OA :=
  match decide (y4 < (y2.length : Int)) with | true => (if 0 ≤ y4 then (match y2[y4.toNat]? with | some x125 => (castI .i64 x125 fun n126 => match run tab K 31 [.agg [I y5, I y6, I y7, I y8, .sl 75 y9], I y1, I n126] with | some r127 => (castI .i64 r127 fun n128 => match (n128 == (-1 : Int)) with | true => (some (.sl 3 y3)) | false => (if (y3.length + ([I n128] : LA).length) * 8 ≤ maxBytes then (if 0 ≤ n128 then (match y9[n128.toNat]? with | some x129 => (castI .i64 (cellN x129 3) fun n130 => q3 n130 y2 (y3 ++ ([I n128] : LA)) (IntKind.i64.wrap (y4 + 1)) y5 y6 y7 y8 y9) | none => none) else none) else none)) | none => none) | none => none) else none) | false => (some (.sl 3 y3))
def tr37 (K : Nat) (q3 : Int → LA → LA → Int → Int → Int → Int → Int → LA → OA) (a0_0 : Int) (a0_1 : Int) (a0_2 : Int) (a0_3 : Int) (a0_4 : LA) (a1 : Int) (a2 : LA) : OA :=
  q3 a1 a2 ([] : LA) (0 : Int) a0_0 a0_1 a0_2 a0_3 a0_4
def lp37_3 (K : Nat) : Nat → Int → LA → LA → Int → Int → Int → Int → Int → LA → OA
  | 0, _, _, _, _, _, _, _, _, _ => none
  | k + 1, y1, y2, y3, y4, y5, y6, y7, y8, y9 => tr37_3 K (lp37_3 K k) y1 y2 y3 y4 y5 y6 y7 y8 y9
def sh37 (K : Nat) (a0_0 : Int) (a0_1 : Int) (a0_2 : Int) (a0_3 : Int) (a0_4 : LA) (a1 : Int) (a2 : LA) : OA := tr37 K (lp37_3 K K) a0_0 a0_1 a0_2 a0_3 a0_4 a1 a2
def fr37_3 (y1 : Int) (y2 : LA) (y3 : LA) (y4 : Int) (y5 : Int) (y6 : Int) (y7 : Int) (y8 : Int) (y9 : LA) : Fr := { slots := gap 1 ((I y1, .uni .ro) :: (.sl 3 y2, .uni .lent) :: (.undef, .loc 3 0) :: gap 3 ((.sl 3 y3, .uni .own) :: (I y4, .uni .ro) :: gap 28 [])), boxes := [(3, [(I y5, .ro), (I y6, .ro), (I y7, .ro), (I y8, .ro), (.sl 75 y9, .lent)])] }
theorem st37_3 (K : Nat) (k : Nat) (y1 : Int) (y2 : LA) (y3 : LA) (y4 : Int) (y5 : Int) (y6 : Int) (y7 : Int) (y8 : Int) (y9 : LA) : mlp 37 Tryz.f37 K 3 (fun i_ => fun _ => none) (k + 1) (fr37_3 y1 y2 y3 y4 y5 y6 y7 y8 y9) = tr37_3 K (fun y1 y2 y3 y4 y5 y6 y7 y8 y9 => mlp 37 Tryz.f37 K 3 (fun i_ => fun _ => none) k (fr37_3 y1 y2 y3 y4 y5 y6 y7 y8 y9)) y1 y2 y3 y4 y5 y6 y7 y8 y9 := by kernel_rfl
theorem lq37_3 (K : Nat) : ∀ (k : Nat) (y1 : Int) (y2 : LA) (y3 : LA) (y4 : Int) (y5 : Int) (y6 : Int) (y7 : Int) (y8 : Int) (y9 : LA), mlp 37 Tryz.f37 K 3 (fun i_ => fun _ => none) k (fr37_3 y1 y2 y3 y4 y5 y6 y7 y8 y9) = lp37_3 K k y1 y2 y3 y4 y5 y6 y7 y8 y9
  | 0, _, _, _, _, _, _, _, _, _ => rfl
  | k + 1, y1, y2, y3, y4, y5, y6, y7, y8, y9 => by
    rw [st37_3]
    have ih := lq37_3 K k
    try simp only [ih]
    try rfl
theorem eq37 (K : Nat) (a0_0 : Int) (a0_1 : Int) (a0_2 : Int) (a0_3 : Int) (a0_4 : LA) (a1 : Int) (a2 : LA) : run tab (K + 1) 37 [.agg [I a0_0, I a0_1, I a0_2, I a0_3, .sl 75 a0_4], I a1, .sl 3 a2] = sh37 K a0_0 a0_1 a0_2 a0_3 a0_4 a1 a2 := by
  have h : run tab (K + 1) 37 [.agg [I a0_0, I a0_1, I a0_2, I a0_3, .sl 75 a0_4], I a1, .sl 3 a2] = tr37 K (fun y1 y2 y3 y4 y5 y6 y7 y8 y9 => mlp 37 Tryz.f37 K 3 (fun i_ => fun _ => none) K (fr37_3 y1 y2 y3 y4 y5 y6 y7 y8 y9)) a0_0 a0_1 a0_2 a0_3 a0_4 a1 a2 := by kernel_rfl
  rw [h]
  simp only [lq37_3]
  rfl

def tr60 (K : Nat) (a0 : Int) (c0 : AV) : OA :=
  castRef c0 fun p131 => castI .i64 (p131.getD 0 .undef) fun n132 => match run tab K 34 [I a0, I 0, I (IntKind.i64.wrap (n132 - 1))] with | some r133 => (castB r133 fun b134 => some (B (!b134))) | none => none
def sh60 (K : Nat) (a0 : Int) (c0 : AV) : OA := tr60 K a0 c0
theorem eq60 (K : Nat) (a0 : Int) (c0 : AV) : run tab (K + 1) 60 [I a0, c0] = sh60 K a0 c0 := by kernel_rfl

def tr61 (K : Nat) (a0 : LA) (a1 : AV) : OA :=
  match run tab K 80 [.sl 3 a0, a1] with | some r135 => (castI .i64 r135 fun n136 => some (B (decide (n136 ≥ (0 : Int))))) | none => none
def sh61 (K : Nat) (a0 : LA) (a1 : AV) : OA := tr61 K a0 a1
theorem eq61 (K : Nat) (a0 : LA) (a1 : AV) : run tab (K + 1) 61 [.sl 3 a0, a1] = sh61 K a0 a1 := by kernel_rfl

def tr80_2 (K : Nat) (q2 : LA → AV → Int → Int → OA) (y1 : LA) (y2 : AV) (y3 : Int) (y4 : Int) : OA :=
  match decide (y4 < y3) with | true => (if 0 ≤ y4 then (match y1[y4.toNat]? with | some x137 => (castI .i64 x137 fun n138 => castFn y2 fun g139 c140 => match run tab K g139 ([I n138] ++ c140) with | some r141 => (castB r141 fun b142 => match b142 with | true => (some (I y4)) | false => (q2 y1 y2 y3 (IntKind.i64.wrap (y4 + 1)))) | none => none) | none => none) else none) | false => (some (I (-1)))
def tr80 (K : Nat) (q2 : LA → AV → Int → Int → OA) (a0 : LA) (a1 : AV) : OA :=
  q2 a0 a1 (a0.length : Int) (0 : Int)
def lp80_2 (K : Nat) : Nat → LA → AV → Int → Int → OA
  | 0, _, _, _, _ => none
  | k + 1, y1, y2, y3, y4 => tr80_2 K (lp80_2 K k) y1 y2 y3 y4
def sh80 (K : Nat) (a0 : LA) (a1 : AV) : OA := tr80 K (lp80_2 K K) a0 a1
def fr80_2 (y1 : LA) (y2 : AV) (y3 : Int) (y4 : Int) : Fr := { slots := (.sl 3 y1, .uni .lent) :: (y2, .uni .lent) :: gap 5 ((I y3, .uni .ro) :: (I y4, .uni .ro) :: gap 10 []), boxes := [] }
theorem st80_2 (K : Nat) (k : Nat) (y1 : LA) (y2 : AV) (y3 : Int) (y4 : Int) : mlp 80 Tryz.f80 K 2 (fun i_ => fun _ => none) (k + 1) (fr80_2 y1 y2 y3 y4) = tr80_2 K (fun y1 y2 y3 y4 => mlp 80 Tryz.f80 K 2 (fun i_ => fun _ => none) k (fr80_2 y1 y2 y3 y4)) y1 y2 y3 y4 := by kernel_rfl
theorem lq80_2 (K : Nat) : ∀ (k : Nat) (y1 : LA) (y2 : AV) (y3 : Int) (y4 : Int), mlp 80 Tryz.f80 K 2 (fun i_ => fun _ => none) k (fr80_2 y1 y2 y3 y4) = lp80_2 K k y1 y2 y3 y4
  | 0, _, _, _, _ => rfl
  | k + 1, y1, y2, y3, y4 => by
    rw [st80_2]
    have ih := lq80_2 K k
    try simp only [ih]
    try rfl
theorem eq80 (K : Nat) (a0 : LA) (a1 : AV) : run tab (K + 1) 80 [.sl 3 a0, a1] = sh80 K a0 a1 := by
  have h : run tab (K + 1) 80 [.sl 3 a0, a1] = tr80 K (fun y1 y2 y3 y4 => mlp 80 Tryz.f80 K 2 (fun i_ => fun _ => none) K (fr80_2 y1 y2 y3 y4)) a0 a1 := by kernel_rfl
  rw [h]
  simp only [lq80_2]
  rfl

def tr27_7 (K : Nat) (q4 : LA → LA → LA → Int → OA) (q7 : LA → LA → LA → Int → LA → Int → Int → OA) (y1 : LA) (y2 : LA) (y3 : LA) (y4 : Int) (y5 : LA) (y6 : Int) (y7 : Int) : OA :=
  match decide (y7 < y6) with | true => (if 0 ≤ y7 then (match y5[y7.toNat]? with | some x149 => (castP x149 fun q150 => castNil q150 fun b151 => match (!b151) with | true => (castRef q150 fun p152 => castRef (.ref p152) fun p153 => castI .i64 (p153.getD 3 .undef) fun n154 => match run tab K 55 [.sl 3 y2, I n154] with | some r155 => (castB r155 fun b156 => match (!b156) with | true => (castRef q150 fun p157 => castRef (.ref p157) fun p158 => castI .i64 (p158.getD 3 .undef) fun n159 => if 0 ≤ y4 then (match y3[y4.toNat]? with | some x160 => (castL 3 x160 fun l161 => if (y2.length + ([I n159] : LA).length) * 8 ≤ maxBytes then (match run tab K 56 [.sl 3 l161] with | some r162 => (castL 3 r162 fun l163 => if (l163.length + ([I y7] : LA).length) * 8 ≤ maxBytes then (if (y3.length + ([.sl 3 (l163 ++ ([I y7] : LA))] : LA).length) * 24 ≤ maxBytes then (q7 y1 (y2 ++ ([I n159] : LA)) (y3 ++ ([.sl 3 (l163 ++ ([I y7] : LA))] : LA)) y4 y5 y6 (IntKind.i64.wrap (y7 + 1))) else none) else none) | none => none) else none) | none => none) else none) | false => (q7 y1 y2 y3 y4 y5 y6 (IntKind.i64.wrap (y7 + 1)))) | none => none) | false => (q7 y1 y2 y3 y4 y5 y6 (IntKind.i64.wrap (y7 + 1)))) | none => none) else none) | false => (q4 y1 y2 y3 (IntKind.i64.wrap (y4 + 1)))
def tr27_4 (K : Nat) (q7 : LA → LA → LA → Int → LA → Int → Int → OA) (y1 : LA) (y2 : LA) (y3 : LA) (y4 : Int) : OA :=
  match decide (y4 < (y2.length : Int)) with | true => (if 0 ≤ y4 then (match y2[y4.toNat]? with | some x145 => (castI .i64 x145 fun n146 => if 0 ≤ n146 then (match y1[n146.toNat]? with | some x147 => (castL 82 x147 fun l148 => q7 y1 y2 y3 y4 l148 (l148.length : Int) (0 : Int)) | none => none) else none) | none => none) else none) | false => (some (.tup [.sl 3 y2, .sl 25 y3]))
def tr27 (K : Nat) (q4 : LA → LA → LA → Int → OA) (a0_0 : Int) (a0_1 : Int) (a0_2 : Int) (a0_3 : Int) (a0_4 : LA) : OA :=
  match run tab K 36 [.agg [I a0_0, I a0_1, I a0_2, I a0_3, .sl 75 a0_4]] with | some r143 => (castL 83 r143 fun l144 => q4 l144 ([I a0_3] : LA) ([.sl 3 []] : LA) (0 : Int)) | none => none
def lp27_7 (K : Nat) (q4 : LA → LA → LA → Int → OA) : Nat → LA → LA → LA → Int → LA → Int → Int → OA
  | 0, _, _, _, _, _, _, _ => none
  | k + 1, y1, y2, y3, y4, y5, y6, y7 => tr27_7 K q4 (lp27_7 K q4 k) y1 y2 y3 y4 y5 y6 y7
def lp27_4 (K : Nat) : Nat → LA → LA → LA → Int → OA
  | 0, _, _, _, _ => none
  | k + 1, y1, y2, y3, y4 => tr27_4 K (lp27_7 K (lp27_4 K k) K) y1 y2 y3 y4
def sh27 (K : Nat) (a0_0 : Int) (a0_1 : Int) (a0_2 : Int) (a0_3 : Int) (a0_4 : LA) : OA := tr27 K (lp27_4 K K) a0_0 a0_1 a0_2 a0_3 a0_4
def fr27_7 (y1 : LA) (y2 : LA) (y3 : LA) (y4 : Int) (y5 : LA) (y6 : Int) (y7 : Int) : Fr := { slots := gap 4 ((.sl 83 y1, .uni .ro) :: (.sl 3 y2, .uni .own) :: (.sl 25 y3, .uni .own) :: (I y4, .uni .ro) :: gap 20 ((.sl 82 y5, .uni .ro) :: (I y6, .uni .ro) :: (I y7, .uni .ro) :: gap 36 [])), boxes := [] }
def fr27_4 (y1 : LA) (y2 : LA) (y3 : LA) (y4 : Int) : Fr := { slots := gap 4 ((.sl 83 y1, .uni .ro) :: (.sl 3 y2, .uni .own) :: (.sl 25 y3, .uni .own) :: (I y4, .uni .ro) :: gap 59 []), boxes := [] }
theorem st27_7 (K : Nat) (RO4 : Fr → OA) (k : Nat) (y1 : LA) (y2 : LA) (y3 : LA) (y4 : Int) (y5 : LA) (y6 : Int) (y7 : Int) : mlp 27 Tryz.f27 K 7 (fun i_ => if i_ = 4 then RO4 else fun _ => none) (k + 1) (fr27_7 y1 y2 y3 y4 y5 y6 y7) = tr27_7 K (fun y1 y2 y3 y4 => RO4 (fr27_4 y1 y2 y3 y4)) (fun y1 y2 y3 y4 y5 y6 y7 => mlp 27 Tryz.f27 K 7 (fun i_ => if i_ = 4 then RO4 else fun _ => none) k (fr27_7 y1 y2 y3 y4 y5 y6 y7)) y1 y2 y3 y4 y5 y6 y7 := by kernel_rfl
theorem lq27_7 (K : Nat) (RO4 : Fr → OA) : ∀ (k : Nat) (y1 : LA) (y2 : LA) (y3 : LA) (y4 : Int) (y5 : LA) (y6 : Int) (y7 : Int), mlp 27 Tryz.f27 K 7 (fun i_ => if i_ = 4 then RO4 else fun _ => none) k (fr27_7 y1 y2 y3 y4 y5 y6 y7) = lp27_7 K (fun y1 y2 y3 y4 => RO4 (fr27_4 y1 y2 y3 y4)) k y1 y2 y3 y4 y5 y6 y7
  | 0, _, _, _, _, _, _, _ => rfl
  | k + 1, y1, y2, y3, y4, y5, y6, y7 => by
    rw [st27_7]
    have ih := lq27_7 K RO4 k
    try simp only [ih]
    try rfl
theorem st27_4 (K : Nat) (k : Nat) (y1 : LA) (y2 : LA) (y3 : LA) (y4 : Int) : mlp 27 Tryz.f27 K 4 (fun i_ => fun _ => none) (k + 1) (fr27_4 y1 y2 y3 y4) = tr27_4 K (fun y1 y2 y3 y4 y5 y6 y7 => mlp 27 Tryz.f27 K 7 (fun i_ => if i_ = 4 then (fun fr_ => mlp 27 Tryz.f27 K 4 (fun i_ => fun _ => none) k fr_) else fun _ => none) K (fr27_7 y1 y2 y3 y4 y5 y6 y7)) y1 y2 y3 y4 := by kernel_rfl
theorem lq27_4 (K : Nat) : ∀ (k : Nat) (y1 : LA) (y2 : LA) (y3 : LA) (y4 : Int), mlp 27 Tryz.f27 K 4 (fun i_ => fun _ => none) k (fr27_4 y1 y2 y3 y4) = lp27_4 K k y1 y2 y3 y4
  | 0, _, _, _, _ => rfl
  | k + 1, y1, y2, y3, y4 => by
    rw [st27_4]
    have ih := lq27_4 K k
    have ih7 := lq27_7 K (fun fr_ => mlp 27 Tryz.f27 K 4 (fun i_ => fun _ => none) k fr_) K
    try simp only [ih, ih7]
    try rfl
theorem eq27 (K : Nat) (a0_0 : Int) (a0_1 : Int) (a0_2 : Int) (a0_3 : Int) (a0_4 : LA) : run tab (K + 1) 27 [.agg [I a0_0, I a0_1, I a0_2, I a0_3, .sl 75 a0_4]] = sh27 K a0_0 a0_1 a0_2 a0_3 a0_4 := by
  have h : run tab (K + 1) 27 [.agg [I a0_0, I a0_1, I a0_2, I a0_3, .sl 75 a0_4]] = tr27 K (fun y1 y2 y3 y4 => mlp 27 Tryz.f27 K 4 (fun i_ => fun _ => none) K (fr27_4 y1 y2 y3 y4)) a0_0 a0_1 a0_2 a0_3 a0_4 := by kernel_rfl
  rw [h]
  simp only [lq27_4]
  rfl

def tr55 (K : Nat) (a0 : LA) (a1 : Int) : OA :=
  match run tab K 30 [.sl 3 a0, I a1] with | some r164 => (castI .i64 r164 fun n165 => some (B (decide (n165 ≥ (0 : Int))))) | none => none
def sh55 (K : Nat) (a0 : LA) (a1 : Int) : OA := tr55 K a0 a1
theorem eq55 (K : Nat) (a0 : LA) (a1 : Int) : run tab (K + 1) 55 [.sl 3 a0, I a1] = sh55 K a0 a1 := by kernel_rfl

def tr9_8 (K : Nat) (q5 : LA → LA → LA → Int → Int → Int → Int → Int → LA → OA) (q8 : LA → LA → LA → Int → Int → Int → Int → Int → Int → LA → OA) (y1 : LA) (y2 : LA) (y3 : LA) (y4 : Int) (y5 : Int) (y6 : Int) (y7 : Int) (y8 : Int) (y9 : Int) (y10 : LA) : OA :=
  match decide (y5 < y7) with | true => (if 0 ≤ y4 then (match y3[y4.toNat]? with | some x167 => (castI .i64 x167 fun n168 => match run tab K 31 [.agg [I y6, I y7, I y8, I y9, .sl 75 y10], I n168, I y5] with | some r169 => (castI .i64 r169 fun n170 => match (n170 != (-1 : Int)) with | true => (if 0 ≤ n170 then (match y10[n170.toNat]? with | some x171 => (castI .i64 (cellN x171 3) fun n172 => if 0 ≤ n172 then (match y2[n172.toNat]? with | some x173 => (castB x173 fun b174 => match (!b174) with | true => (if 0 ≤ n170 then (match y10[n170.toNat]? with | some x175 => (castI .i64 (cellN x175 3) fun n176 => if 0 ≤ n176 then (match y2[n176.toNat]? with | some x177 => (if n176.toNat < y2.length then (if 0 ≤ n170 then (match y10[n170.toNat]? with | some x178 => (castI .i64 (cellN x178 3) fun n179 => if 0 ≤ y4 then (match y3[y4.toNat]? with | some x180 => (castI .i64 x180 fun n181 => if 0 ≤ n181 then (match y1[n181.toNat]? with | some x182 => (castL 3 x182 fun l183 => match run tab K 13 [.sl 3 l183] with | some r184 => (castL 3 r184 fun l185 => if (l185.length + ([I y5] : LA).length) * 8 ≤ maxBytes then (if 0 ≤ n179 then (match y1[n179.toNat]? with | some x186 => (if n179.toNat < y1.length then (if 0 ≤ n170 then (match y10[n170.toNat]? with | some x187 => (castI .i64 (cellN x187 3) fun n188 => if (y3.length + ([I n188] : LA).length) * 8 ≤ maxBytes then (q8 (y1.set n179.toNat (.sl 3 (l185 ++ ([I y5] : LA)) : AV)) (y2.set n176.toNat (B true : AV)) (y3 ++ ([I n188] : LA)) y4 (IntKind.i64.wrap (y5 + 1)) y6 y7 y8 y9 y10) else none) | none => none) else none) else none) | none => none) else none) else none) | none => none) | none => none) else none) | none => none) else none) | none => none) else none) else none) | none => none) else none) | none => none) else none) | false => (q8 y1 y2 y3 y4 (IntKind.i64.wrap (y5 + 1)) y6 y7 y8 y9 y10)) | none => none) else none) | none => none) else none) | false => (q8 y1 y2 y3 y4 (IntKind.i64.wrap (y5 + 1)) y6 y7 y8 y9 y10)) | none => none) | none => none) else none) | false => (q5 y1 y2 y3 (IntKind.i64.wrap (y4 + 1)) y6 y7 y8 y9 y10)
def tr9_5 (K : Nat) (q8 : LA → LA → LA → Int → Int → Int → Int → Int → Int → LA → OA) (y1 : LA) (y2 : LA) (y3 : LA) (y4 : Int) (y5 : Int) (y6 : Int) (y7 : Int) (y8 : Int) (y9 : LA) : OA :=
  match decide (y4 < (y3.length : Int)) with | true => (q8 y1 y2 y3 y4 (0 : Int) y5 y6 y7 y8 y9) | false => (some (.tup [.sl 25 y1, .sl 4 y2]))
def tr9 (K : Nat) (q5 : LA → LA → LA → Int → Int → Int → Int → Int → LA → OA) (a0_0 : Int) (a0_1 : Int) (a0_2 : Int) (a0_3 : Int) (a0_4 : LA) : OA :=
  if (decide (a0_0 = a0_0 ∧ 0 ≤ a0_0 ∧ a0_0.toNat * 24 ≤ maxBytes)) = true then (if (decide (a0_0 = a0_0 ∧ 0 ≤ a0_0 ∧ a0_0.toNat * 1 ≤ maxBytes)) = true then (if a0_0 = a0_0 ∧ 0 ≤ a0_0 ∧ a0_0.toNat * 24 ≤ maxBytes then (if a0_0 = a0_0 ∧ 0 ≤ a0_0 ∧ a0_0.toNat * 1 ≤ maxBytes then (if 0 ≤ a0_3 then (match (List.replicate a0_0.toNat (B false : AV))[a0_3.toNat]? with | some x166 => (if a0_3.toNat < (List.replicate a0_0.toNat (B false : AV)).length then (q5 (List.replicate a0_0.toNat (.sl 3 [] : AV)) ((List.replicate a0_0.toNat (B false : AV)).set a0_3.toNat (B true : AV)) ([I a0_3] : LA) (0 : Int) a0_0 a0_1 a0_2 a0_3 a0_4) else none) | none => none) else none) else none) else none) else none) else none
def lp9_8 (K : Nat) (q5 : LA → LA → LA → Int → Int → Int → Int → Int → LA → OA) : Nat → LA → LA → LA → Int → Int → Int → Int → Int → Int → LA → OA
  | 0, _, _, _, _, _, _, _, _, _, _ => none
  | k + 1, y1, y2, y3, y4, y5, y6, y7, y8, y9, y10 => tr9_8 K q5 (lp9_8 K q5 k) y1 y2 y3 y4 y5 y6 y7 y8 y9 y10
def lp9_5 (K : Nat) : Nat → LA → LA → LA → Int → Int → Int → Int → Int → LA → OA
  | 0, _, _, _, _, _, _, _, _, _ => none
  | k + 1, y1, y2, y3, y4, y5, y6, y7, y8, y9 => tr9_5 K (lp9_8 K (lp9_5 K k) K) y1 y2 y3 y4 y5 y6 y7 y8 y9
def sh9 (K : Nat) (a0_0 : Int) (a0_1 : Int) (a0_2 : Int) (a0_3 : Int) (a0_4 : LA) : OA := tr9 K (lp9_5 K K) a0_0 a0_1 a0_2 a0_3 a0_4
def fr9_8 (y1 : LA) (y2 : LA) (y3 : LA) (y4 : Int) (y5 : Int) (y6 : Int) (y7 : Int) (y8 : Int) (y9 : Int) (y10 : LA) : Fr := { slots := gap 1 ((.undef, .loc 1 0) :: gap 2 ((.sl 25 y1, .uni .own) :: (.sl 4 y2, .uni .own) :: (.sl 3 y3, .uni .own) :: (I y4, .uni .ro) :: (I y5, .uni .ro) :: gap 85 [])), boxes := [(1, [(I y6, .ro), (I y7, .ro), (I y8, .ro), (I y9, .ro), (.sl 75 y10, .lent)])] }
def fr9_5 (y1 : LA) (y2 : LA) (y3 : LA) (y4 : Int) (y5 : Int) (y6 : Int) (y7 : Int) (y8 : Int) (y9 : LA) : Fr := { slots := gap 1 ((.undef, .loc 1 0) :: gap 2 ((.sl 25 y1, .uni .own) :: (.sl 4 y2, .uni .own) :: (.sl 3 y3, .uni .own) :: (I y4, .uni .ro) :: gap 86 [])), boxes := [(1, [(I y5, .ro), (I y6, .ro), (I y7, .ro), (I y8, .ro), (.sl 75 y9, .lent)])] }
theorem st9_8 (K : Nat) (RO5 : Fr → OA) (k : Nat) (y1 : LA) (y2 : LA) (y3 : LA) (y4 : Int) (y5 : Int) (y6 : Int) (y7 : Int) (y8 : Int) (y9 : Int) (y10 : LA) : mlp 9 Tryz.f9 K 8 (fun i_ => if i_ = 5 then RO5 else fun _ => none) (k + 1) (fr9_8 y1 y2 y3 y4 y5 y6 y7 y8 y9 y10) = tr9_8 K (fun y1 y2 y3 y4 y5 y6 y7 y8 y9 => RO5 (fr9_5 y1 y2 y3 y4 y5 y6 y7 y8 y9)) (fun y1 y2 y3 y4 y5 y6 y7 y8 y9 y10 => mlp 9 Tryz.f9 K 8 (fun i_ => if i_ = 5 then RO5 else fun _ => none) k (fr9_8 y1 y2 y3 y4 y5 y6 y7 y8 y9 y10)) y1 y2 y3 y4 y5 y6 y7 y8 y9 y10 := by kernel_rfl
theorem lq9_8 (K : Nat) (RO5 : Fr → OA) : ∀ (k : Nat) (y1 : LA) (y2 : LA) (y3 : LA) (y4 : Int) (y5 : Int) (y6 : Int) (y7 : Int) (y8 : Int) (y9 : Int) (y10 : LA), mlp 9 Tryz.f9 K 8 (fun i_ => if i_ = 5 then RO5 else fun _ => none) k (fr9_8 y1 y2 y3 y4 y5 y6 y7 y8 y9 y10) = lp9_8 K (fun y1 y2 y3 y4 y5 y6 y7 y8 y9 => RO5 (fr9_5 y1 y2 y3 y4 y5 y6 y7 y8 y9)) k y1 y2 y3 y4 y5 y6 y7 y8 y9 y10
  | 0, _, _, _, _, _, _, _, _, _, _ => rfl
  | k + 1, y1, y2, y3, y4, y5, y6, y7, y8, y9, y10 => by
    rw [st9_8]
    have ih := lq9_8 K RO5 k
    try simp only [ih]
    try rfl
theorem st9_5 (K : Nat) (k : Nat) (y1 : LA) (y2 : LA) (y3 : LA) (y4 : Int) (y5 : Int) (y6 : Int) (y7 : Int) (y8 : Int) (y9 : LA) : mlp 9 Tryz.f9 K 5 (fun i_ => fun _ => none) (k + 1) (fr9_5 y1 y2 y3 y4 y5 y6 y7 y8 y9) = tr9_5 K (fun y1 y2 y3 y4 y5 y6 y7 y8 y9 y10 => mlp 9 Tryz.f9 K 8 (fun i_ => if i_ = 5 then (fun fr_ => mlp 9 Tryz.f9 K 5 (fun i_ => fun _ => none) k fr_) else fun _ => none) K (fr9_8 y1 y2 y3 y4 y5 y6 y7 y8 y9 y10)) y1 y2 y3 y4 y5 y6 y7 y8 y9 := by kernel_rfl
theorem lq9_5 (K : Nat) : ∀ (k : Nat) (y1 : LA) (y2 : LA) (y3 : LA) (y4 : Int) (y5 : Int) (y6 : Int) (y7 : Int) (y8 : Int) (y9 : LA), mlp 9 Tryz.f9 K 5 (fun i_ => fun _ => none) k (fr9_5 y1 y2 y3 y4 y5 y6 y7 y8 y9) = lp9_5 K k y1 y2 y3 y4 y5 y6 y7 y8 y9
  | 0, _, _, _, _, _, _, _, _, _ => rfl
  | k + 1, y1, y2, y3, y4, y5, y6, y7, y8, y9 => by
    rw [st9_5]
    have ih := lq9_5 K k
    have ih8 := lq9_8 K (fun fr_ => mlp 9 Tryz.f9 K 5 (fun i_ => fun _ => none) k fr_) K
    try simp only [ih, ih8]
    try rfl
theorem eq9 (K : Nat) (a0_0 : Int) (a0_1 : Int) (a0_2 : Int) (a0_3 : Int) (a0_4 : LA) : run tab (K + 1) 9 [.agg [I a0_0, I a0_1, I a0_2, I a0_3, .sl 75 a0_4]] = sh9 K a0_0 a0_1 a0_2 a0_3 a0_4 := by
  have h : run tab (K + 1) 9 [.agg [I a0_0, I a0_1, I a0_2, I a0_3, .sl 75 a0_4]] = tr9 K (fun y1 y2 y3 y4 y5 y6 y7 y8 y9 => mlp 9 Tryz.f9 K 5 (fun i_ => fun _ => none) K (fr9_5 y1 y2 y3 y4 y5 y6 y7 y8 y9)) a0_0 a0_1 a0_2 a0_3 a0_4 := by kernel_rfl
  rw [h]
  simp only [lq9_5]
  rfl

def tr12_7 (K : Nat) (q7 : Int → LA → LA → LA → LA → Int → Int → OA) (y1 : Int) (y2 : LA) (y3 : LA) (y4 : LA) (y5 : LA) (y6 : Int) (y7 : Int) : OA :=
  match decide (y7 < y6) with | true => (if 0 ≤ y7 then (match y5[y7.toNat]? with | some x201 => (castI .i64 x201 fun n202 => if 0 ≤ y1 then (match y2[y1.toNat]? with | some x203 => (castL 82 x203 fun l204 => if 0 ≤ n202 then (match l204[n202.toNat]? with | some x205 => (castP x205 fun q206 => castNil q206 fun b207 => match b207 with | true => (some (.tup [.sl 3 y3, .sl 3 y4, I 0])) | false => (castRef q206 fun p208 => castRef (.ref p208) fun p209 => castI .i64 (p209.getD 3 .undef) fun n210 => castRef q206 fun p211 => castRef (.ref p211) fun p212 => castI .i64 (p212.getD 2 .undef) fun n213 => if (y3.length + ([I n213] : LA).length) * 8 ≤ maxBytes then (if (y4.length + ([I n210] : LA).length) * 8 ≤ maxBytes then (q7 n210 y2 (y3 ++ ([I n213] : LA)) (y4 ++ ([I n210] : LA)) y5 y6 (IntKind.i64.wrap (y7 + 1))) else none) else none)) | none => none) else none) | none => none) else none) | none => none) else none) | false => (some (.tup [.sl 3 y3, .sl 3 y4, I 0]))
def tr12 (K : Nat) (q7 : Int → LA → LA → LA → LA → Int → Int → OA) (a0_0 : Int) (a0_1 : Int) (a0_2 : Int) (a0_3 : Int) (a0_4 : LA) (a1 : Int) (a2 : LA) : OA :=
  match run tab K 26 [.agg [I a0_0, I a0_1, I a0_2, I a0_3, .sl 75 a0_4]] with | some r189 => (castI .i64 r189 fun n190 => match run tab K 34 [I a1, I 0, I (IntKind.i64.wrap (a0_0 - 1))] with | some r191 => (castB r191 fun b192 => match run tab K 33 [B b192, I 3] with | some r193 => (castI .i64 r193 fun n194 => match run tab K 35 [.sl 3 a2, I a0_1] with | some r195 => (castI .i64 r195 fun n196 => match run tab K 32 [.sl 29 [I n190, I n194, I n196]] with | some r197 => (castI .i64 r197 fun n198 => match (n198 != (0 : Int)) with | true => (some (.tup [.sl 3 [], .sl 3 [], I n198])) | false => (match run tab K 36 [.agg [I a0_0, I a0_1, I a0_2, I a0_3, .sl 75 a0_4]] with | some r199 => (castL 83 r199 fun l200 => q7 a1 l200 ([] : LA) ([] : LA) a2 (a2.length : Int) (0 : Int)) | none => none)) | none => none) | none => none) | none => none) | none => none) | none => none
def lp12_7 (K : Nat) : Nat → Int → LA → LA → LA → LA → Int → Int → OA
  | 0, _, _, _, _, _, _, _ => none
  | k + 1, y1, y2, y3, y4, y5, y6, y7 => tr12_7 K (lp12_7 K k) y1 y2 y3 y4 y5 y6 y7
def sh12 (K : Nat) (a0_0 : Int) (a0_1 : Int) (a0_2 : Int) (a0_3 : Int) (a0_4 : LA) (a1 : Int) (a2 : LA) : OA := tr12 K (lp12_7 K K) a0_0 a0_1 a0_2 a0_3 a0_4 a1 a2
def fr12_7 (y1 : Int) (y2 : LA) (y3 : LA) (y4 : LA) (y5 : LA) (y6 : Int) (y7 : Int) : Fr := { slots := gap 1 ((I y1, .uni .ro) :: gap 8 ((.sl 83 y2, .uni .ro) :: (.sl 3 y3, .uni .own) :: (.sl 3 y4, .uni .own) :: gap 22 ((.sl 3 y5, .uni .lent) :: (I y6, .uni .ro) :: (I y7, .uni .ro) :: gap 30 []))), boxes := [] }
theorem st12_7 (K : Nat) (k : Nat) (y1 : Int) (y2 : LA) (y3 : LA) (y4 : LA) (y5 : LA) (y6 : Int) (y7 : Int) : mlp 12 Tryz.f12 K 7 (fun i_ => fun _ => none) (k + 1) (fr12_7 y1 y2 y3 y4 y5 y6 y7) = tr12_7 K (fun y1 y2 y3 y4 y5 y6 y7 => mlp 12 Tryz.f12 K 7 (fun i_ => fun _ => none) k (fr12_7 y1 y2 y3 y4 y5 y6 y7)) y1 y2 y3 y4 y5 y6 y7 := by kernel_rfl
theorem lq12_7 (K : Nat) : ∀ (k : Nat) (y1 : Int) (y2 : LA) (y3 : LA) (y4 : LA) (y5 : LA) (y6 : Int) (y7 : Int), mlp 12 Tryz.f12 K 7 (fun i_ => fun _ => none) k (fr12_7 y1 y2 y3 y4 y5 y6 y7) = lp12_7 K k y1 y2 y3 y4 y5 y6 y7
  | 0, _, _, _, _, _, _, _ => rfl
  | k + 1, y1, y2, y3, y4, y5, y6, y7 => by
    rw [st12_7]
    have ih := lq12_7 K k
    try simp only [ih]
    try rfl
theorem eq12 (K : Nat) (a0_0 : Int) (a0_1 : Int) (a0_2 : Int) (a0_3 : Int) (a0_4 : LA) (a1 : Int) (a2 : LA) : run tab (K + 1) 12 [.agg [I a0_0, I a0_1, I a0_2, I a0_3, .sl 75 a0_4], I a1, .sl 3 a2] = sh12 K a0_0 a0_1 a0_2 a0_3 a0_4 a1 a2 := by
  have h : run tab (K + 1) 12 [.agg [I a0_0, I a0_1, I a0_2, I a0_3, .sl 75 a0_4], I a1, .sl 3 a2] = tr12 K (fun y1 y2 y3 y4 y5 y6 y7 => mlp 12 Tryz.f12 K 7 (fun i_ => fun _ => none) K (fr12_7 y1 y2 y3 y4 y5 y6 y7)) a0_0 a0_1 a0_2 a0_3 a0_4 a1 a2 := by kernel_rfl
  rw [h]
  simp only [lq12_7]
  rfl

def tr7_8 (K : Nat) (q8 : LA → LA → LA → LA → LA → Int → Int → OA) (y1 : LA) (y2 : LA) (y3 : LA) (y4 : LA) (y5 : LA) (y6 : Int) (y7 : Int) : OA :=
  match decide (y7 < y6) with | true => (if 0 ≤ y7 then (match y5[y7.toNat]? with | some x223 => (castI .i64 x223 fun n224 => match run tab K 30 [.sl 3 y1, I n224] with | some r225 => (castI .i64 r225 fun n226 => if 0 ≤ n226 then (match y2[n226.toNat]? with | some x227 => (castL 3 x227 fun l228 => if (y3.length + ([.sl 3 l228] : LA).length) * 24 ≤ maxBytes then (q8 y1 y2 (y3 ++ ([.sl 3 l228] : LA)) y4 y5 y6 (IntKind.i64.wrap (y7 + 1))) else none) | none => none) else none) | none => none) | none => none) else none) | false => (some (.tup [.sl 3 y4, .sl 25 y3, I 0]))
def tr7 (K : Nat) (q8 : LA → LA → LA → LA → LA → Int → Int → OA) (a0_0 : Int) (a0_1 : Int) (a0_2 : Int) (a0_3 : Int) (a0_4 : LA) : OA :=
  match run tab K 26 [.agg [I a0_0, I a0_1, I a0_2, I a0_3, .sl 75 a0_4]] with | some r214 => (castI .i64 r214 fun n215 => match (n215 != (0 : Int)) with | true => (some (.tup [.sl 3 [], .sl 25 [], I n215])) | false => (match run tab K 27 [.agg [I a0_0, I a0_1, I a0_2, I a0_3, .sl 75 a0_4]] with | some r216 => (castL 3 (compN r216 0) fun l217 => castL 25 (compN r216 1) fun l218 => match run tab K 29 [.sl 3 l217] with | some r219 => (castP r219 fun q220 => match run tab K 28 [q220] with | some r221 => (castL 3 r221 fun l222 => q8 l217 l218 ([] : LA) l222 l222 (l222.length : Int) (0 : Int)) | none => none) | none => none) | none => none)) | none => none
def lp7_8 (K : Nat) : Nat → LA → LA → LA → LA → LA → Int → Int → OA
  | 0, _, _, _, _, _, _, _ => none
  | k + 1, y1, y2, y3, y4, y5, y6, y7 => tr7_8 K (lp7_8 K k) y1 y2 y3 y4 y5 y6 y7
def sh7 (K : Nat) (a0_0 : Int) (a0_1 : Int) (a0_2 : Int) (a0_3 : Int) (a0_4 : LA) : OA := tr7 K (lp7_8 K K) a0_0 a0_1 a0_2 a0_3 a0_4
def fr7_8 (y1 : LA) (y2 : LA) (y3 : LA) (y4 : LA) (y5 : LA) (y6 : Int) (y7 : Int) : Fr := { slots := gap 6 ((.sl 3 y1, .uni .ro) :: (.sl 25 y2, .uni .own) :: (.sl 25 y3, .uni .own) :: (.sl 3 y4, .uni .own) :: gap 15 ((.sl 3 y5, .uni (.brw ⟨false, 9, 0, 0⟩ true)) :: (I y6, .uni .ro) :: (I y7, .uni .ro) :: gap 15 [])), boxes := [] }
theorem st7_8 (K : Nat) (k : Nat) (y1 : LA) (y2 : LA) (y3 : LA) (y4 : LA) (y5 : LA) (y6 : Int) (y7 : Int) : mlp 7 Tryz.f7 K 8 (fun i_ => fun _ => none) (k + 1) (fr7_8 y1 y2 y3 y4 y5 y6 y7) = tr7_8 K (fun y1 y2 y3 y4 y5 y6 y7 => mlp 7 Tryz.f7 K 8 (fun i_ => fun _ => none) k (fr7_8 y1 y2 y3 y4 y5 y6 y7)) y1 y2 y3 y4 y5 y6 y7 := by kernel_rfl
theorem lq7_8 (K : Nat) : ∀ (k : Nat) (y1 : LA) (y2 : LA) (y3 : LA) (y4 : LA) (y5 : LA) (y6 : Int) (y7 : Int), mlp 7 Tryz.f7 K 8 (fun i_ => fun _ => none) k (fr7_8 y1 y2 y3 y4 y5 y6 y7) = lp7_8 K k y1 y2 y3 y4 y5 y6 y7
  | 0, _, _, _, _, _, _, _ => rfl
  | k + 1, y1, y2, y3, y4, y5, y6, y7 => by
    rw [st7_8]
    have ih := lq7_8 K k
    try simp only [ih]
    try rfl
theorem eq7 (K : Nat) (a0_0 : Int) (a0_1 : Int) (a0_2 : Int) (a0_3 : Int) (a0_4 : LA) : run tab (K + 1) 7 [.agg [I a0_0, I a0_1, I a0_2, I a0_3, .sl 75 a0_4]] = sh7 K a0_0 a0_1 a0_2 a0_3 a0_4 := by
  have h : run tab (K + 1) 7 [.agg [I a0_0, I a0_1, I a0_2, I a0_3, .sl 75 a0_4]] = tr7 K (fun y1 y2 y3 y4 y5 y6 y7 => mlp 7 Tryz.f7 K 8 (fun i_ => fun _ => none) K (fr7_8 y1 y2 y3 y4 y5 y6 y7)) a0_0 a0_1 a0_2 a0_3 a0_4 := by kernel_rfl
  rw [h]
  simp only [lq7_8]
  rfl

def tr3_12 (K : Nat) (q12 : Int → LA → Int → LA → LA → LA → LA → LA → LA → Int → Int → Int → Int → Int → LA → OA) (y1 : Int) (y2 : LA) (y3 : Int) (y4 : LA) (y5 : LA) (y6 : LA) (y7 : LA) (y8 : LA) (y9 : LA) (y10 : Int) (y11 : Int) (y12 : Int) (y13 : Int) (y14 : Int) (y15 : LA) : OA :=
  match decide (y10 < y11) with | true => (if 0 ≤ y10 then (match y7[y10.toNat]? with | some x246 => (castB x246 fun b247 => match b247 with | true => (if 0 ≤ y10 then (match y6[y10.toNat]? with | some x248 => (castL 3 x248 fun l249 => if (y8.length + ([I y10] : LA).length) * 8 ≤ maxBytes then (if (y9.length + ([.sl 3 l249] : LA).length) * 24 ≤ maxBytes then (q12 y1 y2 y3 y4 y5 y6 y7 (y8 ++ ([I y10] : LA)) (y9 ++ ([.sl 3 l249] : LA)) (IntKind.i64.wrap (y10 + 1)) y11 y12 y13 y14 y15) else none) else none) | none => none) else none) | false => (q12 y1 y2 y3 y4 y5 y6 y7 y8 y9 (IntKind.i64.wrap (y10 + 1)) y11 y12 y13 y14 y15)) | none => none) else none) | false => (match run tab K 10 [.sl 3 y4, .sl 3 y8] with | some r250 => (castB r250 fun b251 => match (!b251) with | true => (some (B false)) | false => (match run tab K 11 [.sl 25 y5, .sl 25 y9] with | some r252 => (castB r252 fun b253 => match (!b253) with | true => (some (B false)) | false => (match run tab K 8 [.agg [I y11, I y12, I y13, I y14, .sl 75 y15]] with | some r254 => (castI .i64 (cellN r254 0) fun n255 => castI .i64 (cellN r254 1) fun n256 => castI .i64 (cellN r254 2) fun n257 => castI .i64 (cellN r254 3) fun n258 => castL 75 (cellN r254 4) fun l259 => match run tab K 13 [.sl 3 y2] with | some r260 => (castL 3 r260 fun l261 => match run tab K 12 [.agg [I n255, I n256, I n257, I n258, .sl 75 l259], I y1, .sl 3 l261] with | some r262 => (castL 3 (compN r262 0) fun l263 => castL 3 (compN r262 1) fun l264 => castI .i64 (compN r262 2) fun n265 => match (y3 == (0 : Int)) with | true => (match run tab K 14 [I y1, I 0, I (IntKind.i64.wrap (y11 - 1))] with | some r266 => (castB r266 fun b267 => match (!b267) with | true => (match (n265 == (3 : Int)) with | true => (some (B ((IntKind.i64.wrap ((l263.length : Int) + (l264.length : Int))) == (0 : Int)))) | false => (some (B false))) | false => (match (y3 == (0 : Int)) with | true => (match run tab K 15 [.sl 3 y2, I y12, I 60] with | some r268 => (castI .i64 r268 fun n269 => match (n269 != (0 : Int)) with | true => (match (n265 == n269) with | true => (some (B ((IntKind.i64.wrap ((l263.length : Int) + (l264.length : Int))) == (0 : Int)))) | false => (some (B false))) | false => (match run tab K 16 [.agg [I y11, I y12, I y13, I y14, .sl 75 y15], I y1, .sl 3 y2] with | some r270 => (castL 3 (compN r270 0) fun l271 => castL 3 (compN r270 1) fun l272 => match (n265 == (0 : Int)) with | true => (match run tab K 10 [.sl 3 l263, .sl 3 l271] with | some r273 => (castB r273 fun b274 => match b274 with | true => (match run tab K 10 [.sl 3 l264, .sl 3 l272] with | some r275 => (castB r275 fun b276 => some (B b276)) | none => none) | false => (some (B false))) | none => none) | false => (some (B false))) | none => none)) | none => none) | false => (match (y3 != (0 : Int)) with | true => (match (n265 == y3) with | true => (some (B ((IntKind.i64.wrap ((l263.length : Int) + (l264.length : Int))) == (0 : Int)))) | false => (some (B false))) | false => (match run tab K 16 [.agg [I y11, I y12, I y13, I y14, .sl 75 y15], I y1, .sl 3 y2] with | some r277 => (castL 3 (compN r277 0) fun l278 => castL 3 (compN r277 1) fun l279 => match (n265 == (0 : Int)) with | true => (match run tab K 10 [.sl 3 l263, .sl 3 l278] with | some r280 => (castB r280 fun b281 => match b281 with | true => (match run tab K 10 [.sl 3 l264, .sl 3 l279] with | some r282 => (castB r282 fun b283 => some (B b283)) | none => none) | false => (some (B false))) | none => none) | false => (some (B false))) | none => none)))) | none => none) | false => (match (y3 == (0 : Int)) with | true => (match run tab K 15 [.sl 3 y2, I y12, I 60] with | some r284 => (castI .i64 r284 fun n285 => match (n285 != (0 : Int)) with | true => (match (n265 == n285) with | true => (some (B ((IntKind.i64.wrap ((l263.length : Int) + (l264.length : Int))) == (0 : Int)))) | false => (some (B false))) | false => (match run tab K 16 [.agg [I y11, I y12, I y13, I y14, .sl 75 y15], I y1, .sl 3 y2] with | some r286 => (castL 3 (compN r286 0) fun l287 => castL 3 (compN r286 1) fun l288 => match (n265 == (0 : Int)) with | true => (match run tab K 10 [.sl 3 l263, .sl 3 l287] with | some r289 => (castB r289 fun b290 => match b290 with | true => (match run tab K 10 [.sl 3 l264, .sl 3 l288] with | some r291 => (castB r291 fun b292 => some (B b292)) | none => none) | false => (some (B false))) | none => none) | false => (some (B false))) | none => none)) | none => none) | false => (match (y3 != (0 : Int)) with | true => (match (n265 == y3) with | true => (some (B ((IntKind.i64.wrap ((l263.length : Int) + (l264.length : Int))) == (0 : Int)))) | false => (some (B false))) | false => (match run tab K 16 [.agg [I y11, I y12, I y13, I y14, .sl 75 y15], I y1, .sl 3 y2] with | some r293 => (castL 3 (compN r293 0) fun l294 => castL 3 (compN r293 1) fun l295 => match (n265 == (0 : Int)) with | true => (match run tab K 10 [.sl 3 l263, .sl 3 l294] with | some r296 => (castB r296 fun b297 => match b297 with | true => (match run tab K 10 [.sl 3 l264, .sl 3 l295] with | some r298 => (castB r298 fun b299 => some (B b299)) | none => none) | false => (some (B false))) | none => none) | false => (some (B false))) | none => none)))) | none => none) | none => none) | none => none)) | none => none)) | none => none)
def tr3 (K : Nat) (q12 : Int → LA → Int → LA → LA → LA → LA → LA → LA → Int → Int → Int → Int → Int → LA → OA) (a0_0 : Int) (a0_1 : Int) (a0_2 : Int) (a0_3 : Int) (a0_4 : LA) (a1 : Int) (a2 : LA) : OA :=
  match run tab K 5 [] with | some r229 => (castB r229 fun b230 => match (!b230) with | true => (some (B false)) | false => (match run tab K 6 [.agg [I a0_0, I a0_1, I a0_2, I a0_3, .sl 75 a0_4]] with | some r231 => (castI .i64 r231 fun n232 => match run tab K 8 [.agg [I a0_0, I a0_1, I a0_2, I a0_3, .sl 75 a0_4]] with | some r233 => (castI .i64 (cellN r233 0) fun n234 => castI .i64 (cellN r233 1) fun n235 => castI .i64 (cellN r233 2) fun n236 => castI .i64 (cellN r233 3) fun n237 => castL 75 (cellN r233 4) fun l238 => match run tab K 7 [.agg [I n234, I n235, I n236, I n237, .sl 75 l238]] with | some r239 => (castL 3 (compN r239 0) fun l240 => castL 25 (compN r239 1) fun l241 => castI .i64 (compN r239 2) fun n242 => match (n242 != n232) with | true => (some (B false)) | false => (match (n232 != (0 : Int)) with | true => (match decide ((IntKind.i64.wrap ((l240.length : Int) + (l241.length : Int))) > (0 : Int)) with | true => (some (B false)) | false => (match (n232 == (0 : Int)) with | true => (match run tab K 9 [.agg [I a0_0, I a0_1, I a0_2, I a0_3, .sl 75 a0_4]] with | some r243 => (castL 25 (compN r243 0) fun l244 => castL 4 (compN r243 1) fun l245 => q12 a1 a2 n232 l240 l241 l244 l245 ([] : LA) ([] : LA) (0 : Int) a0_0 a0_1 a0_2 a0_3 a0_4) | none => none) | false => (match run tab K 8 [.agg [I a0_0, I a0_1, I a0_2, I a0_3, .sl 75 a0_4]] with | some r300 => (castI .i64 (cellN r300 0) fun n301 => castI .i64 (cellN r300 1) fun n302 => castI .i64 (cellN r300 2) fun n303 => castI .i64 (cellN r300 3) fun n304 => castL 75 (cellN r300 4) fun l305 => match run tab K 13 [.sl 3 a2] with | some r306 => (castL 3 r306 fun l307 => match run tab K 12 [.agg [I n301, I n302, I n303, I n304, .sl 75 l305], I a1, .sl 3 l307] with | some r308 => (castL 3 (compN r308 0) fun l309 => castL 3 (compN r308 1) fun l310 => castI .i64 (compN r308 2) fun n311 => match (n232 == (0 : Int)) with | true => (match run tab K 14 [I a1, I 0, I (IntKind.i64.wrap (a0_0 - 1))] with | some r312 => (castB r312 fun b313 => match (!b313) with | true => (match (n311 == (3 : Int)) with | true => (some (B ((IntKind.i64.wrap ((l309.length : Int) + (l310.length : Int))) == (0 : Int)))) | false => (some (B false))) | false => (match (n232 == (0 : Int)) with | true => (match run tab K 15 [.sl 3 a2, I a0_1, I 60] with | some r314 => (castI .i64 r314 fun n315 => match (n315 != (0 : Int)) with | true => (match (n311 == n315) with | true => (some (B ((IntKind.i64.wrap ((l309.length : Int) + (l310.length : Int))) == (0 : Int)))) | false => (some (B false))) | false => (match run tab K 16 [.agg [I a0_0, I a0_1, I a0_2, I a0_3, .sl 75 a0_4], I a1, .sl 3 a2] with | some r316 => (castL 3 (compN r316 0) fun l317 => castL 3 (compN r316 1) fun l318 => match (n311 == (0 : Int)) with | true => (match run tab K 10 [.sl 3 l309, .sl 3 l317] with | some r319 => (castB r319 fun b320 => match b320 with | true => (match run tab K 10 [.sl 3 l310, .sl 3 l318] with | some r321 => (castB r321 fun b322 => some (B b322)) | none => none) | false => (some (B false))) | none => none) | false => (some (B false))) | none => none)) | none => none) | false => (match (n232 != (0 : Int)) with | true => (match (n311 == n232) with | true => (some (B ((IntKind.i64.wrap ((l309.length : Int) + (l310.length : Int))) == (0 : Int)))) | false => (some (B false))) | false => (match run tab K 16 [.agg [I a0_0, I a0_1, I a0_2, I a0_3, .sl 75 a0_4], I a1, .sl 3 a2] with | some r323 => (castL 3 (compN r323 0) fun l324 => castL 3 (compN r323 1) fun l325 => match (n311 == (0 : Int)) with | true => (match run tab K 10 [.sl 3 l309, .sl 3 l324] with | some r326 => (castB r326 fun b327 => match b327 with | true => (match run tab K 10 [.sl 3 l310, .sl 3 l325] with | some r328 => (castB r328 fun b329 => some (B b329)) | none => none) | false => (some (B false))) | none => none) | false => (some (B false))) | none => none)))) | none => none) | false => (match (n232 == (0 : Int)) with | true => (match run tab K 15 [.sl 3 a2, I a0_1, I 60] with | some r330 => (castI .i64 r330 fun n331 => match (n331 != (0 : Int)) with | true => (match (n311 == n331) with | true => (some (B ((IntKind.i64.wrap ((l309.length : Int) + (l310.length : Int))) == (0 : Int)))) | false => (some (B false))) | false => (match run tab K 16 [.agg [I a0_0, I a0_1, I a0_2, I a0_3, .sl 75 a0_4], I a1, .sl 3 a2] with | some r332 => (castL 3 (compN r332 0) fun l333 => castL 3 (compN r332 1) fun l334 => match (n311 == (0 : Int)) with | true => (match run tab K 10 [.sl 3 l309, .sl 3 l333] with | some r335 => (castB r335 fun b336 => match b336 with | true => (match run tab K 10 [.sl 3 l310, .sl 3 l334] with | some r337 => (castB r337 fun b338 => some (B b338)) | none => none) | false => (some (B false))) | none => none) | false => (some (B false))) | none => none)) | none => none) | false => (match (n232 != (0 : Int)) with | true => (match (n311 == n232) with | true => (some (B ((IntKind.i64.wrap ((l309.length : Int) + (l310.length : Int))) == (0 : Int)))) | false => (some (B false))) | false => (match run tab K 16 [.agg [I a0_0, I a0_1, I a0_2, I a0_3, .sl 75 a0_4], I a1, .sl 3 a2] with | some r339 => (castL 3 (compN r339 0) fun l340 => castL 3 (compN r339 1) fun l341 => match (n311 == (0 : Int)) with | true => (match run tab K 10 [.sl 3 l309, .sl 3 l340] with | some r342 => (castB r342 fun b343 => match b343 with | true => (match run tab K 10 [.sl 3 l310, .sl 3 l341] with | some r344 => (castB r344 fun b345 => some (B b345)) | none => none) | false => (some (B false))) | none => none) | false => (some (B false))) | none => none)))) | none => none) | none => none) | none => none))) | false => (match (n232 == (0 : Int)) with | true => (match run tab K 9 [.agg [I a0_0, I a0_1, I a0_2, I a0_3, .sl 75 a0_4]] with | some r346 => (castL 25 (compN r346 0) fun l347 => castL 4 (compN r346 1) fun l348 => q12 a1 a2 n232 l240 l241 l347 l348 ([] : LA) ([] : LA) (0 : Int) a0_0 a0_1 a0_2 a0_3 a0_4) | none => none) | false => (match run tab K 8 [.agg [I a0_0, I a0_1, I a0_2, I a0_3, .sl 75 a0_4]] with | some r349 => (castI .i64 (cellN r349 0) fun n350 => castI .i64 (cellN r349 1) fun n351 => castI .i64 (cellN r349 2) fun n352 => castI .i64 (cellN r349 3) fun n353 => castL 75 (cellN r349 4) fun l354 => match run tab K 13 [.sl 3 a2] with | some r355 => (castL 3 r355 fun l356 => match run tab K 12 [.agg [I n350, I n351, I n352, I n353, .sl 75 l354], I a1, .sl 3 l356] with | some r357 => (castL 3 (compN r357 0) fun l358 => castL 3 (compN r357 1) fun l359 => castI .i64 (compN r357 2) fun n360 => match (n232 == (0 : Int)) with | true => (match run tab K 14 [I a1, I 0, I (IntKind.i64.wrap (a0_0 - 1))] with | some r361 => (castB r361 fun b362 => match (!b362) with | true => (match (n360 == (3 : Int)) with | true => (some (B ((IntKind.i64.wrap ((l358.length : Int) + (l359.length : Int))) == (0 : Int)))) | false => (some (B false))) | false => (match (n232 == (0 : Int)) with | true => (match run tab K 15 [.sl 3 a2, I a0_1, I 60] with | some r363 => (castI .i64 r363 fun n364 => match (n364 != (0 : Int)) with | true => (match (n360 == n364) with | true => (some (B ((IntKind.i64.wrap ((l358.length : Int) + (l359.length : Int))) == (0 : Int)))) | false => (some (B false))) | false => (match run tab K 16 [.agg [I a0_0, I a0_1, I a0_2, I a0_3, .sl 75 a0_4], I a1, .sl 3 a2] with | some r365 => (castL 3 (compN r365 0) fun l366 => castL 3 (compN r365 1) fun l367 => match (n360 == (0 : Int)) with | true => (match run tab K 10 [.sl 3 l358, .sl 3 l366] with | some r368 => (castB r368 fun b369 => match b369 with | true => (match run tab K 10 [.sl 3 l359, .sl 3 l367] with | some r370 => (castB r370 fun b371 => some (B b371)) | none => none) | false => (some (B false))) | none => none) | false => (some (B false))) | none => none)) | none => none) | false => (match (n232 != (0 : Int)) with | true => (match (n360 == n232) with | true => (some (B ((IntKind.i64.wrap ((l358.length : Int) + (l359.length : Int))) == (0 : Int)))) | false => (some (B false))) | false => (match run tab K 16 [.agg [I a0_0, I a0_1, I a0_2, I a0_3, .sl 75 a0_4], I a1, .sl 3 a2] with | some r372 => (castL 3 (compN r372 0) fun l373 => castL 3 (compN r372 1) fun l374 => match (n360 == (0 : Int)) with | true => (match run tab K 10 [.sl 3 l358, .sl 3 l373] with | some r375 => (castB r375 fun b376 => match b376 with | true => (match run tab K 10 [.sl 3 l359, .sl 3 l374] with | some r377 => (castB r377 fun b378 => some (B b378)) | none => none) | false => (some (B false))) | none => none) | false => (some (B false))) | none => none)))) | none => none) | false => (match (n232 == (0 : Int)) with | true => (match run tab K 15 [.sl 3 a2, I a0_1, I 60] with | some r379 => (castI .i64 r379 fun n380 => match (n380 != (0 : Int)) with | true => (match (n360 == n380) with | true => (some (B ((IntKind.i64.wrap ((l358.length : Int) + (l359.length : Int))) == (0 : Int)))) | false => (some (B false))) | false => (match run tab K 16 [.agg [I a0_0, I a0_1, I a0_2, I a0_3, .sl 75 a0_4], I a1, .sl 3 a2] with | some r381 => (castL 3 (compN r381 0) fun l382 => castL 3 (compN r381 1) fun l383 => match (n360 == (0 : Int)) with | true => (match run tab K 10 [.sl 3 l358, .sl 3 l382] with | some r384 => (castB r384 fun b385 => match b385 with | true => (match run tab K 10 [.sl 3 l359, .sl 3 l383] with | some r386 => (castB r386 fun b387 => some (B b387)) | none => none) | false => (some (B false))) | none => none) | false => (some (B false))) | none => none)) | none => none) | false => (match (n232 != (0 : Int)) with | true => (match (n360 == n232) with | true => (some (B ((IntKind.i64.wrap ((l358.length : Int) + (l359.length : Int))) == (0 : Int)))) | false => (some (B false))) | false => (match run tab K 16 [.agg [I a0_0, I a0_1, I a0_2, I a0_3, .sl 75 a0_4], I a1, .sl 3 a2] with | some r388 => (castL 3 (compN r388 0) fun l389 => castL 3 (compN r388 1) fun l390 => match (n360 == (0 : Int)) with | true => (match run tab K 10 [.sl 3 l358, .sl 3 l389] with | some r391 => (castB r391 fun b392 => match b392 with | true => (match run tab K 10 [.sl 3 l359, .sl 3 l390] with | some r393 => (castB r393 fun b394 => some (B b394)) | none => none) | false => (some (B false))) | none => none) | false => (some (B false))) | none => none)))) | none => none) | none => none) | none => none)))) | none => none) | none => none) | none => none)) | none => none
def lp3_12 (K : Nat) : Nat → Int → LA → Int → LA → LA → LA → LA → LA → LA → Int → Int → Int → Int → Int → LA → OA
  | 0, _, _, _, _, _, _, _, _, _, _, _, _, _, _, _ => none
  | k + 1, y1, y2, y3, y4, y5, y6, y7, y8, y9, y10, y11, y12, y13, y14, y15 => tr3_12 K (lp3_12 K k) y1 y2 y3 y4 y5 y6 y7 y8 y9 y10 y11 y12 y13 y14 y15
def sh3 (K : Nat) (a0_0 : Int) (a0_1 : Int) (a0_2 : Int) (a0_3 : Int) (a0_4 : LA) (a1 : Int) (a2 : LA) : OA := tr3 K (lp3_12 K K) a0_0 a0_1 a0_2 a0_3 a0_4 a1 a2
def fr3_12 (y1 : Int) (y2 : LA) (y3 : Int) (y4 : LA) (y5 : LA) (y6 : LA) (y7 : LA) (y8 : LA) (y9 : LA) (y10 : Int) (y11 : Int) (y12 : Int) (y13 : Int) (y14 : Int) (y15 : LA) : Fr := { slots := gap 1 ((I y1, .uni .ro) :: (.sl 3 y2, .uni .lent) :: (.undef, .loc 3 0) :: gap 3 ((I y3, .uni .ro) :: (.sl 3 y4, .uni .own) :: (.sl 25 y5, .uni .own) :: gap 1 ((.sl 25 y6, .uni .own) :: (.sl 4 y7, .uni .own) :: (.sl 3 y8, .uni .own) :: (.sl 25 y9, .uni .own) :: (I y10, .uni .ro) :: gap 127 []))), boxes := [(3, [(I y11, .ro), (I y12, .ro), (I y13, .ro), (I y14, .ro), (.sl 75 y15, .lent)])] }
theorem st3_12 (K : Nat) (k : Nat) (y1 : Int) (y2 : LA) (y3 : Int) (y4 : LA) (y5 : LA) (y6 : LA) (y7 : LA) (y8 : LA) (y9 : LA) (y10 : Int) (y11 : Int) (y12 : Int) (y13 : Int) (y14 : Int) (y15 : LA) : mlp 3 Tryz.f3 K 12 (fun i_ => fun _ => none) (k + 1) (fr3_12 y1 y2 y3 y4 y5 y6 y7 y8 y9 y10 y11 y12 y13 y14 y15) = tr3_12 K (fun y1 y2 y3 y4 y5 y6 y7 y8 y9 y10 y11 y12 y13 y14 y15 => mlp 3 Tryz.f3 K 12 (fun i_ => fun _ => none) k (fr3_12 y1 y2 y3 y4 y5 y6 y7 y8 y9 y10 y11 y12 y13 y14 y15)) y1 y2 y3 y4 y5 y6 y7 y8 y9 y10 y11 y12 y13 y14 y15 := by kernel_rfl
theorem lq3_12 (K : Nat) : ∀ (k : Nat) (y1 : Int) (y2 : LA) (y3 : Int) (y4 : LA) (y5 : LA) (y6 : LA) (y7 : LA) (y8 : LA) (y9 : LA) (y10 : Int) (y11 : Int) (y12 : Int) (y13 : Int) (y14 : Int) (y15 : LA), mlp 3 Tryz.f3 K 12 (fun i_ => fun _ => none) k (fr3_12 y1 y2 y3 y4 y5 y6 y7 y8 y9 y10 y11 y12 y13 y14 y15) = lp3_12 K k y1 y2 y3 y4 y5 y6 y7 y8 y9 y10 y11 y12 y13 y14 y15
  | 0, _, _, _, _, _, _, _, _, _, _, _, _, _, _, _ => rfl
  | k + 1, y1, y2, y3, y4, y5, y6, y7, y8, y9, y10, y11, y12, y13, y14, y15 => by
    rw [st3_12]
    have ih := lq3_12 K k
    try simp only [ih]
    try rfl
theorem eq3 (K : Nat) (a0_0 : Int) (a0_1 : Int) (a0_2 : Int) (a0_3 : Int) (a0_4 : LA) (a1 : Int) (a2 : LA) : run tab (K + 1) 3 [.agg [I a0_0, I a0_1, I a0_2, I a0_3, .sl 75 a0_4], I a1, .sl 3 a2] = sh3 K a0_0 a0_1 a0_2 a0_3 a0_4 a1 a2 := by
  have h : run tab (K + 1) 3 [.agg [I a0_0, I a0_1, I a0_2, I a0_3, .sl 75 a0_4], I a1, .sl 3 a2] = tr3 K (fun y1 y2 y3 y4 y5 y6 y7 y8 y9 y10 y11 y12 y13 y14 y15 => mlp 3 Tryz.f3 K 12 (fun i_ => fun _ => none) K (fr3_12 y1 y2 y3 y4 y5 y6 y7 y8 y9 y10 y11 y12 y13 y14 y15)) a0_0 a0_1 a0_2 a0_3 a0_4 a1 a2 := by kernel_rfl
  rw [h]
  simp only [lq3_12]
  rfl

def tr52 (K : Nat) (a0 : Bool) : OA :=
  match a0 with | true => (some (I 1)) | false => (some (I 0))
def sh52 (K : Nat) (a0 : Bool) : OA := tr52 K a0
theorem eq52 (K : Nat) (a0 : Bool) : run tab (K + 1) 52 [B a0] = sh52 K a0 := by kernel_rfl

end
end Go.Proofs.YtahifpeggdcamaaGreatDoor
