/- A part of an interpreter of the model's code that is proved sound, and of laws told by it: DamG6b. -/
import Derived.Test.YtahifpeggdcamaaDoorPmE1
set_option linter.unusedVariables false
set_option linter.unusedSimpArgs false
namespace Go.Proofs.YtahifpeggdcamaaDoor
open Go.Dam
set_option linter.unusedVariables false
set_option maxRecDepth 100000
noncomputable section


/-! ### examiner/model.Completed: function 32 -/
def tr32_9 (K : Nat) (q6 : LA → Int → Int → Int → Int → Int → Int → LA → Int → Int → Int → Int → LA → Int → Int → Int → Int → LA → OA) (q9 : Int → LA → Int → Int → LA → Int → Int → Int → Int → Int → Int → LA → Int → Int → Int → Int → LA → Int → Int → Int → Int → LA → OA) (y1 : Int) (y2 : LA) (y3 : Int) (y4 : Int) (y5 : LA) (y6 : Int) (y7 : Int) (y8 : Int) (y9 : Int) (y10 : Int) (y11 : Int) (y12 : LA) (y13 : Int) (y14 : Int) (y15 : Int) (y16 : Int) (y17 : LA) (y18 : Int) (y19 : Int) (y20 : Int) (y21 : Int) (y22 : LA) : OA :=
  match decide (y7 < y6) with | true => (if 0 ≤ y7 then (match y5[y7.toNat]? with | some x708 => (castP x708 fun q709 => castNil q709 fun b710 => match b710 with | true => (if (y22.length + ([.agg [I y1, I y7, I y10, I y1]] : LA).length) * 32 ≤ maxBytes then (q9 y1 y2 y3 y4 y5 y6 (IntKind.i64.wrap (y7 + 1)) y8 y9 y10 y11 y12 y13 y14 y15 y16 y17 y18 y19 y20 y21 (y22 ++ ([.agg [I y1, I y7, I y10, I y1]] : LA))) else none) | false => (castRef q709 fun p711 => castRef (.ref p711) fun p712 => castI .i64 (p712.getD 0 .undef) fun n713 => castI .i64 (p712.getD 1 .undef) fun n714 => castI .i64 (p712.getD 2 .undef) fun n715 => castI .i64 (p712.getD 3 .undef) fun n716 => if (y22.length + ([.agg [I n713, I n714, I n715, I n716]] : LA).length) * 32 ≤ maxBytes then (q9 y1 y2 y3 y4 y5 y6 (IntKind.i64.wrap (y7 + 1)) y8 y9 y10 y11 y12 y13 y14 y15 y16 y17 y18 y19 y20 y21 (y22 ++ ([.agg [I n713, I n714, I n715, I n716]] : LA))) else none)) | none => none) else none) | false => (q6 y2 y3 (IntKind.i64.wrap (y4 + 1)) y8 y9 y10 y11 y12 y13 y14 y15 y16 y17 y18 y19 y20 y21 y22)
def tr32_6 (K : Nat) (q9 : Int → LA → Int → Int → LA → Int → Int → Int → Int → Int → Int → LA → Int → Int → Int → Int → LA → Int → Int → Int → Int → LA → OA) (y1 : LA) (y2 : Int) (y3 : Int) (y4 : Int) (y5 : Int) (y6 : Int) (y7 : Int) (y8 : LA) (y9 : Int) (y10 : Int) (y11 : Int) (y12 : Int) (y13 : LA) (y14 : Int) (y15 : Int) (y16 : Int) (y17 : Int) (y18 : LA) : OA :=
  match decide (y3 < y2) with | true => (if 0 ≤ y3 then (match y1[y3.toNat]? with | some x706 => (castL 122 x706 fun l707 => q9 y3 y1 y2 y3 l707 (l707.length : Int) (0 : Int) y4 y5 y6 y7 y8 y9 y10 y11 y12 y13 y14 y15 y16 y17 y18) | none => none) else none) | false => (some (.tup [.agg [I y14, I y15, I y16, I y17, .sl 97 y18], I 0]))
def tr32 (K : Nat) (q6 : LA → Int → Int → Int → Int → Int → Int → LA → Int → Int → Int → Int → LA → Int → Int → Int → Int → LA → OA) (a0_0 : Int) (a0_1 : Int) (a0_2 : Int) (a0_3 : Int) (a0_4 : LA) : OA :=
  match run tab K 66 [.agg [I a0_0, I a0_1, I a0_2, I a0_3, .sl 97 a0_4]] with | some r698 => (castI .i64 r698 fun n699 => match run tab K 62 [B (decide (a0_2 < (8 : Int))), I 32] with | some r700 => (castI .i64 r700 fun n701 => match run tab K 61 [.sl 32 [I n699, I n701]] with | some r702 => (castI .i64 r702 fun n703 => match (n703 != (0 : Int)) with | true => (some (.tup [.agg [I 0, I 0, I 0, I 0, .sl 97 []], I n703])) | false => (match run tab K 67 [.agg [I a0_0, I a0_1, I a0_2, I a0_3, .sl 97 a0_4]] with | some r704 => (castL 121 r704 fun l705 => q6 l705 (l705.length : Int) (0 : Int) a0_0 a0_1 a0_2 a0_3 a0_4 (0 : Int) (0 : Int) (0 : Int) (0 : Int) ([] : LA) a0_0 a0_1 (IntKind.i64.wrap (a0_2 + 1)) a0_3 ([] : LA)) | none => none)) | none => none) | none => none) | none => none
def lp32_9 (K : Nat) (q6 : LA → Int → Int → Int → Int → Int → Int → LA → Int → Int → Int → Int → LA → Int → Int → Int → Int → LA → OA) : Nat → Int → LA → Int → Int → LA → Int → Int → Int → Int → Int → Int → LA → Int → Int → Int → Int → LA → Int → Int → Int → Int → LA → OA
  | 0, _, _, _, _, _, _, _, _, _, _, _, _, _, _, _, _, _, _, _, _, _, _ => none
  | k + 1, y1, y2, y3, y4, y5, y6, y7, y8, y9, y10, y11, y12, y13, y14, y15, y16, y17, y18, y19, y20, y21, y22 => tr32_9 K q6 (lp32_9 K q6 k) y1 y2 y3 y4 y5 y6 y7 y8 y9 y10 y11 y12 y13 y14 y15 y16 y17 y18 y19 y20 y21 y22
def lp32_6 (K : Nat) : Nat → LA → Int → Int → Int → Int → Int → Int → LA → Int → Int → Int → Int → LA → Int → Int → Int → Int → LA → OA
  | 0, _, _, _, _, _, _, _, _, _, _, _, _, _, _, _, _, _, _ => none
  | k + 1, y1, y2, y3, y4, y5, y6, y7, y8, y9, y10, y11, y12, y13, y14, y15, y16, y17, y18 => tr32_6 K (lp32_9 K (lp32_6 K k) K) y1 y2 y3 y4 y5 y6 y7 y8 y9 y10 y11 y12 y13 y14 y15 y16 y17 y18
def sh32 (K : Nat) (a0_0 : Int) (a0_1 : Int) (a0_2 : Int) (a0_3 : Int) (a0_4 : LA) : OA := tr32 K (lp32_6 K K) a0_0 a0_1 a0_2 a0_3 a0_4
def fr32_9 (y1 : Int) (y2 : LA) (y3 : Int) (y4 : Int) (y5 : LA) (y6 : Int) (y7 : Int) (y8 : Int) (y9 : Int) (y10 : Int) (y11 : Int) (y12 : LA) (y13 : Int) (y14 : Int) (y15 : Int) (y16 : Int) (y17 : LA) (y18 : Int) (y19 : Int) (y20 : Int) (y21 : Int) (y22 : LA) : Fr := { slots := gap 1 ((.undef, .loc 1 0) :: (.undef, .loc 2 0) :: gap 2 ((.undef, .loc 5 0) :: (I y1, .uni .ro) :: gap 26 ((.sl 121 y2, .uni .ro) :: (I y3, .uni .ro) :: (I y4, .uni .ro) :: gap 4 ((.sl 122 y5, .uni .ro) :: (I y6, .uni .ro) :: (I y7, .uni .ro) :: gap 24 [])))), boxes := [(1, [(I y8, .ro), (I y9, .ro), (I y10, .ro), (I y11, .ro), (.sl 97 y12, .lent)]), (2, [(I y13, .ro), (I y14, .ro), (I y15, .ro), (I y16, .ro), (.sl 97 y17, .own)]), (5, [(I y18, .ro), (I y19, .ro), (I y20, .ro), (I y21, .ro), (.sl 97 y22, .own)])] }
def fr32_6 (y1 : LA) (y2 : Int) (y3 : Int) (y4 : Int) (y5 : Int) (y6 : Int) (y7 : Int) (y8 : LA) (y9 : Int) (y10 : Int) (y11 : Int) (y12 : Int) (y13 : LA) (y14 : Int) (y15 : Int) (y16 : Int) (y17 : Int) (y18 : LA) : Fr := { slots := gap 1 ((.undef, .loc 1 0) :: (.undef, .loc 2 0) :: gap 2 ((.undef, .loc 5 0) :: gap 27 ((.sl 121 y1, .uni .ro) :: (I y2, .uni .ro) :: (I y3, .uni .ro) :: gap 31 []))), boxes := [(1, [(I y4, .ro), (I y5, .ro), (I y6, .ro), (I y7, .ro), (.sl 97 y8, .lent)]), (2, [(I y9, .ro), (I y10, .ro), (I y11, .ro), (I y12, .ro), (.sl 97 y13, .own)]), (5, [(I y14, .ro), (I y15, .ro), (I y16, .ro), (I y17, .ro), (.sl 97 y18, .own)])] }
theorem st32_9 (K : Nat) (RO6 : Fr → OA) (k : Nat) (y1 : Int) (y2 : LA) (y3 : Int) (y4 : Int) (y5 : LA) (y6 : Int) (y7 : Int) (y8 : Int) (y9 : Int) (y10 : Int) (y11 : Int) (y12 : LA) (y13 : Int) (y14 : Int) (y15 : Int) (y16 : Int) (y17 : LA) (y18 : Int) (y19 : Int) (y20 : Int) (y21 : Int) (y22 : LA) : mlp 32 Tryd.f32 K 9 (fun i_ => if i_ = 6 then RO6 else fun _ => none) (k + 1) (fr32_9 y1 y2 y3 y4 y5 y6 y7 y8 y9 y10 y11 y12 y13 y14 y15 y16 y17 y18 y19 y20 y21 y22) = tr32_9 K (fun y1 y2 y3 y4 y5 y6 y7 y8 y9 y10 y11 y12 y13 y14 y15 y16 y17 y18 => RO6 (fr32_6 y1 y2 y3 y4 y5 y6 y7 y8 y9 y10 y11 y12 y13 y14 y15 y16 y17 y18)) (fun y1 y2 y3 y4 y5 y6 y7 y8 y9 y10 y11 y12 y13 y14 y15 y16 y17 y18 y19 y20 y21 y22 => mlp 32 Tryd.f32 K 9 (fun i_ => if i_ = 6 then RO6 else fun _ => none) k (fr32_9 y1 y2 y3 y4 y5 y6 y7 y8 y9 y10 y11 y12 y13 y14 y15 y16 y17 y18 y19 y20 y21 y22)) y1 y2 y3 y4 y5 y6 y7 y8 y9 y10 y11 y12 y13 y14 y15 y16 y17 y18 y19 y20 y21 y22 := by kernel_rfl
theorem lq32_9 (K : Nat) (RO6 : Fr → OA) : ∀ (k : Nat) (y1 : Int) (y2 : LA) (y3 : Int) (y4 : Int) (y5 : LA) (y6 : Int) (y7 : Int) (y8 : Int) (y9 : Int) (y10 : Int) (y11 : Int) (y12 : LA) (y13 : Int) (y14 : Int) (y15 : Int) (y16 : Int) (y17 : LA) (y18 : Int) (y19 : Int) (y20 : Int) (y21 : Int) (y22 : LA), mlp 32 Tryd.f32 K 9 (fun i_ => if i_ = 6 then RO6 else fun _ => none) k (fr32_9 y1 y2 y3 y4 y5 y6 y7 y8 y9 y10 y11 y12 y13 y14 y15 y16 y17 y18 y19 y20 y21 y22) = lp32_9 K (fun y1 y2 y3 y4 y5 y6 y7 y8 y9 y10 y11 y12 y13 y14 y15 y16 y17 y18 => RO6 (fr32_6 y1 y2 y3 y4 y5 y6 y7 y8 y9 y10 y11 y12 y13 y14 y15 y16 y17 y18)) k y1 y2 y3 y4 y5 y6 y7 y8 y9 y10 y11 y12 y13 y14 y15 y16 y17 y18 y19 y20 y21 y22
  | 0, _, _, _, _, _, _, _, _, _, _, _, _, _, _, _, _, _, _, _, _, _, _ => rfl
  | k + 1, y1, y2, y3, y4, y5, y6, y7, y8, y9, y10, y11, y12, y13, y14, y15, y16, y17, y18, y19, y20, y21, y22 => by
    rw [st32_9]
    have ih := lq32_9 K RO6 k
    try simp only [ih]
    try rfl
theorem st32_6 (K : Nat) (k : Nat) (y1 : LA) (y2 : Int) (y3 : Int) (y4 : Int) (y5 : Int) (y6 : Int) (y7 : Int) (y8 : LA) (y9 : Int) (y10 : Int) (y11 : Int) (y12 : Int) (y13 : LA) (y14 : Int) (y15 : Int) (y16 : Int) (y17 : Int) (y18 : LA) : mlp 32 Tryd.f32 K 6 (fun i_ => fun _ => none) (k + 1) (fr32_6 y1 y2 y3 y4 y5 y6 y7 y8 y9 y10 y11 y12 y13 y14 y15 y16 y17 y18) = tr32_6 K (fun y1 y2 y3 y4 y5 y6 y7 y8 y9 y10 y11 y12 y13 y14 y15 y16 y17 y18 y19 y20 y21 y22 => mlp 32 Tryd.f32 K 9 (fun i_ => if i_ = 6 then (fun fr_ => mlp 32 Tryd.f32 K 6 (fun i_ => fun _ => none) k fr_) else fun _ => none) K (fr32_9 y1 y2 y3 y4 y5 y6 y7 y8 y9 y10 y11 y12 y13 y14 y15 y16 y17 y18 y19 y20 y21 y22)) y1 y2 y3 y4 y5 y6 y7 y8 y9 y10 y11 y12 y13 y14 y15 y16 y17 y18 := by kernel_rfl
theorem lq32_6 (K : Nat) : ∀ (k : Nat) (y1 : LA) (y2 : Int) (y3 : Int) (y4 : Int) (y5 : Int) (y6 : Int) (y7 : Int) (y8 : LA) (y9 : Int) (y10 : Int) (y11 : Int) (y12 : Int) (y13 : LA) (y14 : Int) (y15 : Int) (y16 : Int) (y17 : Int) (y18 : LA), mlp 32 Tryd.f32 K 6 (fun i_ => fun _ => none) k (fr32_6 y1 y2 y3 y4 y5 y6 y7 y8 y9 y10 y11 y12 y13 y14 y15 y16 y17 y18) = lp32_6 K k y1 y2 y3 y4 y5 y6 y7 y8 y9 y10 y11 y12 y13 y14 y15 y16 y17 y18
  | 0, _, _, _, _, _, _, _, _, _, _, _, _, _, _, _, _, _, _ => rfl
  | k + 1, y1, y2, y3, y4, y5, y6, y7, y8, y9, y10, y11, y12, y13, y14, y15, y16, y17, y18 => by
    rw [st32_6]
    have ih := lq32_6 K k
    have ih9 := lq32_9 K (fun fr_ => mlp 32 Tryd.f32 K 6 (fun i_ => fun _ => none) k fr_) K
    try simp only [ih, ih9]
    try rfl
theorem eq32 (K : Nat) (a0_0 : Int) (a0_1 : Int) (a0_2 : Int) (a0_3 : Int) (a0_4 : LA) : run tab (K + 1) 32 [.agg [I a0_0, I a0_1, I a0_2, I a0_3, .sl 97 a0_4]] = sh32 K a0_0 a0_1 a0_2 a0_3 a0_4 := by
  have h : run tab (K + 1) 32 [.agg [I a0_0, I a0_1, I a0_2, I a0_3, .sl 97 a0_4]] = tr32 K (fun y1 y2 y3 y4 y5 y6 y7 y8 y9 y10 y11 y12 y13 y14 y15 y16 y17 y18 => mlp 32 Tryd.f32 K 6 (fun i_ => fun _ => none) K (fr32_6 y1 y2 y3 y4 y5 y6 y7 y8 y9 y10 y11 y12 y13 y14 y15 y16 y17 y18)) a0_0 a0_1 a0_2 a0_3 a0_4 := by kernel_rfl
  rw [h]
  simp only [lq32_6]
  rfl

/-! ### examiner/examinerref37.Err: function 33 -/
def tr33 (K : Nat) (a0_0 : Int) (a0_1 : Int) (a0_2 : Int) (a0_3 : Int) (a0_4 : LA) : OA :=
  match run tab K 22 [.agg [I a0_0, I a0_1, I a0_2, I a0_3, .sl 97 a0_4]] with | some r717 => (castI .i64 (compN r717 0) fun n718 => castI .i64 (compN r717 1) fun n719 => some (I n719)) | none => none
def sh33 (K : Nat) (a0_0 : Int) (a0_1 : Int) (a0_2 : Int) (a0_3 : Int) (a0_4 : LA) : OA := tr33 K a0_0 a0_1 a0_2 a0_3 a0_4
theorem eq33 (K : Nat) (a0_0 : Int) (a0_1 : Int) (a0_2 : Int) (a0_3 : Int) (a0_4 : LA) : run tab (K + 1) 33 [.agg [I a0_0, I a0_1, I a0_2, I a0_3, .sl 97 a0_4]] = sh33 K a0_0 a0_1 a0_2 a0_3 a0_4 := by kernel_rfl

/-! ### examiner/examinerref37.Completed: function 34 -/
def tr34_6 (K : Nat) (q3 : Int → Int → Int → Int → Int → LA → Int → Int → Int → Int → LA → Int → Int → Int → Int → LA → OA) (q6 : Int → Int → Int → Int → Int → Int → LA → Int → Int → Int → Int → LA → Int → Int → Int → Int → LA → OA) (y1 : Int) (y2 : Int) (y3 : Int) (y4 : Int) (y5 : Int) (y6 : Int) (y7 : LA) (y8 : Int) (y9 : Int) (y10 : Int) (y11 : Int) (y12 : LA) (y13 : Int) (y14 : Int) (y15 : Int) (y16 : Int) (y17 : LA) : OA :=
  match decide (y2 < y4) with | true => (match run tab K 68 [.agg [I y3, I y4, I y5, I y6, .sl 97 y7], I y1, I y2] with | some r720 => (castI .i64 r720 fun n721 => match (n721 != (-1 : Int)) with | true => (if 0 ≤ n721 then (match y7[n721.toNat]? with | some x722 => (castI .i64 (cellN x722 0) fun n723 => castI .i64 (cellN x722 1) fun n724 => castI .i64 (cellN x722 2) fun n725 => castI .i64 (cellN x722 3) fun n726 => if (y17.length + ([.agg [I n723, I n724, I n725, I n726]] : LA).length) * 32 ≤ maxBytes then (q6 y1 (IntKind.i64.wrap (y2 + 1)) y3 y4 y5 y6 y7 y8 y9 y10 y11 y12 y13 y14 y15 y16 (y17 ++ ([.agg [I n723, I n724, I n725, I n726]] : LA))) else none) | none => none) else none) | false => (if (y17.length + ([.agg [I y1, I y2, I y5, I y1]] : LA).length) * 32 ≤ maxBytes then (q6 y1 (IntKind.i64.wrap (y2 + 1)) y3 y4 y5 y6 y7 y8 y9 y10 y11 y12 y13 y14 y15 y16 (y17 ++ ([.agg [I y1, I y2, I y5, I y1]] : LA))) else none)) | none => none) | false => (q3 (IntKind.i64.wrap (y1 + 1)) y3 y4 y5 y6 y7 y8 y9 y10 y11 y12 y13 y14 y15 y16 y17)
def tr34_3 (K : Nat) (q6 : Int → Int → Int → Int → Int → Int → LA → Int → Int → Int → Int → LA → Int → Int → Int → Int → LA → OA) (y1 : Int) (y2 : Int) (y3 : Int) (y4 : Int) (y5 : Int) (y6 : LA) (y7 : Int) (y8 : Int) (y9 : Int) (y10 : Int) (y11 : LA) (y12 : Int) (y13 : Int) (y14 : Int) (y15 : Int) (y16 : LA) : OA :=
  match decide (y1 < y2) with | true => (q6 y1 (0 : Int) y2 y3 y4 y5 y6 y7 y8 y9 y10 y11 y12 y13 y14 y15 y16) | false => (some (.agg [I y12, I y13, I y14, I y15, .sl 97 y16]))
def tr34 (K : Nat) (q3 : Int → Int → Int → Int → Int → LA → Int → Int → Int → Int → LA → Int → Int → Int → Int → LA → OA) (a0_0 : Int) (a0_1 : Int) (a0_2 : Int) (a0_3 : Int) (a0_4 : LA) : OA :=
  q3 (0 : Int) a0_0 a0_1 a0_2 a0_3 a0_4 (0 : Int) (0 : Int) (0 : Int) (0 : Int) ([] : LA) a0_0 a0_1 (IntKind.i64.wrap (a0_2 + 1)) a0_3 ([] : LA)
def lp34_6 (K : Nat) (q3 : Int → Int → Int → Int → Int → LA → Int → Int → Int → Int → LA → Int → Int → Int → Int → LA → OA) : Nat → Int → Int → Int → Int → Int → Int → LA → Int → Int → Int → Int → LA → Int → Int → Int → Int → LA → OA
  | 0, _, _, _, _, _, _, _, _, _, _, _, _, _, _, _, _, _ => none
  | k + 1, y1, y2, y3, y4, y5, y6, y7, y8, y9, y10, y11, y12, y13, y14, y15, y16, y17 => tr34_6 K q3 (lp34_6 K q3 k) y1 y2 y3 y4 y5 y6 y7 y8 y9 y10 y11 y12 y13 y14 y15 y16 y17
def lp34_3 (K : Nat) : Nat → Int → Int → Int → Int → Int → LA → Int → Int → Int → Int → LA → Int → Int → Int → Int → LA → OA
  | 0, _, _, _, _, _, _, _, _, _, _, _, _, _, _, _, _ => none
  | k + 1, y1, y2, y3, y4, y5, y6, y7, y8, y9, y10, y11, y12, y13, y14, y15, y16 => tr34_3 K (lp34_6 K (lp34_3 K k) K) y1 y2 y3 y4 y5 y6 y7 y8 y9 y10 y11 y12 y13 y14 y15 y16
def sh34 (K : Nat) (a0_0 : Int) (a0_1 : Int) (a0_2 : Int) (a0_3 : Int) (a0_4 : LA) : OA := tr34 K (lp34_3 K K) a0_0 a0_1 a0_2 a0_3 a0_4
def fr34_6 (y1 : Int) (y2 : Int) (y3 : Int) (y4 : Int) (y5 : Int) (y6 : Int) (y7 : LA) (y8 : Int) (y9 : Int) (y10 : Int) (y11 : Int) (y12 : LA) (y13 : Int) (y14 : Int) (y15 : Int) (y16 : Int) (y17 : LA) : Fr := { slots := gap 1 ((.undef, .loc 1 0) :: (.undef, .loc 2 0) :: (.undef, .loc 3 0) :: (I y1, .uni .ro) :: (I y2, .uni .ro) :: gap 51 []), boxes := [(1, [(I y3, .ro), (I y4, .ro), (I y5, .ro), (I y6, .ro), (.sl 97 y7, .lent)]), (2, [(I y8, .ro), (I y9, .ro), (I y10, .ro), (I y11, .ro), (.sl 97 y12, .own)]), (3, [(I y13, .ro), (I y14, .ro), (I y15, .ro), (I y16, .ro), (.sl 97 y17, .own)])] }
def fr34_3 (y1 : Int) (y2 : Int) (y3 : Int) (y4 : Int) (y5 : Int) (y6 : LA) (y7 : Int) (y8 : Int) (y9 : Int) (y10 : Int) (y11 : LA) (y12 : Int) (y13 : Int) (y14 : Int) (y15 : Int) (y16 : LA) : Fr := { slots := gap 1 ((.undef, .loc 1 0) :: (.undef, .loc 2 0) :: (.undef, .loc 3 0) :: (I y1, .uni .ro) :: gap 52 []), boxes := [(1, [(I y2, .ro), (I y3, .ro), (I y4, .ro), (I y5, .ro), (.sl 97 y6, .lent)]), (2, [(I y7, .ro), (I y8, .ro), (I y9, .ro), (I y10, .ro), (.sl 97 y11, .own)]), (3, [(I y12, .ro), (I y13, .ro), (I y14, .ro), (I y15, .ro), (.sl 97 y16, .own)])] }
theorem st34_6 (K : Nat) (RO3 : Fr → OA) (k : Nat) (y1 : Int) (y2 : Int) (y3 : Int) (y4 : Int) (y5 : Int) (y6 : Int) (y7 : LA) (y8 : Int) (y9 : Int) (y10 : Int) (y11 : Int) (y12 : LA) (y13 : Int) (y14 : Int) (y15 : Int) (y16 : Int) (y17 : LA) : mlp 34 Tryd.f34 K 6 (fun i_ => if i_ = 3 then RO3 else fun _ => none) (k + 1) (fr34_6 y1 y2 y3 y4 y5 y6 y7 y8 y9 y10 y11 y12 y13 y14 y15 y16 y17) = tr34_6 K (fun y1 y2 y3 y4 y5 y6 y7 y8 y9 y10 y11 y12 y13 y14 y15 y16 => RO3 (fr34_3 y1 y2 y3 y4 y5 y6 y7 y8 y9 y10 y11 y12 y13 y14 y15 y16)) (fun y1 y2 y3 y4 y5 y6 y7 y8 y9 y10 y11 y12 y13 y14 y15 y16 y17 => mlp 34 Tryd.f34 K 6 (fun i_ => if i_ = 3 then RO3 else fun _ => none) k (fr34_6 y1 y2 y3 y4 y5 y6 y7 y8 y9 y10 y11 y12 y13 y14 y15 y16 y17)) y1 y2 y3 y4 y5 y6 y7 y8 y9 y10 y11 y12 y13 y14 y15 y16 y17 := by kernel_rfl
theorem lq34_6 (K : Nat) (RO3 : Fr → OA) : ∀ (k : Nat) (y1 : Int) (y2 : Int) (y3 : Int) (y4 : Int) (y5 : Int) (y6 : Int) (y7 : LA) (y8 : Int) (y9 : Int) (y10 : Int) (y11 : Int) (y12 : LA) (y13 : Int) (y14 : Int) (y15 : Int) (y16 : Int) (y17 : LA), mlp 34 Tryd.f34 K 6 (fun i_ => if i_ = 3 then RO3 else fun _ => none) k (fr34_6 y1 y2 y3 y4 y5 y6 y7 y8 y9 y10 y11 y12 y13 y14 y15 y16 y17) = lp34_6 K (fun y1 y2 y3 y4 y5 y6 y7 y8 y9 y10 y11 y12 y13 y14 y15 y16 => RO3 (fr34_3 y1 y2 y3 y4 y5 y6 y7 y8 y9 y10 y11 y12 y13 y14 y15 y16)) k y1 y2 y3 y4 y5 y6 y7 y8 y9 y10 y11 y12 y13 y14 y15 y16 y17
  | 0, _, _, _, _, _, _, _, _, _, _, _, _, _, _, _, _, _ => rfl
  | k + 1, y1, y2, y3, y4, y5, y6, y7, y8, y9, y10, y11, y12, y13, y14, y15, y16, y17 => by
    rw [st34_6]
    have ih := lq34_6 K RO3 k
    try simp only [ih]
    try rfl
theorem st34_3 (K : Nat) (k : Nat) (y1 : Int) (y2 : Int) (y3 : Int) (y4 : Int) (y5 : Int) (y6 : LA) (y7 : Int) (y8 : Int) (y9 : Int) (y10 : Int) (y11 : LA) (y12 : Int) (y13 : Int) (y14 : Int) (y15 : Int) (y16 : LA) : mlp 34 Tryd.f34 K 3 (fun i_ => fun _ => none) (k + 1) (fr34_3 y1 y2 y3 y4 y5 y6 y7 y8 y9 y10 y11 y12 y13 y14 y15 y16) = tr34_3 K (fun y1 y2 y3 y4 y5 y6 y7 y8 y9 y10 y11 y12 y13 y14 y15 y16 y17 => mlp 34 Tryd.f34 K 6 (fun i_ => if i_ = 3 then (fun fr_ => mlp 34 Tryd.f34 K 3 (fun i_ => fun _ => none) k fr_) else fun _ => none) K (fr34_6 y1 y2 y3 y4 y5 y6 y7 y8 y9 y10 y11 y12 y13 y14 y15 y16 y17)) y1 y2 y3 y4 y5 y6 y7 y8 y9 y10 y11 y12 y13 y14 y15 y16 := by kernel_rfl
theorem lq34_3 (K : Nat) : ∀ (k : Nat) (y1 : Int) (y2 : Int) (y3 : Int) (y4 : Int) (y5 : Int) (y6 : LA) (y7 : Int) (y8 : Int) (y9 : Int) (y10 : Int) (y11 : LA) (y12 : Int) (y13 : Int) (y14 : Int) (y15 : Int) (y16 : LA), mlp 34 Tryd.f34 K 3 (fun i_ => fun _ => none) k (fr34_3 y1 y2 y3 y4 y5 y6 y7 y8 y9 y10 y11 y12 y13 y14 y15 y16) = lp34_3 K k y1 y2 y3 y4 y5 y6 y7 y8 y9 y10 y11 y12 y13 y14 y15 y16
  | 0, _, _, _, _, _, _, _, _, _, _, _, _, _, _, _, _ => rfl
  | k + 1, y1, y2, y3, y4, y5, y6, y7, y8, y9, y10, y11, y12, y13, y14, y15, y16 => by
    rw [st34_3]
    have ih := lq34_3 K k
    have ih6 := lq34_6 K (fun fr_ => mlp 34 Tryd.f34 K 3 (fun i_ => fun _ => none) k fr_) K
    try simp only [ih, ih6]
    try rfl
theorem eq34 (K : Nat) (a0_0 : Int) (a0_1 : Int) (a0_2 : Int) (a0_3 : Int) (a0_4 : LA) : run tab (K + 1) 34 [.agg [I a0_0, I a0_1, I a0_2, I a0_3, .sl 97 a0_4]] = sh34 K a0_0 a0_1 a0_2 a0_3 a0_4 := by
  have h : run tab (K + 1) 34 [.agg [I a0_0, I a0_1, I a0_2, I a0_3, .sl 97 a0_4]] = tr34 K (fun y1 y2 y3 y4 y5 y6 y7 y8 y9 y10 y11 y12 y13 y14 y15 y16 => mlp 34 Tryd.f34 K 3 (fun i_ => fun _ => none) K (fr34_3 y1 y2 y3 y4 y5 y6 y7 y8 y9 y10 y11 y12 y13 y14 y15 y16)) a0_0 a0_1 a0_2 a0_3 a0_4 := by kernel_rfl
  rw [h]
  simp only [lq34_3]
  rfl

/-! ### examiner/model.RunOf: function 35 -/
def tr35_11 (K : Nat) (q11 : LA → LA → LA → LA → Int → Int → Int → Int → LA → Int → LA → LA → OA) (y1 : LA) (y2 : LA) (y3 : LA) (y4 : LA) (y5 : Int) (y6 : Int) (y7 : Int) (y8 : Int) (y9 : LA) (y10 : Int) (y11 : LA) (y12 : LA) : OA :=
  match decide (y6 < y5) with | true => (if 0 ≤ y6 then (match y4[y6.toNat]? with | some x735 => (castI .i64 x735 fun n736 => if 0 ≤ n736 then (match y1[n736.toNat]? with | some x737 => (castI .i64 (cellN x737 0) fun n738 => castI .i64 (cellN x737 1) fun n739 => match run tab K 50 [.agg [I y7, I y8, .sl 3 y9, I y10, .sl 105 y11, .sl 103 y12], .sl 3 y3, .agg [I n738, I n739]] with | some r740 => (castL 3 (cellN (compN r740 0) 0) fun l741 => castI .i64 (cellN (compN r740 0) 1) fun n742 => castI .i64 (compN r740 1) fun n743 => match (n743 != (0 : Int)) with | true => (some (.tup [.sl 3 y2, I (y2.length : Int), I n743])) | false => (if (y2.length + ([I n742] : LA).length) * 8 ≤ maxBytes then (q11 y1 (y2 ++ ([I n742] : LA)) l741 y4 y5 (IntKind.i64.wrap (y6 + 1)) y7 y8 y9 y10 y11 y12) else none)) | none => none) | none => none) else none) | none => none) else none) | false => (some (.tup [.sl 3 y2, I (y2.length : Int), I 0]))
def tr35 (K : Nat) (q11 : LA → LA → LA → LA → Int → Int → Int → Int → LA → Int → LA → LA → OA) (a0_0 : Int) (a0_1 : Int) (a0_2 : LA) (a0_3 : Int) (a0_4 : LA) (a0_5 : LA) (a1 : LA) : OA :=
  match run tab K 47 [.agg [I a0_0, I a0_1, .sl 3 a0_2, I a0_3, .sl 105 a0_4, .sl 103 a0_5]] with | some r727 => (castI .i64 r727 fun n728 => match (n728 != (0 : Int)) with | true => (some (.tup [.sl 3 [], I 0, I n728])) | false => (match run tab K 48 [.agg [I a0_0, I a0_1, .sl 3 a0_2, I a0_3, .sl 105 a0_4, .sl 103 a0_5]] with | some r729 => (castL 52 r729 fun l730 => match run tab K 69 [.sl 3 a1, I (l730.length : Int)] with | some r731 => (castI .i64 r731 fun n732 => match (n732 != (0 : Int)) with | true => (some (.tup [.sl 3 [], I 0, I n732])) | false => (match run tab K 49 [.agg [I a0_0, I a0_1, .sl 3 a0_2, I a0_3, .sl 105 a0_4, .sl 103 a0_5]] with | some r733 => (castL 3 r733 fun l734 => q11 l730 ([] : LA) l734 a1 (a1.length : Int) (0 : Int) a0_0 a0_1 a0_2 a0_3 a0_4 a0_5) | none => none)) | none => none) | none => none)) | none => none
def lp35_11 (K : Nat) : Nat → LA → LA → LA → LA → Int → Int → Int → Int → LA → Int → LA → LA → OA
  | 0, _, _, _, _, _, _, _, _, _, _, _, _ => none
  | k + 1, y1, y2, y3, y4, y5, y6, y7, y8, y9, y10, y11, y12 => tr35_11 K (lp35_11 K k) y1 y2 y3 y4 y5 y6 y7 y8 y9 y10 y11 y12
def sh35 (K : Nat) (a0_0 : Int) (a0_1 : Int) (a0_2 : LA) (a0_3 : Int) (a0_4 : LA) (a0_5 : LA) (a1 : LA) : OA := tr35 K (lp35_11 K K) a0_0 a0_1 a0_2 a0_3 a0_4 a0_5 a1
def fr35_11 (y1 : LA) (y2 : LA) (y3 : LA) (y4 : LA) (y5 : Int) (y6 : Int) (y7 : Int) (y8 : Int) (y9 : LA) (y10 : Int) (y11 : LA) (y12 : LA) : Fr := { slots := gap 2 ((.undef, .loc 2 0) :: gap 5 ((.sl 52 y1, .uni .own) :: gap 1 ((.sl 3 y2, .uni .own) :: (.sl 3 y3, .uni .ro) :: gap 20 ((.sl 3 y4, .uni .lent) :: (I y5, .uni .ro) :: (I y6, .uni .ro) :: gap 30 [])))), boxes := [(2, [(I y7, .ro), (I y8, .ro), (.sl 3 y9, .lent), (I y10, .ro), (.sl 105 y11, .lent), (.sl 103 y12, .lent)])] }
theorem st35_11 (K : Nat) (k : Nat) (y1 : LA) (y2 : LA) (y3 : LA) (y4 : LA) (y5 : Int) (y6 : Int) (y7 : Int) (y8 : Int) (y9 : LA) (y10 : Int) (y11 : LA) (y12 : LA) : mlp 35 Tryd.f35 K 11 (fun i_ => fun _ => none) (k + 1) (fr35_11 y1 y2 y3 y4 y5 y6 y7 y8 y9 y10 y11 y12) = tr35_11 K (fun y1 y2 y3 y4 y5 y6 y7 y8 y9 y10 y11 y12 => mlp 35 Tryd.f35 K 11 (fun i_ => fun _ => none) k (fr35_11 y1 y2 y3 y4 y5 y6 y7 y8 y9 y10 y11 y12)) y1 y2 y3 y4 y5 y6 y7 y8 y9 y10 y11 y12 := by kernel_rfl
theorem lq35_11 (K : Nat) : ∀ (k : Nat) (y1 : LA) (y2 : LA) (y3 : LA) (y4 : LA) (y5 : Int) (y6 : Int) (y7 : Int) (y8 : Int) (y9 : LA) (y10 : Int) (y11 : LA) (y12 : LA), mlp 35 Tryd.f35 K 11 (fun i_ => fun _ => none) k (fr35_11 y1 y2 y3 y4 y5 y6 y7 y8 y9 y10 y11 y12) = lp35_11 K k y1 y2 y3 y4 y5 y6 y7 y8 y9 y10 y11 y12
  | 0, _, _, _, _, _, _, _, _, _, _, _, _ => rfl
  | k + 1, y1, y2, y3, y4, y5, y6, y7, y8, y9, y10, y11, y12 => by
    rw [st35_11]
    have ih := lq35_11 K k
    try simp only [ih]
    try rfl
theorem eq35 (K : Nat) (a0_0 : Int) (a0_1 : Int) (a0_2 : LA) (a0_3 : Int) (a0_4 : LA) (a0_5 : LA) (a1 : LA) : run tab (K + 1) 35 [.agg [I a0_0, I a0_1, .sl 3 a0_2, I a0_3, .sl 105 a0_4, .sl 103 a0_5], .sl 3 a1] = sh35 K a0_0 a0_1 a0_2 a0_3 a0_4 a0_5 a1 := by
  have h : run tab (K + 1) 35 [.agg [I a0_0, I a0_1, .sl 3 a0_2, I a0_3, .sl 105 a0_4, .sl 103 a0_5], .sl 3 a1] = tr35 K (fun y1 y2 y3 y4 y5 y6 y7 y8 y9 y10 y11 y12 => mlp 35 Tryd.f35 K 11 (fun i_ => fun _ => none) K (fr35_11 y1 y2 y3 y4 y5 y6 y7 y8 y9 y10 y11 y12)) a0_0 a0_1 a0_2 a0_3 a0_4 a0_5 a1 := by kernel_rfl
  rw [h]
  simp only [lq35_11]
  rfl

/-! ### examiner/examinerref37.WordErr: function 36 -/
def tr36_4 (K : Nat) (q4 : LA → Int → Int → OA) (y1 : LA) (y2 : Int) (y3 : Int) : OA :=
  match decide (y3 < (y1.length : Int)) with | true => (if 0 ≤ y3 then (match y1[y3.toNat]? with | some x744 => (castI .i64 x744 fun n745 => match run tab K 29 [I n745, I 0, I (IntKind.i64.wrap (y2 - 1))] with | some r746 => (castB r746 fun b747 => match (!b747) with | true => (some (I 3)) | false => (q4 y1 y2 (IntKind.i64.wrap (y3 + 1)))) | none => none) | none => none) else none) | false => (some (I 0))
def tr36 (K : Nat) (q4 : LA → Int → Int → OA) (a0 : LA) (a1 : Int) (a2 : Int) : OA :=
  match decide ((a0.length : Int) > a2) with | true => (some (I 2)) | false => (q4 a0 a1 (0 : Int))
def lp36_4 (K : Nat) : Nat → LA → Int → Int → OA
  | 0, _, _, _ => none
  | k + 1, y1, y2, y3 => tr36_4 K (lp36_4 K k) y1 y2 y3
def sh36 (K : Nat) (a0 : LA) (a1 : Int) (a2 : Int) : OA := tr36 K (lp36_4 K K) a0 a1 a2
def fr36_4 (y1 : LA) (y2 : Int) (y3 : Int) : Fr := { slots := (.sl 3 y1, .uni .lent) :: (I y2, .uni .ro) :: gap 5 ((I y3, .uni .ro) :: gap 18 []), boxes := [] }
theorem st36_4 (K : Nat) (k : Nat) (y1 : LA) (y2 : Int) (y3 : Int) : mlp 36 Tryd.f36 K 4 (fun i_ => fun _ => none) (k + 1) (fr36_4 y1 y2 y3) = tr36_4 K (fun y1 y2 y3 => mlp 36 Tryd.f36 K 4 (fun i_ => fun _ => none) k (fr36_4 y1 y2 y3)) y1 y2 y3 := by kernel_rfl
theorem lq36_4 (K : Nat) : ∀ (k : Nat) (y1 : LA) (y2 : Int) (y3 : Int), mlp 36 Tryd.f36 K 4 (fun i_ => fun _ => none) k (fr36_4 y1 y2 y3) = lp36_4 K k y1 y2 y3
  | 0, _, _, _ => rfl
  | k + 1, y1, y2, y3 => by
    rw [st36_4]
    have ih := lq36_4 K k
    try simp only [ih]
    try rfl
theorem eq36 (K : Nat) (a0 : LA) (a1 : Int) (a2 : Int) : run tab (K + 1) 36 [.sl 3 a0, I a1, I a2] = sh36 K a0 a1 a2 := by
  have h : run tab (K + 1) 36 [.sl 3 a0, I a1, I a2] = tr36 K (fun y1 y2 y3 => mlp 36 Tryd.f36 K 4 (fun i_ => fun _ => none) K (fr36_4 y1 y2 y3)) a0 a1 a2 := by kernel_rfl
  rw [h]
  simp only [lq36_4]
  rfl

/-! ### examiner/examinerref37.Run: function 37 -/
def tr37_4 (K : Nat) (q4 : LA → LA → LA → Int → Int → Int → LA → Int → LA → LA → OA) (y1 : LA) (y2 : LA) (y3 : LA) (y4 : Int) (y5 : Int) (y6 : Int) (y7 : LA) (y8 : Int) (y9 : LA) (y10 : LA) : OA :=
  match decide (y4 < (y1.length : Int)) with | true => (if 0 ≤ y4 then (match y1[y4.toNat]? with | some x750 => (castI .i64 x750 fun n751 => match run tab K 30 [.agg [I y5, I y6, .sl 3 y7, I y8, .sl 105 y9, .sl 103 y10], .sl 3 y2, I n751] with | some r752 => (castL 3 (compN r752 0) fun l753 => castI .i64 (compN r752 1) fun n754 => castI .i64 (compN r752 2) fun n755 => match (n755 != (0 : Int)) with | true => (some (.tup [.sl 3 y3, I n755])) | false => (if (y3.length + ([I n754] : LA).length) * 8 ≤ maxBytes then (q4 y1 l753 (y3 ++ ([I n754] : LA)) (IntKind.i64.wrap (y4 + 1)) y5 y6 y7 y8 y9 y10) else none)) | none => none) | none => none) else none) | false => (some (.tup [.sl 3 y3, I 0]))
def tr37 (K : Nat) (q4 : LA → LA → LA → Int → Int → Int → LA → Int → LA → LA → OA) (a0_0 : Int) (a0_1 : Int) (a0_2 : LA) (a0_3 : Int) (a0_4 : LA) (a0_5 : LA) (a1 : LA) : OA :=
  match run tab K 55 [.agg [I a0_0, I a0_1, .sl 3 a0_2, I a0_3, .sl 105 a0_4, .sl 103 a0_5]] with | some r748 => (castL 3 r748 fun l749 => q4 a1 l749 ([] : LA) (0 : Int) a0_0 a0_1 a0_2 a0_3 a0_4 a0_5) | none => none
def lp37_4 (K : Nat) : Nat → LA → LA → LA → Int → Int → Int → LA → Int → LA → LA → OA
  | 0, _, _, _, _, _, _, _, _, _, _ => none
  | k + 1, y1, y2, y3, y4, y5, y6, y7, y8, y9, y10 => tr37_4 K (lp37_4 K k) y1 y2 y3 y4 y5 y6 y7 y8 y9 y10
def sh37 (K : Nat) (a0_0 : Int) (a0_1 : Int) (a0_2 : LA) (a0_3 : Int) (a0_4 : LA) (a0_5 : LA) (a1 : LA) : OA := tr37 K (lp37_4 K K) a0_0 a0_1 a0_2 a0_3 a0_4 a0_5 a1
def fr37_4 (y1 : LA) (y2 : LA) (y3 : LA) (y4 : Int) (y5 : Int) (y6 : Int) (y7 : LA) (y8 : Int) (y9 : LA) (y10 : LA) : Fr := { slots := gap 1 ((.sl 3 y1, .uni .lent) :: (.undef, .loc 2 0) :: gap 3 ((.sl 3 y2, .uni .own) :: (.sl 3 y3, .uni .own) :: (I y4, .uni .ro) :: gap 32 [])), boxes := [(2, [(I y5, .ro), (I y6, .ro), (.sl 3 y7, .lent), (I y8, .ro), (.sl 105 y9, .lent), (.sl 103 y10, .lent)])] }
theorem st37_4 (K : Nat) (k : Nat) (y1 : LA) (y2 : LA) (y3 : LA) (y4 : Int) (y5 : Int) (y6 : Int) (y7 : LA) (y8 : Int) (y9 : LA) (y10 : LA) : mlp 37 Tryd.f37 K 4 (fun i_ => fun _ => none) (k + 1) (fr37_4 y1 y2 y3 y4 y5 y6 y7 y8 y9 y10) = tr37_4 K (fun y1 y2 y3 y4 y5 y6 y7 y8 y9 y10 => mlp 37 Tryd.f37 K 4 (fun i_ => fun _ => none) k (fr37_4 y1 y2 y3 y4 y5 y6 y7 y8 y9 y10)) y1 y2 y3 y4 y5 y6 y7 y8 y9 y10 := by kernel_rfl
theorem lq37_4 (K : Nat) : ∀ (k : Nat) (y1 : LA) (y2 : LA) (y3 : LA) (y4 : Int) (y5 : Int) (y6 : Int) (y7 : LA) (y8 : Int) (y9 : LA) (y10 : LA), mlp 37 Tryd.f37 K 4 (fun i_ => fun _ => none) k (fr37_4 y1 y2 y3 y4 y5 y6 y7 y8 y9 y10) = lp37_4 K k y1 y2 y3 y4 y5 y6 y7 y8 y9 y10
  | 0, _, _, _, _, _, _, _, _, _, _ => rfl
  | k + 1, y1, y2, y3, y4, y5, y6, y7, y8, y9, y10 => by
    rw [st37_4]
    have ih := lq37_4 K k
    try simp only [ih]
    try rfl
theorem eq37 (K : Nat) (a0_0 : Int) (a0_1 : Int) (a0_2 : LA) (a0_3 : Int) (a0_4 : LA) (a0_5 : LA) (a1 : LA) : run tab (K + 1) 37 [.agg [I a0_0, I a0_1, .sl 3 a0_2, I a0_3, .sl 105 a0_4, .sl 103 a0_5], .sl 3 a1] = sh37 K a0_0 a0_1 a0_2 a0_3 a0_4 a0_5 a1 := by
  have h : run tab (K + 1) 37 [.agg [I a0_0, I a0_1, .sl 3 a0_2, I a0_3, .sl 105 a0_4, .sl 103 a0_5], .sl 3 a1] = tr37 K (fun y1 y2 y3 y4 y5 y6 y7 y8 y9 y10 => mlp 37 Tryd.f37 K 4 (fun i_ => fun _ => none) K (fr37_4 y1 y2 y3 y4 y5 y6 y7 y8 y9 y10)) a0_0 a0_1 a0_2 a0_3 a0_4 a0_5 a1 := by kernel_rfl
  rw [h]
  simp only [lq37_4]
  rfl

/-! ### examiner/model.Difference: function 38 -/
def tr38_11 (K : Nat) (q7 : LA → LA → LA → LA → Int → Int → Int → Int → Int → LA → OA) (q11 : LA → LA → LA → LA → Int → Int → Int → Int → Int → Int → Int → LA → Int → Int → OA) (y1 : LA) (y2 : LA) (y3 : LA) (y4 : LA) (y5 : Int) (y6 : Int) (y7 : Int) (y8 : Int) (y9 : Int) (y10 : Int) (y11 : Int) (y12 : LA) (y13 : Int) (y14 : Int) : OA :=
  match decide (y7 < y6) with | true => (if 0 ≤ y5 then (match y4[y5.toNat]? with | some x771 => (castL 3 x771 fun l772 => match run tab K 70 [.sl 3 l772] with | some r773 => (castL 3 r773 fun l774 => if (l774.length + ([I y7] : LA).length) * 8 ≤ maxBytes then (if 0 ≤ y13 then (match y1[y13.toNat]? with | some x775 => (castL 122 x775 fun l776 => if 0 ≤ y7 then (match l776[y7.toNat]? with | some x777 => (castP x777 fun q778 => if 0 ≤ y14 then (match y2[y14.toNat]? with | some x779 => (castL 122 x779 fun l780 => if 0 ≤ y7 then (match l780[y7.toNat]? with | some x781 => (castP x781 fun q782 => castNil q778 fun b783 => match b783 with | true => (castNil q782 fun b784 => match b784 with | true => (q11 y1 y2 y3 y4 y5 y6 (IntKind.i64.wrap (y7 + 1)) y8 y9 y10 y11 y12 y13 y14) | false => (castNil q778 fun b785 => match b785 with | true => (some (.tup [.sl 3 (l774 ++ ([I y7] : LA)), I 0])) | false => (castNil q782 fun b786 => match b786 with | true => (some (.tup [.sl 3 (l774 ++ ([I y7] : LA)), I 0])) | false => (castRef q778 fun p787 => castRef (.ref p787) fun p788 => castI .i64 (p788.getD 2 .undef) fun n789 => castRef q782 fun p790 => castRef (.ref p790) fun p791 => castI .i64 (p791.getD 2 .undef) fun n792 => match (n789 != n792) with | true => (some (.tup [.sl 3 (l774 ++ ([I y7] : LA)), I 0])) | false => (castRef q778 fun p793 => castRef (.ref p793) fun p794 => castI .i64 (p794.getD 3 .undef) fun n795 => castRef q782 fun p796 => castRef (.ref p796) fun p797 => castI .i64 (p797.getD 3 .undef) fun n798 => match run tab K 71 [.sl 52 y3, .agg [I n795, I n798]] with | some r799 => (castB r799 fun b800 => match (!b800) with | true => (if (y3.length + ([.agg [I n795, I n798]] : LA).length) * 16 ≤ maxBytes then (if (y4.length + ([.sl 3 (l774 ++ ([I y7] : LA))] : LA).length) * 24 ≤ maxBytes then (q11 y1 y2 (y3 ++ ([.agg [I n795, I n798]] : LA)) (y4 ++ ([.sl 3 (l774 ++ ([I y7] : LA))] : LA)) y5 y6 (IntKind.i64.wrap (y7 + 1)) y8 y9 y10 y11 y12 y13 y14) else none) else none) | false => (q11 y1 y2 y3 y4 y5 y6 (IntKind.i64.wrap (y7 + 1)) y8 y9 y10 y11 y12 y13 y14)) | none => none))))) | false => (castNil q778 fun b801 => match b801 with | true => (some (.tup [.sl 3 (l774 ++ ([I y7] : LA)), I 0])) | false => (castNil q782 fun b802 => match b802 with | true => (some (.tup [.sl 3 (l774 ++ ([I y7] : LA)), I 0])) | false => (castRef q778 fun p803 => castRef (.ref p803) fun p804 => castI .i64 (p804.getD 2 .undef) fun n805 => castRef q782 fun p806 => castRef (.ref p806) fun p807 => castI .i64 (p807.getD 2 .undef) fun n808 => match (n805 != n808) with | true => (some (.tup [.sl 3 (l774 ++ ([I y7] : LA)), I 0])) | false => (castRef q778 fun p809 => castRef (.ref p809) fun p810 => castI .i64 (p810.getD 3 .undef) fun n811 => castRef q782 fun p812 => castRef (.ref p812) fun p813 => castI .i64 (p813.getD 3 .undef) fun n814 => match run tab K 71 [.sl 52 y3, .agg [I n811, I n814]] with | some r815 => (castB r815 fun b816 => match (!b816) with | true => (if (y3.length + ([.agg [I n811, I n814]] : LA).length) * 16 ≤ maxBytes then (if (y4.length + ([.sl 3 (l774 ++ ([I y7] : LA))] : LA).length) * 24 ≤ maxBytes then (q11 y1 y2 (y3 ++ ([.agg [I n811, I n814]] : LA)) (y4 ++ ([.sl 3 (l774 ++ ([I y7] : LA))] : LA)) y5 y6 (IntKind.i64.wrap (y7 + 1)) y8 y9 y10 y11 y12 y13 y14) else none) else none) | false => (q11 y1 y2 y3 y4 y5 y6 (IntKind.i64.wrap (y7 + 1)) y8 y9 y10 y11 y12 y13 y14)) | none => none))))) | none => none) else none) | none => none) else none) | none => none) else none) | none => none) else none) else none) | none => none) | none => none) else none) | false => (q7 y1 y2 y3 y4 (IntKind.i64.wrap (y5 + 1)) y8 y9 y10 y11 y12)
def tr38_7 (K : Nat) (q11 : LA → LA → LA → LA → Int → Int → Int → Int → Int → Int → Int → LA → Int → Int → OA) (y1 : LA) (y2 : LA) (y3 : LA) (y4 : LA) (y5 : Int) (y6 : Int) (y7 : Int) (y8 : Int) (y9 : Int) (y10 : LA) : OA :=
  match decide (y5 < (y3.length : Int)) with | true => (if 0 ≤ y5 then (match y3[y5.toNat]? with | some x768 => (castI .i64 (cellN x768 0) fun n769 => castI .i64 (cellN x768 1) fun n770 => q11 y1 y2 y3 y4 y5 y7 (0 : Int) y6 y7 y8 y9 y10 n769 n770) | none => none) else none) | false => (some (.tup [.sl 3 [], I 23]))
def tr38 (K : Nat) (q7 : LA → LA → LA → LA → Int → Int → Int → Int → Int → LA → OA) (a0_0 : Int) (a0_1 : Int) (a0_2 : Int) (a0_3 : Int) (a0_4 : LA) (a1_0 : Int) (a1_1 : Int) (a1_2 : Int) (a1_3 : Int) (a1_4 : LA) : OA :=
  match run tab K 66 [.agg [I a0_0, I a0_1, I a0_2, I a0_3, .sl 97 a0_4]] with | some r756 => (castI .i64 r756 fun n757 => match run tab K 66 [.agg [I a1_0, I a1_1, I a1_2, I a1_3, .sl 97 a1_4]] with | some r758 => (castI .i64 r758 fun n759 => match run tab K 62 [B (a0_1 == a1_1), I 6] with | some r760 => (castI .i64 r760 fun n761 => match run tab K 61 [.sl 32 [I n757, I n759, I n761]] with | some r762 => (castI .i64 r762 fun n763 => match (n763 != (0 : Int)) with | true => (some (.tup [.sl 3 [], I n763])) | false => (match run tab K 67 [.agg [I a0_0, I a0_1, I a0_2, I a0_3, .sl 97 a0_4]] with | some r764 => (castL 121 r764 fun l765 => match run tab K 67 [.agg [I a1_0, I a1_1, I a1_2, I a1_3, .sl 97 a1_4]] with | some r766 => (castL 121 r766 fun l767 => q7 l765 l767 ([.agg [I a0_3, I a1_3]] : LA) ([.sl 3 []] : LA) (0 : Int) a0_0 a0_1 a0_2 a0_3 a0_4) | none => none) | none => none)) | none => none) | none => none) | none => none) | none => none
def lp38_11 (K : Nat) (q7 : LA → LA → LA → LA → Int → Int → Int → Int → Int → LA → OA) : Nat → LA → LA → LA → LA → Int → Int → Int → Int → Int → Int → Int → LA → Int → Int → OA
  | 0, _, _, _, _, _, _, _, _, _, _, _, _, _, _ => none
  | k + 1, y1, y2, y3, y4, y5, y6, y7, y8, y9, y10, y11, y12, y13, y14 => tr38_11 K q7 (lp38_11 K q7 k) y1 y2 y3 y4 y5 y6 y7 y8 y9 y10 y11 y12 y13 y14
def lp38_7 (K : Nat) : Nat → LA → LA → LA → LA → Int → Int → Int → Int → Int → LA → OA
  | 0, _, _, _, _, _, _, _, _, _, _ => none
  | k + 1, y1, y2, y3, y4, y5, y6, y7, y8, y9, y10 => tr38_7 K (lp38_11 K (lp38_7 K k) K) y1 y2 y3 y4 y5 y6 y7 y8 y9 y10
def sh38 (K : Nat) (a0_0 : Int) (a0_1 : Int) (a0_2 : Int) (a0_3 : Int) (a0_4 : LA) (a1_0 : Int) (a1_1 : Int) (a1_2 : Int) (a1_3 : Int) (a1_4 : LA) : OA := tr38 K (lp38_7 K K) a0_0 a0_1 a0_2 a0_3 a0_4 a1_0 a1_1 a1_2 a1_3 a1_4
def fr38_11 (y1 : LA) (y2 : LA) (y3 : LA) (y4 : LA) (y5 : Int) (y6 : Int) (y7 : Int) (y8 : Int) (y9 : Int) (y10 : Int) (y11 : Int) (y12 : LA) (y13 : Int) (y14 : Int) : Fr := { slots := gap 2 ((.undef, .loc 2 0) :: gap 4 ((.sl 121 y1, .uni .ro) :: (.sl 121 y2, .uni .ro) :: (.sl 52 y3, .uni .own) :: (.sl 22 y4, .uni .own) :: (I y5, .uni .ro) :: (.undef, .loc 12 0) :: gap 42 ((I y6, .uni .ro) :: (I y7, .uni .ro) :: gap 72 []))), boxes := [(2, [(I y8, .ro), (I y9, .ro), (I y10, .ro), (I y11, .ro), (.sl 97 y12, .lent)]), (12, [(I y13, .ro), (I y14, .ro)])] }
def fr38_7 (y1 : LA) (y2 : LA) (y3 : LA) (y4 : LA) (y5 : Int) (y6 : Int) (y7 : Int) (y8 : Int) (y9 : Int) (y10 : LA) : Fr := { slots := gap 2 ((.undef, .loc 2 0) :: gap 4 ((.sl 121 y1, .uni .ro) :: (.sl 121 y2, .uni .ro) :: (.sl 52 y3, .uni .own) :: (.sl 22 y4, .uni .own) :: (I y5, .uni .ro) :: gap 117 [])), boxes := [(2, [(I y6, .ro), (I y7, .ro), (I y8, .ro), (I y9, .ro), (.sl 97 y10, .lent)])] }
theorem st38_11 (K : Nat) (RO7 : Fr → OA) (k : Nat) (y1 : LA) (y2 : LA) (y3 : LA) (y4 : LA) (y5 : Int) (y6 : Int) (y7 : Int) (y8 : Int) (y9 : Int) (y10 : Int) (y11 : Int) (y12 : LA) (y13 : Int) (y14 : Int) : mlp 38 Tryd.f38 K 11 (fun i_ => if i_ = 7 then RO7 else fun _ => none) (k + 1) (fr38_11 y1 y2 y3 y4 y5 y6 y7 y8 y9 y10 y11 y12 y13 y14) = tr38_11 K (fun y1 y2 y3 y4 y5 y6 y7 y8 y9 y10 => RO7 (fr38_7 y1 y2 y3 y4 y5 y6 y7 y8 y9 y10)) (fun y1 y2 y3 y4 y5 y6 y7 y8 y9 y10 y11 y12 y13 y14 => mlp 38 Tryd.f38 K 11 (fun i_ => if i_ = 7 then RO7 else fun _ => none) k (fr38_11 y1 y2 y3 y4 y5 y6 y7 y8 y9 y10 y11 y12 y13 y14)) y1 y2 y3 y4 y5 y6 y7 y8 y9 y10 y11 y12 y13 y14 := by kernel_rfl
theorem lq38_11 (K : Nat) (RO7 : Fr → OA) : ∀ (k : Nat) (y1 : LA) (y2 : LA) (y3 : LA) (y4 : LA) (y5 : Int) (y6 : Int) (y7 : Int) (y8 : Int) (y9 : Int) (y10 : Int) (y11 : Int) (y12 : LA) (y13 : Int) (y14 : Int), mlp 38 Tryd.f38 K 11 (fun i_ => if i_ = 7 then RO7 else fun _ => none) k (fr38_11 y1 y2 y3 y4 y5 y6 y7 y8 y9 y10 y11 y12 y13 y14) = lp38_11 K (fun y1 y2 y3 y4 y5 y6 y7 y8 y9 y10 => RO7 (fr38_7 y1 y2 y3 y4 y5 y6 y7 y8 y9 y10)) k y1 y2 y3 y4 y5 y6 y7 y8 y9 y10 y11 y12 y13 y14
  | 0, _, _, _, _, _, _, _, _, _, _, _, _, _, _ => rfl
  | k + 1, y1, y2, y3, y4, y5, y6, y7, y8, y9, y10, y11, y12, y13, y14 => by
    rw [st38_11]
    have ih := lq38_11 K RO7 k
    try simp only [ih]
    try rfl
theorem st38_7 (K : Nat) (k : Nat) (y1 : LA) (y2 : LA) (y3 : LA) (y4 : LA) (y5 : Int) (y6 : Int) (y7 : Int) (y8 : Int) (y9 : Int) (y10 : LA) : mlp 38 Tryd.f38 K 7 (fun i_ => fun _ => none) (k + 1) (fr38_7 y1 y2 y3 y4 y5 y6 y7 y8 y9 y10) = tr38_7 K (fun y1 y2 y3 y4 y5 y6 y7 y8 y9 y10 y11 y12 y13 y14 => mlp 38 Tryd.f38 K 11 (fun i_ => if i_ = 7 then (fun fr_ => mlp 38 Tryd.f38 K 7 (fun i_ => fun _ => none) k fr_) else fun _ => none) K (fr38_11 y1 y2 y3 y4 y5 y6 y7 y8 y9 y10 y11 y12 y13 y14)) y1 y2 y3 y4 y5 y6 y7 y8 y9 y10 := by kernel_rfl
theorem lq38_7 (K : Nat) : ∀ (k : Nat) (y1 : LA) (y2 : LA) (y3 : LA) (y4 : LA) (y5 : Int) (y6 : Int) (y7 : Int) (y8 : Int) (y9 : Int) (y10 : LA), mlp 38 Tryd.f38 K 7 (fun i_ => fun _ => none) k (fr38_7 y1 y2 y3 y4 y5 y6 y7 y8 y9 y10) = lp38_7 K k y1 y2 y3 y4 y5 y6 y7 y8 y9 y10
  | 0, _, _, _, _, _, _, _, _, _, _ => rfl
  | k + 1, y1, y2, y3, y4, y5, y6, y7, y8, y9, y10 => by
    rw [st38_7]
    have ih := lq38_7 K k
    have ih11 := lq38_11 K (fun fr_ => mlp 38 Tryd.f38 K 7 (fun i_ => fun _ => none) k fr_) K
    try simp only [ih, ih11]
    try rfl
theorem eq38 (K : Nat) (a0_0 : Int) (a0_1 : Int) (a0_2 : Int) (a0_3 : Int) (a0_4 : LA) (a1_0 : Int) (a1_1 : Int) (a1_2 : Int) (a1_3 : Int) (a1_4 : LA) : run tab (K + 1) 38 [.agg [I a0_0, I a0_1, I a0_2, I a0_3, .sl 97 a0_4], .agg [I a1_0, I a1_1, I a1_2, I a1_3, .sl 97 a1_4]] = sh38 K a0_0 a0_1 a0_2 a0_3 a0_4 a1_0 a1_1 a1_2 a1_3 a1_4 := by
  have h : run tab (K + 1) 38 [.agg [I a0_0, I a0_1, I a0_2, I a0_3, .sl 97 a0_4], .agg [I a1_0, I a1_1, I a1_2, I a1_3, .sl 97 a1_4]] = tr38 K (fun y1 y2 y3 y4 y5 y6 y7 y8 y9 y10 => mlp 38 Tryd.f38 K 7 (fun i_ => fun _ => none) K (fr38_7 y1 y2 y3 y4 y5 y6 y7 y8 y9 y10)) a0_0 a0_1 a0_2 a0_3 a0_4 a1_0 a1_1 a1_2 a1_3 a1_4 := by kernel_rfl
  rw [h]
  simp only [lq38_7]
  rfl

/-! ### examiner/examinerref37.Differ: function 39 -/
def tr39 (K : Nat) (a0_0 : Int) (a0_1 : Int) (a0_2 : Int) (a0_3 : Int) (a0_4 : LA) (a1_0 : Int) (a1_1 : Int) (a1_2 : Int) (a1_3 : Int) (a1_4 : LA) (a2 : Int) (a3 : Int) : OA :=
  match run tab K 72 [.agg [I a0_0, I a0_1, I a0_2, I a0_3, .sl 97 a0_4], .agg [I a1_0, I a1_1, I a1_2, I a1_3, .sl 97 a1_4], .agg [I a2, I a3, .sl 3 []]] with | some r817 => (castL 3 (compN r817 0) fun l818 => castB (compN r817 1) fun b819 => castL 130 (compN r817 2) fun l820 => some (.tup [.sl 3 l818, B b819])) | none => none
def sh39 (K : Nat) (a0_0 : Int) (a0_1 : Int) (a0_2 : Int) (a0_3 : Int) (a0_4 : LA) (a1_0 : Int) (a1_1 : Int) (a1_2 : Int) (a1_3 : Int) (a1_4 : LA) (a2 : Int) (a3 : Int) : OA := tr39 K a0_0 a0_1 a0_2 a0_3 a0_4 a1_0 a1_1 a1_2 a1_3 a1_4 a2 a3
theorem eq39 (K : Nat) (a0_0 : Int) (a0_1 : Int) (a0_2 : Int) (a0_3 : Int) (a0_4 : LA) (a1_0 : Int) (a1_1 : Int) (a1_2 : Int) (a1_3 : Int) (a1_4 : LA) (a2 : Int) (a3 : Int) : run tab (K + 1) 39 [.agg [I a0_0, I a0_1, I a0_2, I a0_3, .sl 97 a0_4], .agg [I a1_0, I a1_1, I a1_2, I a1_3, .sl 97 a1_4], I a2, I a3] = sh39 K a0_0 a0_1 a0_2 a0_3 a0_4 a1_0 a1_1 a1_2 a1_3 a1_4 a2 a3 := by kernel_rfl

/-! ### examiner/model.AnswerOf: function 40 -/
def tr40_7 (K : Nat) (q7 : Int → LA → LA → LA → LA → Int → Int → OA) (y1 : Int) (y2 : LA) (y3 : LA) (y4 : LA) (y5 : LA) (y6 : Int) (y7 : Int) : OA :=
  match decide (y7 < y6) with | true => (if 0 ≤ y7 then (match y5[y7.toNat]? with | some x833 => (castI .i64 x833 fun n834 => if 0 ≤ y1 then (match y2[y1.toNat]? with | some x835 => (castL 122 x835 fun l836 => if 0 ≤ n834 then (match l836[n834.toNat]? with | some x837 => (castP x837 fun q838 => castNil q838 fun b839 => match b839 with | true => (some (.tup [.sl 3 y3, .sl 3 y4, I 0])) | false => (castRef q838 fun p840 => castRef (.ref p840) fun p841 => castI .i64 (p841.getD 3 .undef) fun n842 => castRef q838 fun p843 => castRef (.ref p843) fun p844 => castI .i64 (p844.getD 2 .undef) fun n845 => if (y3.length + ([I n845] : LA).length) * 8 ≤ maxBytes then (if (y4.length + ([I n842] : LA).length) * 8 ≤ maxBytes then (q7 n842 y2 (y3 ++ ([I n845] : LA)) (y4 ++ ([I n842] : LA)) y5 y6 (IntKind.i64.wrap (y7 + 1))) else none) else none)) | none => none) else none) | none => none) else none) | none => none) else none) | false => (some (.tup [.sl 3 y3, .sl 3 y4, I 0]))
def tr40 (K : Nat) (q7 : Int → LA → LA → LA → LA → Int → Int → OA) (a0_0 : Int) (a0_1 : Int) (a0_2 : Int) (a0_3 : Int) (a0_4 : LA) (a1 : Int) (a2 : LA) : OA :=
  match run tab K 66 [.agg [I a0_0, I a0_1, I a0_2, I a0_3, .sl 97 a0_4]] with | some r821 => (castI .i64 r821 fun n822 => match run tab K 57 [I a1, I 0, I (IntKind.i64.wrap (a0_0 - 1))] with | some r823 => (castB r823 fun b824 => match run tab K 62 [B b824, I 3] with | some r825 => (castI .i64 r825 fun n826 => match run tab K 69 [.sl 3 a2, I a0_1] with | some r827 => (castI .i64 r827 fun n828 => match run tab K 61 [.sl 32 [I n822, I n826, I n828]] with | some r829 => (castI .i64 r829 fun n830 => match (n830 != (0 : Int)) with | true => (some (.tup [.sl 3 [], .sl 3 [], I n830])) | false => (match run tab K 67 [.agg [I a0_0, I a0_1, I a0_2, I a0_3, .sl 97 a0_4]] with | some r831 => (castL 121 r831 fun l832 => q7 a1 l832 ([] : LA) ([] : LA) a2 (a2.length : Int) (0 : Int)) | none => none)) | none => none) | none => none) | none => none) | none => none) | none => none
def lp40_7 (K : Nat) : Nat → Int → LA → LA → LA → LA → Int → Int → OA
  | 0, _, _, _, _, _, _, _ => none
  | k + 1, y1, y2, y3, y4, y5, y6, y7 => tr40_7 K (lp40_7 K k) y1 y2 y3 y4 y5 y6 y7
def sh40 (K : Nat) (a0_0 : Int) (a0_1 : Int) (a0_2 : Int) (a0_3 : Int) (a0_4 : LA) (a1 : Int) (a2 : LA) : OA := tr40 K (lp40_7 K K) a0_0 a0_1 a0_2 a0_3 a0_4 a1 a2
def fr40_7 (y1 : Int) (y2 : LA) (y3 : LA) (y4 : LA) (y5 : LA) (y6 : Int) (y7 : Int) : Fr := { slots := gap 1 ((I y1, .uni .ro) :: gap 8 ((.sl 121 y2, .uni .ro) :: (.sl 3 y3, .uni .own) :: (.sl 3 y4, .uni .own) :: gap 22 ((.sl 3 y5, .uni .lent) :: (I y6, .uni .ro) :: (I y7, .uni .ro) :: gap 30 []))), boxes := [] }
theorem st40_7 (K : Nat) (k : Nat) (y1 : Int) (y2 : LA) (y3 : LA) (y4 : LA) (y5 : LA) (y6 : Int) (y7 : Int) : mlp 40 Tryd.f40 K 7 (fun i_ => fun _ => none) (k + 1) (fr40_7 y1 y2 y3 y4 y5 y6 y7) = tr40_7 K (fun y1 y2 y3 y4 y5 y6 y7 => mlp 40 Tryd.f40 K 7 (fun i_ => fun _ => none) k (fr40_7 y1 y2 y3 y4 y5 y6 y7)) y1 y2 y3 y4 y5 y6 y7 := by kernel_rfl
theorem lq40_7 (K : Nat) : ∀ (k : Nat) (y1 : Int) (y2 : LA) (y3 : LA) (y4 : LA) (y5 : LA) (y6 : Int) (y7 : Int), mlp 40 Tryd.f40 K 7 (fun i_ => fun _ => none) k (fr40_7 y1 y2 y3 y4 y5 y6 y7) = lp40_7 K k y1 y2 y3 y4 y5 y6 y7
  | 0, _, _, _, _, _, _, _ => rfl
  | k + 1, y1, y2, y3, y4, y5, y6, y7 => by
    rw [st40_7]
    have ih := lq40_7 K k
    try simp only [ih]
    try rfl
theorem eq40 (K : Nat) (a0_0 : Int) (a0_1 : Int) (a0_2 : Int) (a0_3 : Int) (a0_4 : LA) (a1 : Int) (a2 : LA) : run tab (K + 1) 40 [.agg [I a0_0, I a0_1, I a0_2, I a0_3, .sl 97 a0_4], I a1, .sl 3 a2] = sh40 K a0_0 a0_1 a0_2 a0_3 a0_4 a1 a2 := by
  have h : run tab (K + 1) 40 [.agg [I a0_0, I a0_1, I a0_2, I a0_3, .sl 97 a0_4], I a1, .sl 3 a2] = tr40 K (fun y1 y2 y3 y4 y5 y6 y7 => mlp 40 Tryd.f40 K 7 (fun i_ => fun _ => none) K (fr40_7 y1 y2 y3 y4 y5 y6 y7)) a0_0 a0_1 a0_2 a0_3 a0_4 a1 a2 := by kernel_rfl
  rw [h]
  simp only [lq40_7]
  rfl

/-! ### examiner/examinerref37.Answer: function 43 -/
def tr43_4 (K : Nat) (q4 : LA → LA → LA → Int → Int → Int → Int → Int → LA → OA) (y1 : LA) (y2 : LA) (y3 : LA) (y4 : Int) (y5 : Int) (y6 : Int) (y7 : Int) (y8 : Int) (y9 : LA) : OA :=
  match decide (y4 < (y3.length : Int)) with | true => (if 0 ≤ y4 then (match y3[y4.toNat]? with | some x848 => (castI .i64 x848 fun n849 => if 0 ≤ n849 then (match y9[n849.toNat]? with | some x850 => (castI .i64 (cellN x850 2) fun n851 => if 0 ≤ y4 then (match y3[y4.toNat]? with | some x852 => (castI .i64 x852 fun n853 => if 0 ≤ n853 then (match y9[n853.toNat]? with | some x854 => (castI .i64 (cellN x854 3) fun n855 => if (y1.length + ([I n851] : LA).length) * 8 ≤ maxBytes then (if (y2.length + ([I n855] : LA).length) * 8 ≤ maxBytes then (q4 (y1 ++ ([I n851] : LA)) (y2 ++ ([I n855] : LA)) y3 (IntKind.i64.wrap (y4 + 1)) y5 y6 y7 y8 y9) else none) else none) | none => none) else none) | none => none) else none) | none => none) else none) | none => none) else none) | false => (some (.tup [.sl 3 y1, .sl 3 y2]))
def tr43 (K : Nat) (q4 : LA → LA → LA → Int → Int → Int → Int → Int → LA → OA) (a0_0 : Int) (a0_1 : Int) (a0_2 : Int) (a0_3 : Int) (a0_4 : LA) (a1 : Int) (a2 : LA) : OA :=
  match run tab K 77 [.agg [I a0_0, I a0_1, I a0_2, I a0_3, .sl 97 a0_4], I a1, .sl 3 a2] with | some r846 => (castL 3 r846 fun l847 => q4 ([] : LA) ([] : LA) l847 (0 : Int) a0_0 a0_1 a0_2 a0_3 a0_4) | none => none
def lp43_4 (K : Nat) : Nat → LA → LA → LA → Int → Int → Int → Int → Int → LA → OA
  | 0, _, _, _, _, _, _, _, _, _ => none
  | k + 1, y1, y2, y3, y4, y5, y6, y7, y8, y9 => tr43_4 K (lp43_4 K k) y1 y2 y3 y4 y5 y6 y7 y8 y9
def sh43 (K : Nat) (a0_0 : Int) (a0_1 : Int) (a0_2 : Int) (a0_3 : Int) (a0_4 : LA) (a1 : Int) (a2 : LA) : OA := tr43 K (lp43_4 K K) a0_0 a0_1 a0_2 a0_3 a0_4 a1 a2
def fr43_4 (y1 : LA) (y2 : LA) (y3 : LA) (y4 : Int) (y5 : Int) (y6 : Int) (y7 : Int) (y8 : Int) (y9 : LA) : Fr := { slots := gap 3 ((.undef, .loc 3 0) :: gap 4 ((.sl 3 y1, .uni .own) :: (.sl 3 y2, .uni .own) :: (.sl 3 y3, .uni .own) :: (I y4, .uni .ro) :: gap 36 [])), boxes := [(3, [(I y5, .ro), (I y6, .ro), (I y7, .ro), (I y8, .ro), (.sl 97 y9, .lent)])] }
theorem st43_4 (K : Nat) (k : Nat) (y1 : LA) (y2 : LA) (y3 : LA) (y4 : Int) (y5 : Int) (y6 : Int) (y7 : Int) (y8 : Int) (y9 : LA) : mlp 43 Tryd.f43 K 4 (fun i_ => fun _ => none) (k + 1) (fr43_4 y1 y2 y3 y4 y5 y6 y7 y8 y9) = tr43_4 K (fun y1 y2 y3 y4 y5 y6 y7 y8 y9 => mlp 43 Tryd.f43 K 4 (fun i_ => fun _ => none) k (fr43_4 y1 y2 y3 y4 y5 y6 y7 y8 y9)) y1 y2 y3 y4 y5 y6 y7 y8 y9 := by kernel_rfl
theorem lq43_4 (K : Nat) : ∀ (k : Nat) (y1 : LA) (y2 : LA) (y3 : LA) (y4 : Int) (y5 : Int) (y6 : Int) (y7 : Int) (y8 : Int) (y9 : LA), mlp 43 Tryd.f43 K 4 (fun i_ => fun _ => none) k (fr43_4 y1 y2 y3 y4 y5 y6 y7 y8 y9) = lp43_4 K k y1 y2 y3 y4 y5 y6 y7 y8 y9
  | 0, _, _, _, _, _, _, _, _, _ => rfl
  | k + 1, y1, y2, y3, y4, y5, y6, y7, y8, y9 => by
    rw [st43_4]
    have ih := lq43_4 K k
    try simp only [ih]
    try rfl
theorem eq43 (K : Nat) (a0_0 : Int) (a0_1 : Int) (a0_2 : Int) (a0_3 : Int) (a0_4 : LA) (a1 : Int) (a2 : LA) : run tab (K + 1) 43 [.agg [I a0_0, I a0_1, I a0_2, I a0_3, .sl 97 a0_4], I a1, .sl 3 a2] = sh43 K a0_0 a0_1 a0_2 a0_3 a0_4 a1 a2 := by
  have h : run tab (K + 1) 43 [.agg [I a0_0, I a0_1, I a0_2, I a0_3, .sl 97 a0_4], I a1, .sl 3 a2] = tr43 K (fun y1 y2 y3 y4 y5 y6 y7 y8 y9 => mlp 43 Tryd.f43 K 4 (fun i_ => fun _ => none) K (fr43_4 y1 y2 y3 y4 y5 y6 y7 y8 y9)) a0_0 a0_1 a0_2 a0_3 a0_4 a1 a2 := by kernel_rfl
  rw [h]
  simp only [lq43_4]
  rfl

/-! ### examiner/model.modelErr: function 47 -/
def tr47 (K : Nat) (a0_0 : Int) (a0_1 : Int) (a0_2 : LA) (a0_3 : Int) (a0_4 : LA) (a0_5 : LA) : OA :=
  match run tab K 23 [.agg [I a0_0, I a0_1, .sl 3 a0_2, I a0_3, .sl 105 a0_4, .sl 103 a0_5]] with | some r856 => (castI .i64 (compN r856 0) fun n857 => castI .i64 (compN r856 1) fun n858 => some (I n858)) | none => none
def sh47 (K : Nat) (a0_0 : Int) (a0_1 : Int) (a0_2 : LA) (a0_3 : Int) (a0_4 : LA) (a0_5 : LA) : OA := tr47 K a0_0 a0_1 a0_2 a0_3 a0_4 a0_5
theorem eq47 (K : Nat) (a0_0 : Int) (a0_1 : Int) (a0_2 : LA) (a0_3 : Int) (a0_4 : LA) (a0_5 : LA) : run tab (K + 1) 47 [.agg [I a0_0, I a0_1, .sl 3 a0_2, I a0_3, .sl 105 a0_4, .sl 103 a0_5]] = sh47 K a0_0 a0_1 a0_2 a0_3 a0_4 a0_5 := by kernel_rfl

/-! ### examiner/model.first: function 49 -/
def tr49_3 (K : Nat) (q3 : LA → LA → Int → Int → OA) (y1 : LA) (y2 : LA) (y3 : Int) (y4 : Int) : OA :=
  match decide (y4 < y3) with | true => (if 0 ≤ y4 then (match y2[y4.toNat]? with | some x859 => (castI .i64 (cellN x859 0) fun n860 => castI .i64 (cellN x859 1) fun n861 => castI .i64 (cellN x859 2) fun n862 => if (y1.length + ([I n862] : LA).length) * 8 ≤ maxBytes then (q3 (y1 ++ ([I n862] : LA)) y2 y3 (IntKind.i64.wrap (y4 + 1))) else none) | none => none) else none) | false => (some (.sl 3 y1))
def tr49 (K : Nat) (q3 : LA → LA → Int → Int → OA) (a0_0 : Int) (a0_1 : Int) (a0_2 : LA) (a0_3 : Int) (a0_4 : LA) (a0_5 : LA) : OA :=
  q3 ([I a0_1] : LA) a0_4 (a0_4.length : Int) (0 : Int)
def lp49_3 (K : Nat) : Nat → LA → LA → Int → Int → OA
  | 0, _, _, _, _ => none
  | k + 1, y1, y2, y3, y4 => tr49_3 K (lp49_3 K k) y1 y2 y3 y4
def sh49 (K : Nat) (a0_0 : Int) (a0_1 : Int) (a0_2 : LA) (a0_3 : Int) (a0_4 : LA) (a0_5 : LA) : OA := tr49 K (lp49_3 K K) a0_0 a0_1 a0_2 a0_3 a0_4 a0_5
def fr49_3 (y1 : LA) (y2 : LA) (y3 : Int) (y4 : Int) : Fr := { slots := gap 3 ((.sl 3 y1, .uni .own) :: gap 6 ((.sl 105 y2, .uni .lent) :: (I y3, .uni .ro) :: (I y4, .uni .ro) :: gap 10 [])), boxes := [] }
theorem st49_3 (K : Nat) (k : Nat) (y1 : LA) (y2 : LA) (y3 : Int) (y4 : Int) : mlp 49 Tryd.f49 K 3 (fun i_ => fun _ => none) (k + 1) (fr49_3 y1 y2 y3 y4) = tr49_3 K (fun y1 y2 y3 y4 => mlp 49 Tryd.f49 K 3 (fun i_ => fun _ => none) k (fr49_3 y1 y2 y3 y4)) y1 y2 y3 y4 := by kernel_rfl
theorem lq49_3 (K : Nat) : ∀ (k : Nat) (y1 : LA) (y2 : LA) (y3 : Int) (y4 : Int), mlp 49 Tryd.f49 K 3 (fun i_ => fun _ => none) k (fr49_3 y1 y2 y3 y4) = lp49_3 K k y1 y2 y3 y4
  | 0, _, _, _, _ => rfl
  | k + 1, y1, y2, y3, y4 => by
    rw [st49_3]
    have ih := lq49_3 K k
    try simp only [ih]
    try rfl
theorem eq49 (K : Nat) (a0_0 : Int) (a0_1 : Int) (a0_2 : LA) (a0_3 : Int) (a0_4 : LA) (a0_5 : LA) : run tab (K + 1) 49 [.agg [I a0_0, I a0_1, .sl 3 a0_2, I a0_3, .sl 105 a0_4, .sl 103 a0_5]] = sh49 K a0_0 a0_1 a0_2 a0_3 a0_4 a0_5 := by
  have h : run tab (K + 1) 49 [.agg [I a0_0, I a0_1, .sl 3 a0_2, I a0_3, .sl 105 a0_4, .sl 103 a0_5]] = tr49 K (fun y1 y2 y3 y4 => mlp 49 Tryd.f49 K 3 (fun i_ => fun _ => none) K (fr49_3 y1 y2 y3 y4)) a0_0 a0_1 a0_2 a0_3 a0_4 a0_5 := by kernel_rfl
  rw [h]
  simp only [lq49_3]
  rfl

/-! ### examiner/model.next: function 50 -/
def tr50_3 (K : Nat) (q3 : LA → LA → LA → Int → Int → Int → Int → LA → Int → LA → LA → Int → Int → LA → Int → OA) (y1 : LA) (y2 : LA) (y3 : LA) (y4 : Int) (y5 : Int) (y6 : Int) (y7 : Int) (y8 : LA) (y9 : Int) (y10 : LA) (y11 : LA) (y12 : Int) (y13 : Int) (y14 : LA) (y15 : Int) : OA :=
  match decide (y5 < y4) with | true => (if 0 ≤ y5 then (match y3[y5.toNat]? with | some x863 => (castI .i64 (cellN x863 0) fun n864 => castI .i64 (cellN x863 1) fun n865 => castI .i64 (cellN x863 2) fun n866 => castL 141 (cellN x863 3) fun l867 => castL 139 (cellN x863 4) fun l868 => castI .i64 (cellN x863 5) fun n869 => castI .i64 (cellN x863 6) fun n870 => match (n866 != y12) with | true => (q3 y1 y2 y3 y4 (IntKind.i64.wrap (y5 + 1)) y6 y7 y8 y9 y10 y11 y12 y13 y14 y15) | false => (match run tab K 82 [.agg [I y6, I y7, .sl 3 y8, I y9, .sl 105 y10, .sl 103 y11], .agg [I n864, I n865, I n866, .sl 141 l867, .sl 139 l868, I n869, I n870], .sl 3 y1, I y13] with | some r871 => (castL 3 (cellN (compN r871 0) 0) fun l872 => castI .i64 (cellN (compN r871 0) 1) fun n873 => castB (compN r871 1) fun b874 => match b874 with | true => (if (y2.length + ([.agg [.sl 3 l872, I n873]] : LA).length) * 32 ≤ maxBytes then (q3 y1 (y2 ++ ([.agg [.sl 3 l872, I n873]] : LA)) y3 y4 (IntKind.i64.wrap (y5 + 1)) y6 y7 y8 y9 y10 y11 y12 y13 y14 y15) else none) | false => (q3 y1 y2 y3 y4 (IntKind.i64.wrap (y5 + 1)) y6 y7 y8 y9 y10 y11 y12 y13 y14 y15)) | none => none)) | none => none) else none) | false => (match ((y2.length : Int) == (0 : Int)) with | true => (some (.tup [.agg [.sl 3 [], I 0], I 23])) | false => (match ((y2.length : Int) == (1 : Int)) with | true => (match y2[0]? with | some x875 => (castL 3 (cellN x875 0) fun l876 => castI .i64 (cellN x875 1) fun n877 => some (.tup [.agg [.sl 3 l876, I n877], I 0])) | none => none) | false => (some (.tup [.agg [.sl 3 [], I 0], I 35]))))
def tr50 (K : Nat) (q3 : LA → LA → LA → Int → Int → Int → Int → LA → Int → LA → LA → Int → Int → LA → Int → OA) (a0_0 : Int) (a0_1 : Int) (a0_2 : LA) (a0_3 : Int) (a0_4 : LA) (a0_5 : LA) (a1 : LA) (a2_0 : Int) (a2_1 : Int) : OA :=
  q3 a1 ([] : LA) a0_5 (a0_5.length : Int) (0 : Int) a0_0 a0_1 a0_2 a0_3 a0_4 a0_5 a2_0 a2_1 ([] : LA) (0 : Int)
def lp50_3 (K : Nat) : Nat → LA → LA → LA → Int → Int → Int → Int → LA → Int → LA → LA → Int → Int → LA → Int → OA
  | 0, _, _, _, _, _, _, _, _, _, _, _, _, _, _, _ => none
  | k + 1, y1, y2, y3, y4, y5, y6, y7, y8, y9, y10, y11, y12, y13, y14, y15 => tr50_3 K (lp50_3 K k) y1 y2 y3 y4 y5 y6 y7 y8 y9 y10 y11 y12 y13 y14 y15
def sh50 (K : Nat) (a0_0 : Int) (a0_1 : Int) (a0_2 : LA) (a0_3 : Int) (a0_4 : LA) (a0_5 : LA) (a1 : LA) (a2_0 : Int) (a2_1 : Int) : OA := tr50 K (lp50_3 K K) a0_0 a0_1 a0_2 a0_3 a0_4 a0_5 a1 a2_0 a2_1
def fr50_3 (y1 : LA) (y2 : LA) (y3 : LA) (y4 : Int) (y5 : Int) (y6 : Int) (y7 : Int) (y8 : LA) (y9 : Int) (y10 : LA) (y11 : LA) (y12 : Int) (y13 : Int) (y14 : LA) (y15 : Int) : Fr := { slots := gap 1 ((.sl 3 y1, .uni .lent) :: gap 1 ((.undef, .loc 3 0) :: gap 1 ((.undef, .loc 5 0) :: (.undef, .loc 6 0) :: gap 1 ((.sl 91 y2, .uni .own) :: gap 5 ((.sl 103 y3, .uni .lent) :: (I y4, .uni .ro) :: (I y5, .uni .ro) :: gap 34 []))))), boxes := [(3, [(I y6, .ro), (I y7, .ro), (.sl 3 y8, .lent), (I y9, .ro), (.sl 105 y10, .lent), (.sl 103 y11, .lent)]), (5, [(I y12, .ro), (I y13, .ro)]), (6, [(.sl 3 y14, .own), (I y15, .ro)])] }
theorem st50_3 (K : Nat) (k : Nat) (y1 : LA) (y2 : LA) (y3 : LA) (y4 : Int) (y5 : Int) (y6 : Int) (y7 : Int) (y8 : LA) (y9 : Int) (y10 : LA) (y11 : LA) (y12 : Int) (y13 : Int) (y14 : LA) (y15 : Int) : mlp 50 Tryd.f50 K 3 (fun i_ => fun _ => none) (k + 1) (fr50_3 y1 y2 y3 y4 y5 y6 y7 y8 y9 y10 y11 y12 y13 y14 y15) = tr50_3 K (fun y1 y2 y3 y4 y5 y6 y7 y8 y9 y10 y11 y12 y13 y14 y15 => mlp 50 Tryd.f50 K 3 (fun i_ => fun _ => none) k (fr50_3 y1 y2 y3 y4 y5 y6 y7 y8 y9 y10 y11 y12 y13 y14 y15)) y1 y2 y3 y4 y5 y6 y7 y8 y9 y10 y11 y12 y13 y14 y15 := by kernel_rfl
theorem lq50_3 (K : Nat) : ∀ (k : Nat) (y1 : LA) (y2 : LA) (y3 : LA) (y4 : Int) (y5 : Int) (y6 : Int) (y7 : Int) (y8 : LA) (y9 : Int) (y10 : LA) (y11 : LA) (y12 : Int) (y13 : Int) (y14 : LA) (y15 : Int), mlp 50 Tryd.f50 K 3 (fun i_ => fun _ => none) k (fr50_3 y1 y2 y3 y4 y5 y6 y7 y8 y9 y10 y11 y12 y13 y14 y15) = lp50_3 K k y1 y2 y3 y4 y5 y6 y7 y8 y9 y10 y11 y12 y13 y14 y15
  | 0, _, _, _, _, _, _, _, _, _, _, _, _, _, _, _ => rfl
  | k + 1, y1, y2, y3, y4, y5, y6, y7, y8, y9, y10, y11, y12, y13, y14, y15 => by
    rw [st50_3]
    have ih := lq50_3 K k
    try simp only [ih]
    try rfl
theorem eq50 (K : Nat) (a0_0 : Int) (a0_1 : Int) (a0_2 : LA) (a0_3 : Int) (a0_4 : LA) (a0_5 : LA) (a1 : LA) (a2_0 : Int) (a2_1 : Int) : run tab (K + 1) 50 [.agg [I a0_0, I a0_1, .sl 3 a0_2, I a0_3, .sl 105 a0_4, .sl 103 a0_5], .sl 3 a1, .agg [I a2_0, I a2_1]] = sh50 K a0_0 a0_1 a0_2 a0_3 a0_4 a0_5 a1 a2_0 a2_1 := by
  have h : run tab (K + 1) 50 [.agg [I a0_0, I a0_1, .sl 3 a0_2, I a0_3, .sl 105 a0_4, .sl 103 a0_5], .sl 3 a1, .agg [I a2_0, I a2_1]] = tr50 K (fun y1 y2 y3 y4 y5 y6 y7 y8 y9 y10 y11 y12 y13 y14 y15 => mlp 50 Tryd.f50 K 3 (fun i_ => fun _ => none) K (fr50_3 y1 y2 y3 y4 y5 y6 y7 y8 y9 y10 y11 y12 y13 y14 y15)) a0_0 a0_1 a0_2 a0_3 a0_4 a0_5 a1 a2_0 a2_1 := by kernel_rfl
  rw [h]
  simp only [lq50_3]
  rfl

/-! ### slices.IndexFunc[[][]int,[]int]: function 51 -/
def tr51_2 (K : Nat) (q2 : LA → AV → Int → Int → OA) (y1 : LA) (y2 : AV) (y3 : Int) (y4 : Int) : OA :=
  match decide (y4 < y3) with | true => (if 0 ≤ y4 then (match y1[y4.toNat]? with | some x878 => (castL 3 x878 fun l879 => castFn y2 fun g880 c881 => match run tab K g880 ([.sl 3 l879] ++ c881) with | some r882 => (castB r882 fun b883 => match b883 with | true => (some (I y4)) | false => (q2 y1 y2 y3 (IntKind.i64.wrap (y4 + 1)))) | none => none) | none => none) else none) | false => (some (I (-1)))
def tr51 (K : Nat) (q2 : LA → AV → Int → Int → OA) (a0 : LA) (a1 : AV) : OA :=
  q2 a0 a1 (a0.length : Int) (0 : Int)
def lp51_2 (K : Nat) : Nat → LA → AV → Int → Int → OA
  | 0, _, _, _, _ => none
  | k + 1, y1, y2, y3, y4 => tr51_2 K (lp51_2 K k) y1 y2 y3 y4
def sh51 (K : Nat) (a0 : LA) (a1 : AV) : OA := tr51 K (lp51_2 K K) a0 a1
def fr51_2 (y1 : LA) (y2 : AV) (y3 : Int) (y4 : Int) : Fr := { slots := (.sl 22 y1, .uni .lent) :: (y2, .uni .lent) :: gap 5 ((I y3, .uni .ro) :: (I y4, .uni .ro) :: gap 10 []), boxes := [] }
theorem st51_2 (K : Nat) (k : Nat) (y1 : LA) (y2 : AV) (y3 : Int) (y4 : Int) : mlp 51 Tryd.f51 K 2 (fun i_ => fun _ => none) (k + 1) (fr51_2 y1 y2 y3 y4) = tr51_2 K (fun y1 y2 y3 y4 => mlp 51 Tryd.f51 K 2 (fun i_ => fun _ => none) k (fr51_2 y1 y2 y3 y4)) y1 y2 y3 y4 := by kernel_rfl
theorem lq51_2 (K : Nat) : ∀ (k : Nat) (y1 : LA) (y2 : AV) (y3 : Int) (y4 : Int), mlp 51 Tryd.f51 K 2 (fun i_ => fun _ => none) k (fr51_2 y1 y2 y3 y4) = lp51_2 K k y1 y2 y3 y4
  | 0, _, _, _, _ => rfl
  | k + 1, y1, y2, y3, y4 => by
    rw [st51_2]
    have ih := lq51_2 K k
    try simp only [ih]
    try rfl
theorem eq51 (K : Nat) (a0 : LA) (a1 : AV) : run tab (K + 1) 51 [.sl 22 a0, a1] = sh51 K a0 a1 := by
  have h : run tab (K + 1) 51 [.sl 22 a0, a1] = tr51 K (fun y1 y2 y3 y4 => mlp 51 Tryd.f51 K 2 (fun i_ => fun _ => none) K (fr51_2 y1 y2 y3 y4)) a0 a1 := by kernel_rfl
  rw [h]
  simp only [lq51_2]
  rfl

/-! ### examiner/model.Unfolded$1: function 52 -/
def tr52 (K : Nat) (a0 : LA) (c0 : AV) : OA :=
  castRef c0 fun p884 => castRef (.ref p884) fun p885 => castL 3 (p885.getD 0 .undef) fun l886 => match run tab K 53 [.sl 3 a0, .sl 3 l886] with | some r887 => (castB r887 fun b888 => some (B b888)) | none => none
def sh52 (K : Nat) (a0 : LA) (c0 : AV) : OA := tr52 K a0 c0
theorem eq52 (K : Nat) (a0 : LA) (c0 : AV) : run tab (K + 1) 52 [.sl 3 a0, c0] = sh52 K a0 c0 := by kernel_rfl

/-! ### slices.Equal[[]int,int]: function 53 -/
def tr53_4 (K : Nat) (q4 : LA → LA → Int → Int → OA) (y1 : LA) (y2 : LA) (y3 : Int) (y4 : Int) : OA :=
  match decide (y4 < y3) with | true => (if 0 ≤ y4 then (match y1[y4.toNat]? with | some x889 => (castI .i64 x889 fun n890 => if 0 ≤ y4 then (match y2[y4.toNat]? with | some x891 => (castI .i64 x891 fun n892 => match (n890 != n892) with | true => (some (B false)) | false => (q4 y1 y2 y3 (IntKind.i64.wrap (y4 + 1)))) | none => none) else none) | none => none) else none) | false => (some (B true))
def tr53 (K : Nat) (q4 : LA → LA → Int → Int → OA) (a0 : LA) (a1 : LA) : OA :=
  match ((a0.length : Int) != (a1.length : Int)) with | true => (some (B false)) | false => (q4 a0 a1 (a0.length : Int) (0 : Int))
def lp53_4 (K : Nat) : Nat → LA → LA → Int → Int → OA
  | 0, _, _, _, _ => none
  | k + 1, y1, y2, y3, y4 => tr53_4 K (lp53_4 K k) y1 y2 y3 y4
def sh53 (K : Nat) (a0 : LA) (a1 : LA) : OA := tr53 K (lp53_4 K K) a0 a1
def fr53_4 (y1 : LA) (y2 : LA) (y3 : Int) (y4 : Int) : Fr := { slots := (.sl 3 y1, .uni .lent) :: (.sl 3 y2, .uni .lent) :: gap 10 ((I y3, .uni .ro) :: (I y4, .uni .ro) :: gap 12 []), boxes := [] }
theorem st53_4 (K : Nat) (k : Nat) (y1 : LA) (y2 : LA) (y3 : Int) (y4 : Int) : mlp 53 Tryd.f53 K 4 (fun i_ => fun _ => none) (k + 1) (fr53_4 y1 y2 y3 y4) = tr53_4 K (fun y1 y2 y3 y4 => mlp 53 Tryd.f53 K 4 (fun i_ => fun _ => none) k (fr53_4 y1 y2 y3 y4)) y1 y2 y3 y4 := by kernel_rfl
theorem lq53_4 (K : Nat) : ∀ (k : Nat) (y1 : LA) (y2 : LA) (y3 : Int) (y4 : Int), mlp 53 Tryd.f53 K 4 (fun i_ => fun _ => none) k (fr53_4 y1 y2 y3 y4) = lp53_4 K k y1 y2 y3 y4
  | 0, _, _, _, _ => rfl
  | k + 1, y1, y2, y3, y4 => by
    rw [st53_4]
    have ih := lq53_4 K k
    try simp only [ih]
    try rfl
theorem eq53 (K : Nat) (a0 : LA) (a1 : LA) : run tab (K + 1) 53 [.sl 3 a0, .sl 3 a1] = sh53 K a0 a1 := by
  have h : run tab (K + 1) 53 [.sl 3 a0, .sl 3 a1] = tr53 K (fun y1 y2 y3 y4 => mlp 53 Tryd.f53 K 4 (fun i_ => fun _ => none) K (fr53_4 y1 y2 y3 y4)) a0 a1 := by kernel_rfl
  rw [h]
  simp only [lq53_4]
  rfl

/-! ### examiner/examinerref37.moveErr: function 54 -/
def tr54_22 (K : Nat) (q17 : Int → Int → Int → LA → Int → LA → LA → Int → Int → Int → LA → LA → Int → Int → OA) (q22 : Int → Int → Int → Int → LA → Int → LA → LA → Int → Int → Int → LA → LA → Int → Int → OA) (y1 : Int) (y2 : Int) (y3 : Int) (y4 : Int) (y5 : LA) (y6 : Int) (y7 : LA) (y8 : LA) (y9 : Int) (y10 : Int) (y11 : Int) (y12 : LA) (y13 : LA) (y14 : Int) (y15 : Int) : OA :=
  match decide (y2 < y1) with | true => (if 0 ≤ y2 then (match y13[y2.toNat]? with | some x917 => (castI .i64 (cellN x917 0) fun n918 => if 0 ≤ y1 then (match y13[y1.toNat]? with | some x919 => (castI .i64 (cellN x919 0) fun n920 => match (n918 == n920) with | true => (some (I 13)) | false => (q22 y1 (IntKind.i64.wrap (y2 + 1)) y3 y4 y5 y6 y7 y8 y9 y10 y11 y12 y13 y14 y15)) | none => none) else none) | none => none) else none) | false => (if 0 ≤ y1 then (match y13[y1.toNat]? with | some x921 => (castI .i64 (cellN x921 1) fun n922 => castI .i64 (cellN x921 2) fun n923 => match run tab K 83 [.agg [I y3, I y4, .sl 3 y5, I y6, .sl 105 y7, .sl 103 y8], .agg [I n922, I n923]] with | some r924 => (castI .i64 r924 fun n925 => match (n925 != (0 : Int)) with | true => (some (I n925)) | false => (if 0 ≤ y1 then (match y13[y1.toNat]? with | some x926 => (castI .i64 (cellN x926 3) fun n927 => castI .i64 (cellN x926 4) fun n928 => match run tab K 83 [.agg [I y3, I y4, .sl 3 y5, I y6, .sl 105 y7, .sl 103 y8], .agg [I n927, I n928]] with | some r929 => (castI .i64 r929 fun n930 => match (n930 != (0 : Int)) with | true => (some (I n930)) | false => (q17 (IntKind.i64.wrap (y1 + 1)) y3 y4 y5 y6 y7 y8 y9 y10 y11 y12 y13 y14 y15)) | none => none) | none => none) else none)) | none => none) | none => none) else none)
def tr54_17 (K : Nat) (q22 : Int → Int → Int → Int → LA → Int → LA → LA → Int → Int → Int → LA → LA → Int → Int → OA) (y1 : Int) (y2 : Int) (y3 : Int) (y4 : LA) (y5 : Int) (y6 : LA) (y7 : LA) (y8 : Int) (y9 : Int) (y10 : Int) (y11 : LA) (y12 : LA) (y13 : Int) (y14 : Int) : OA :=
  match decide (y1 < (y12.length : Int)) with | true => (if 0 ≤ y1 then (match y12[y1.toNat]? with | some x913 => (castI .i64 (cellN x913 0) fun n914 => match run tab K 29 [I n914, I 0, I (IntKind.i64.wrap ((y6.length : Int) - 1))] with | some r915 => (castB r915 fun b916 => match (!b916) with | true => (some (I 3)) | false => (q22 y1 (0 : Int) y2 y3 y4 y5 y6 y7 y8 y9 y10 y11 y12 y13 y14)) | none => none) | none => none) else none) | false => (match run tab K 83 [.agg [I y2, I y3, .sl 3 y4, I y5, .sl 105 y6, .sl 103 y7], .agg [I y13, I y14]] with | some r931 => (castI .i64 r931 fun n932 => some (I n932)) | none => none)
def tr54_6 (K : Nat) (q6 : Int → Int → Int → LA → Int → LA → LA → Int → Int → Int → LA → LA → Int → Int → OA) (q17 : Int → Int → Int → LA → Int → LA → LA → Int → Int → Int → LA → LA → Int → Int → OA) (y1 : Int) (y2 : Int) (y3 : Int) (y4 : LA) (y5 : Int) (y6 : LA) (y7 : LA) (y8 : Int) (y9 : Int) (y10 : Int) (y11 : LA) (y12 : LA) (y13 : Int) (y14 : Int) : OA :=
  match decide (y1 < (y11.length : Int)) with | true => (if 0 ≤ y1 then (match y11[y1.toNat]? with | some x899 => (castI .i64 (cellN x899 0) fun n900 => match run tab K 29 [I n900, I 0, I 3] with | some r901 => (castB r901 fun b902 => match (!b902) with | true => (some (I 4)) | false => (if 0 ≤ y1 then (match y11[y1.toNat]? with | some x903 => (castI .i64 (cellN x903 1) fun n904 => castI .i64 (cellN x903 2) fun n905 => match run tab K 83 [.agg [I y2, I y3, .sl 3 y4, I y5, .sl 105 y6, .sl 103 y7], .agg [I n904, I n905]] with | some r906 => (castI .i64 r906 fun n907 => match (n907 != (0 : Int)) with | true => (some (I n907)) | false => (if 0 ≤ y1 then (match y11[y1.toNat]? with | some x908 => (castI .i64 (cellN x908 3) fun n909 => castI .i64 (cellN x908 4) fun n910 => match run tab K 83 [.agg [I y2, I y3, .sl 3 y4, I y5, .sl 105 y6, .sl 103 y7], .agg [I n909, I n910]] with | some r911 => (castI .i64 r911 fun n912 => match (n912 != (0 : Int)) with | true => (some (I n912)) | false => (q6 (IntKind.i64.wrap (y1 + 1)) y2 y3 y4 y5 y6 y7 y8 y9 y10 y11 y12 y13 y14)) | none => none) | none => none) else none)) | none => none) | none => none) else none)) | none => none) | none => none) else none) | false => (q17 (0 : Int) y2 y3 y4 y5 y6 y7 y8 y9 y10 y11 y12 y13 y14)
def tr54 (K : Nat) (q6 : Int → Int → Int → LA → Int → LA → LA → Int → Int → Int → LA → LA → Int → Int → OA) (a0_0 : Int) (a0_1 : Int) (a0_2 : LA) (a0_3 : Int) (a0_4 : LA) (a0_5 : LA) (a1_0 : Int) (a1_1 : Int) (a1_2 : Int) (a1_3 : LA) (a1_4 : LA) (a1_5 : Int) (a1_6 : Int) : OA :=
  match run tab K 29 [I a1_0, I 0, I (IntKind.i64.wrap (a0_0 - 1))] with | some r893 => (castB r893 fun b894 => match (!b894) with | true => (some (I 3)) | false => (match run tab K 29 [I a1_1, I 0, I (IntKind.i64.wrap (a0_0 - 1))] with | some r895 => (castB r895 fun b896 => match (!b896) with | true => (some (I 3)) | false => (match run tab K 29 [I a1_2, I 0, I (IntKind.i64.wrap ((a0_2.length : Int) - 1))] with | some r897 => (castB r897 fun b898 => match (!b898) with | true => (some (I 3)) | false => (match decide ((a1_3.length : Int) > (4 : Int)) with | true => (some (I 2)) | false => (match decide ((a1_4.length : Int) > (4 : Int)) with | true => (some (I 2)) | false => (q6 (0 : Int) a0_0 a0_1 a0_2 a0_3 a0_4 a0_5 a1_0 a1_1 a1_2 a1_3 a1_4 a1_5 a1_6)))) | none => none)) | none => none)) | none => none
def lp54_22 (K : Nat) (q6 : Int → Int → Int → LA → Int → LA → LA → Int → Int → Int → LA → LA → Int → Int → OA) (q17 : Int → Int → Int → LA → Int → LA → LA → Int → Int → Int → LA → LA → Int → Int → OA) : Nat → Int → Int → Int → Int → LA → Int → LA → LA → Int → Int → Int → LA → LA → Int → Int → OA
  | 0, _, _, _, _, _, _, _, _, _, _, _, _, _, _, _ => none
  | k + 1, y1, y2, y3, y4, y5, y6, y7, y8, y9, y10, y11, y12, y13, y14, y15 => tr54_22 K q17 (lp54_22 K q6 q17 k) y1 y2 y3 y4 y5 y6 y7 y8 y9 y10 y11 y12 y13 y14 y15
def lp54_17 (K : Nat) (q6 : Int → Int → Int → LA → Int → LA → LA → Int → Int → Int → LA → LA → Int → Int → OA) : Nat → Int → Int → Int → LA → Int → LA → LA → Int → Int → Int → LA → LA → Int → Int → OA
  | 0, _, _, _, _, _, _, _, _, _, _, _, _, _, _ => none
  | k + 1, y1, y2, y3, y4, y5, y6, y7, y8, y9, y10, y11, y12, y13, y14 => tr54_17 K (lp54_22 K q6 (lp54_17 K q6 k) K) y1 y2 y3 y4 y5 y6 y7 y8 y9 y10 y11 y12 y13 y14
def lp54_6 (K : Nat) : Nat → Int → Int → Int → LA → Int → LA → LA → Int → Int → Int → LA → LA → Int → Int → OA
  | 0, _, _, _, _, _, _, _, _, _, _, _, _, _, _ => none
  | k + 1, y1, y2, y3, y4, y5, y6, y7, y8, y9, y10, y11, y12, y13, y14 => tr54_6 K (lp54_6 K k) (lp54_17 K (lp54_6 K k) K) y1 y2 y3 y4 y5 y6 y7 y8 y9 y10 y11 y12 y13 y14
def sh54 (K : Nat) (a0_0 : Int) (a0_1 : Int) (a0_2 : LA) (a0_3 : Int) (a0_4 : LA) (a0_5 : LA) (a1_0 : Int) (a1_1 : Int) (a1_2 : Int) (a1_3 : LA) (a1_4 : LA) (a1_5 : Int) (a1_6 : Int) : OA := tr54 K (lp54_6 K K) a0_0 a0_1 a0_2 a0_3 a0_4 a0_5 a1_0 a1_1 a1_2 a1_3 a1_4 a1_5 a1_6
def fr54_22 (y1 : Int) (y2 : Int) (y3 : Int) (y4 : Int) (y5 : LA) (y6 : Int) (y7 : LA) (y8 : LA) (y9 : Int) (y10 : Int) (y11 : Int) (y12 : LA) (y13 : LA) (y14 : Int) (y15 : Int) : Fr := { slots := gap 2 ((.undef, .loc 2 0) :: (.undef, .loc 3 0) :: gap 4 ((I y1, .uni .ro) :: (I y2, .uni .ro) :: gap 138 [])), boxes := [(2, [(I y3, .ro), (I y4, .ro), (.sl 3 y5, .lent), (I y6, .ro), (.sl 105 y7, .lent), (.sl 103 y8, .lent)]), (3, [(I y9, .ro), (I y10, .ro), (I y11, .ro), (.sl 141 y12, .lent), (.sl 139 y13, .lent), (I y14, .ro), (I y15, .ro)])] }
def fr54_17 (y1 : Int) (y2 : Int) (y3 : Int) (y4 : LA) (y5 : Int) (y6 : LA) (y7 : LA) (y8 : Int) (y9 : Int) (y10 : Int) (y11 : LA) (y12 : LA) (y13 : Int) (y14 : Int) : Fr := { slots := gap 2 ((.undef, .loc 2 0) :: (.undef, .loc 3 0) :: gap 4 ((I y1, .uni .ro) :: gap 139 [])), boxes := [(2, [(I y2, .ro), (I y3, .ro), (.sl 3 y4, .lent), (I y5, .ro), (.sl 105 y6, .lent), (.sl 103 y7, .lent)]), (3, [(I y8, .ro), (I y9, .ro), (I y10, .ro), (.sl 141 y11, .lent), (.sl 139 y12, .lent), (I y13, .ro), (I y14, .ro)])] }
def fr54_6 (y1 : Int) (y2 : Int) (y3 : Int) (y4 : LA) (y5 : Int) (y6 : LA) (y7 : LA) (y8 : Int) (y9 : Int) (y10 : Int) (y11 : LA) (y12 : LA) (y13 : Int) (y14 : Int) : Fr := { slots := gap 2 ((.undef, .loc 2 0) :: (.undef, .loc 3 0) :: gap 1 ((I y1, .uni .ro) :: gap 142 [])), boxes := [(2, [(I y2, .ro), (I y3, .ro), (.sl 3 y4, .lent), (I y5, .ro), (.sl 105 y6, .lent), (.sl 103 y7, .lent)]), (3, [(I y8, .ro), (I y9, .ro), (I y10, .ro), (.sl 141 y11, .lent), (.sl 139 y12, .lent), (I y13, .ro), (I y14, .ro)])] }
theorem st54_22 (K : Nat) (RO6 : Fr → OA) (RO17 : Fr → OA) (k : Nat) (y1 : Int) (y2 : Int) (y3 : Int) (y4 : Int) (y5 : LA) (y6 : Int) (y7 : LA) (y8 : LA) (y9 : Int) (y10 : Int) (y11 : Int) (y12 : LA) (y13 : LA) (y14 : Int) (y15 : Int) : mlp 54 Tryd.f54 K 22 (fun i_ => if i_ = 6 then RO6 else if i_ = 17 then RO17 else fun _ => none) (k + 1) (fr54_22 y1 y2 y3 y4 y5 y6 y7 y8 y9 y10 y11 y12 y13 y14 y15) = tr54_22 K (fun y1 y2 y3 y4 y5 y6 y7 y8 y9 y10 y11 y12 y13 y14 => RO17 (fr54_17 y1 y2 y3 y4 y5 y6 y7 y8 y9 y10 y11 y12 y13 y14)) (fun y1 y2 y3 y4 y5 y6 y7 y8 y9 y10 y11 y12 y13 y14 y15 => mlp 54 Tryd.f54 K 22 (fun i_ => if i_ = 6 then RO6 else if i_ = 17 then RO17 else fun _ => none) k (fr54_22 y1 y2 y3 y4 y5 y6 y7 y8 y9 y10 y11 y12 y13 y14 y15)) y1 y2 y3 y4 y5 y6 y7 y8 y9 y10 y11 y12 y13 y14 y15 := by kernel_rfl
theorem lq54_22 (K : Nat) (RO6 : Fr → OA) (RO17 : Fr → OA) : ∀ (k : Nat) (y1 : Int) (y2 : Int) (y3 : Int) (y4 : Int) (y5 : LA) (y6 : Int) (y7 : LA) (y8 : LA) (y9 : Int) (y10 : Int) (y11 : Int) (y12 : LA) (y13 : LA) (y14 : Int) (y15 : Int), mlp 54 Tryd.f54 K 22 (fun i_ => if i_ = 6 then RO6 else if i_ = 17 then RO17 else fun _ => none) k (fr54_22 y1 y2 y3 y4 y5 y6 y7 y8 y9 y10 y11 y12 y13 y14 y15) = lp54_22 K (fun y1 y2 y3 y4 y5 y6 y7 y8 y9 y10 y11 y12 y13 y14 => RO6 (fr54_6 y1 y2 y3 y4 y5 y6 y7 y8 y9 y10 y11 y12 y13 y14)) (fun y1 y2 y3 y4 y5 y6 y7 y8 y9 y10 y11 y12 y13 y14 => RO17 (fr54_17 y1 y2 y3 y4 y5 y6 y7 y8 y9 y10 y11 y12 y13 y14)) k y1 y2 y3 y4 y5 y6 y7 y8 y9 y10 y11 y12 y13 y14 y15
  | 0, _, _, _, _, _, _, _, _, _, _, _, _, _, _, _ => rfl
  | k + 1, y1, y2, y3, y4, y5, y6, y7, y8, y9, y10, y11, y12, y13, y14, y15 => by
    rw [st54_22]
    have ih := lq54_22 K RO6 RO17 k
    try simp only [ih]
    try rfl
theorem st54_17 (K : Nat) (RO6 : Fr → OA) (k : Nat) (y1 : Int) (y2 : Int) (y3 : Int) (y4 : LA) (y5 : Int) (y6 : LA) (y7 : LA) (y8 : Int) (y9 : Int) (y10 : Int) (y11 : LA) (y12 : LA) (y13 : Int) (y14 : Int) : mlp 54 Tryd.f54 K 17 (fun i_ => if i_ = 6 then RO6 else fun _ => none) (k + 1) (fr54_17 y1 y2 y3 y4 y5 y6 y7 y8 y9 y10 y11 y12 y13 y14) = tr54_17 K (fun y1 y2 y3 y4 y5 y6 y7 y8 y9 y10 y11 y12 y13 y14 y15 => mlp 54 Tryd.f54 K 22 (fun i_ => if i_ = 6 then RO6 else if i_ = 17 then (fun fr_ => mlp 54 Tryd.f54 K 17 (fun i_ => if i_ = 6 then RO6 else fun _ => none) k fr_) else fun _ => none) K (fr54_22 y1 y2 y3 y4 y5 y6 y7 y8 y9 y10 y11 y12 y13 y14 y15)) y1 y2 y3 y4 y5 y6 y7 y8 y9 y10 y11 y12 y13 y14 := by kernel_rfl
theorem lq54_17 (K : Nat) (RO6 : Fr → OA) : ∀ (k : Nat) (y1 : Int) (y2 : Int) (y3 : Int) (y4 : LA) (y5 : Int) (y6 : LA) (y7 : LA) (y8 : Int) (y9 : Int) (y10 : Int) (y11 : LA) (y12 : LA) (y13 : Int) (y14 : Int), mlp 54 Tryd.f54 K 17 (fun i_ => if i_ = 6 then RO6 else fun _ => none) k (fr54_17 y1 y2 y3 y4 y5 y6 y7 y8 y9 y10 y11 y12 y13 y14) = lp54_17 K (fun y1 y2 y3 y4 y5 y6 y7 y8 y9 y10 y11 y12 y13 y14 => RO6 (fr54_6 y1 y2 y3 y4 y5 y6 y7 y8 y9 y10 y11 y12 y13 y14)) k y1 y2 y3 y4 y5 y6 y7 y8 y9 y10 y11 y12 y13 y14
  | 0, _, _, _, _, _, _, _, _, _, _, _, _, _, _ => rfl
  | k + 1, y1, y2, y3, y4, y5, y6, y7, y8, y9, y10, y11, y12, y13, y14 => by
    rw [st54_17]
    have ih := lq54_17 K RO6 k
    have ih22 := lq54_22 K RO6 (fun fr_ => mlp 54 Tryd.f54 K 17 (fun i_ => if i_ = 6 then RO6 else fun _ => none) k fr_) K
    try simp only [ih, ih22]
    try rfl
theorem st54_6 (K : Nat) (k : Nat) (y1 : Int) (y2 : Int) (y3 : Int) (y4 : LA) (y5 : Int) (y6 : LA) (y7 : LA) (y8 : Int) (y9 : Int) (y10 : Int) (y11 : LA) (y12 : LA) (y13 : Int) (y14 : Int) : mlp 54 Tryd.f54 K 6 (fun i_ => fun _ => none) (k + 1) (fr54_6 y1 y2 y3 y4 y5 y6 y7 y8 y9 y10 y11 y12 y13 y14) = tr54_6 K (fun y1 y2 y3 y4 y5 y6 y7 y8 y9 y10 y11 y12 y13 y14 => mlp 54 Tryd.f54 K 6 (fun i_ => fun _ => none) k (fr54_6 y1 y2 y3 y4 y5 y6 y7 y8 y9 y10 y11 y12 y13 y14)) (fun y1 y2 y3 y4 y5 y6 y7 y8 y9 y10 y11 y12 y13 y14 => mlp 54 Tryd.f54 K 17 (fun i_ => if i_ = 6 then (fun fr_ => mlp 54 Tryd.f54 K 6 (fun i_ => fun _ => none) k fr_) else fun _ => none) K (fr54_17 y1 y2 y3 y4 y5 y6 y7 y8 y9 y10 y11 y12 y13 y14)) y1 y2 y3 y4 y5 y6 y7 y8 y9 y10 y11 y12 y13 y14 := by kernel_rfl
theorem lq54_6 (K : Nat) : ∀ (k : Nat) (y1 : Int) (y2 : Int) (y3 : Int) (y4 : LA) (y5 : Int) (y6 : LA) (y7 : LA) (y8 : Int) (y9 : Int) (y10 : Int) (y11 : LA) (y12 : LA) (y13 : Int) (y14 : Int), mlp 54 Tryd.f54 K 6 (fun i_ => fun _ => none) k (fr54_6 y1 y2 y3 y4 y5 y6 y7 y8 y9 y10 y11 y12 y13 y14) = lp54_6 K k y1 y2 y3 y4 y5 y6 y7 y8 y9 y10 y11 y12 y13 y14
  | 0, _, _, _, _, _, _, _, _, _, _, _, _, _, _ => rfl
  | k + 1, y1, y2, y3, y4, y5, y6, y7, y8, y9, y10, y11, y12, y13, y14 => by
    rw [st54_6]
    have ih := lq54_6 K k
    have ih17 := lq54_17 K (fun fr_ => mlp 54 Tryd.f54 K 6 (fun i_ => fun _ => none) k fr_) K
    try simp only [ih, ih17]
    try rfl
theorem eq54 (K : Nat) (a0_0 : Int) (a0_1 : Int) (a0_2 : LA) (a0_3 : Int) (a0_4 : LA) (a0_5 : LA) (a1_0 : Int) (a1_1 : Int) (a1_2 : Int) (a1_3 : LA) (a1_4 : LA) (a1_5 : Int) (a1_6 : Int) : run tab (K + 1) 54 [.agg [I a0_0, I a0_1, .sl 3 a0_2, I a0_3, .sl 105 a0_4, .sl 103 a0_5], .agg [I a1_0, I a1_1, I a1_2, .sl 141 a1_3, .sl 139 a1_4, I a1_5, I a1_6]] = sh54 K a0_0 a0_1 a0_2 a0_3 a0_4 a0_5 a1_0 a1_1 a1_2 a1_3 a1_4 a1_5 a1_6 := by
  have h : run tab (K + 1) 54 [.agg [I a0_0, I a0_1, .sl 3 a0_2, I a0_3, .sl 105 a0_4, .sl 103 a0_5], .agg [I a1_0, I a1_1, I a1_2, .sl 141 a1_3, .sl 139 a1_4, I a1_5, I a1_6]] = tr54 K (fun y1 y2 y3 y4 y5 y6 y7 y8 y9 y10 y11 y12 y13 y14 => mlp 54 Tryd.f54 K 6 (fun i_ => fun _ => none) K (fr54_6 y1 y2 y3 y4 y5 y6 y7 y8 y9 y10 y11 y12 y13 y14)) a0_0 a0_1 a0_2 a0_3 a0_4 a0_5 a1_0 a1_1 a1_2 a1_3 a1_4 a1_5 a1_6 := by kernel_rfl
  rw [h]
  simp only [lq54_6]
  rfl

/-! ### examiner/examinerref37.First: function 55 -/
def tr55_3 (K : Nat) (q3 : LA → Int → Int → Int → LA → Int → LA → LA → OA) (y1 : LA) (y2 : Int) (y3 : Int) (y4 : Int) (y5 : LA) (y6 : Int) (y7 : LA) (y8 : LA) : OA :=
  match decide (y2 < (y7.length : Int)) with | true => (if 0 ≤ y2 then (match y7[y2.toNat]? with | some x933 => (castI .i64 (cellN x933 2) fun n934 => if (y1.length + ([I n934] : LA).length) * 8 ≤ maxBytes then (q3 (y1 ++ ([I n934] : LA)) (IntKind.i64.wrap (y2 + 1)) y3 y4 y5 y6 y7 y8) else none) | none => none) else none) | false => (some (.sl 3 y1))
def tr55 (K : Nat) (q3 : LA → Int → Int → Int → LA → Int → LA → LA → OA) (a0_0 : Int) (a0_1 : Int) (a0_2 : LA) (a0_3 : Int) (a0_4 : LA) (a0_5 : LA) : OA :=
  q3 ([I a0_1] : LA) (0 : Int) a0_0 a0_1 a0_2 a0_3 a0_4 a0_5
def lp55_3 (K : Nat) : Nat → LA → Int → Int → Int → LA → Int → LA → LA → OA
  | 0, _, _, _, _, _, _, _, _ => none
  | k + 1, y1, y2, y3, y4, y5, y6, y7, y8 => tr55_3 K (lp55_3 K k) y1 y2 y3 y4 y5 y6 y7 y8
def sh55 (K : Nat) (a0_0 : Int) (a0_1 : Int) (a0_2 : LA) (a0_3 : Int) (a0_4 : LA) (a0_5 : LA) : OA := tr55 K (lp55_3 K K) a0_0 a0_1 a0_2 a0_3 a0_4 a0_5
def fr55_3 (y1 : LA) (y2 : Int) (y3 : Int) (y4 : Int) (y5 : LA) (y6 : Int) (y7 : LA) (y8 : LA) : Fr := { slots := gap 1 ((.undef, .loc 1 0) :: gap 1 ((.sl 3 y1, .uni .own) :: (I y2, .uni .ro) :: gap 20 [])), boxes := [(1, [(I y3, .ro), (I y4, .ro), (.sl 3 y5, .lent), (I y6, .ro), (.sl 105 y7, .lent), (.sl 103 y8, .lent)])] }
theorem st55_3 (K : Nat) (k : Nat) (y1 : LA) (y2 : Int) (y3 : Int) (y4 : Int) (y5 : LA) (y6 : Int) (y7 : LA) (y8 : LA) : mlp 55 Tryd.f55 K 3 (fun i_ => fun _ => none) (k + 1) (fr55_3 y1 y2 y3 y4 y5 y6 y7 y8) = tr55_3 K (fun y1 y2 y3 y4 y5 y6 y7 y8 => mlp 55 Tryd.f55 K 3 (fun i_ => fun _ => none) k (fr55_3 y1 y2 y3 y4 y5 y6 y7 y8)) y1 y2 y3 y4 y5 y6 y7 y8 := by kernel_rfl
theorem lq55_3 (K : Nat) : ∀ (k : Nat) (y1 : LA) (y2 : Int) (y3 : Int) (y4 : Int) (y5 : LA) (y6 : Int) (y7 : LA) (y8 : LA), mlp 55 Tryd.f55 K 3 (fun i_ => fun _ => none) k (fr55_3 y1 y2 y3 y4 y5 y6 y7 y8) = lp55_3 K k y1 y2 y3 y4 y5 y6 y7 y8
  | 0, _, _, _, _, _, _, _, _ => rfl
  | k + 1, y1, y2, y3, y4, y5, y6, y7, y8 => by
    rw [st55_3]
    have ih := lq55_3 K k
    try simp only [ih]
    try rfl
theorem eq55 (K : Nat) (a0_0 : Int) (a0_1 : Int) (a0_2 : LA) (a0_3 : Int) (a0_4 : LA) (a0_5 : LA) : run tab (K + 1) 55 [.agg [I a0_0, I a0_1, .sl 3 a0_2, I a0_3, .sl 105 a0_4, .sl 103 a0_5]] = sh55 K a0_0 a0_1 a0_2 a0_3 a0_4 a0_5 := by
  have h : run tab (K + 1) 55 [.agg [I a0_0, I a0_1, .sl 3 a0_2, I a0_3, .sl 105 a0_4, .sl 103 a0_5]] = tr55 K (fun y1 y2 y3 y4 y5 y6 y7 y8 => mlp 55 Tryd.f55 K 3 (fun i_ => fun _ => none) K (fr55_3 y1 y2 y3 y4 y5 y6 y7 y8)) a0_0 a0_1 a0_2 a0_3 a0_4 a0_5 := by kernel_rfl
  rw [h]
  simp only [lq55_3]
  rfl

/-! ### examiner/examinerref37.place: function 56 -/
def tr56_2 (K : Nat) (q2 : LA → LA → Int → OA) (y1 : LA) (y2 : LA) (y3 : Int) : OA :=
  match decide (y3 < (y1.length : Int)) with | true => (if 0 ≤ y3 then (match y1[y3.toNat]? with | some x935 => (castL 3 x935 fun l936 => match run tab K 31 [.sl 3 l936, .sl 3 y2] with | some r937 => (castB r937 fun b938 => match b938 with | true => (some (I y3)) | false => (q2 y1 y2 (IntKind.i64.wrap (y3 + 1)))) | none => none) | none => none) else none) | false => (some (I (-1)))
def tr56 (K : Nat) (q2 : LA → LA → Int → OA) (a0 : LA) (a1 : LA) : OA :=
  q2 a0 a1 (0 : Int)
def lp56_2 (K : Nat) : Nat → LA → LA → Int → OA
  | 0, _, _, _ => none
  | k + 1, y1, y2, y3 => tr56_2 K (lp56_2 K k) y1 y2 y3
def sh56 (K : Nat) (a0 : LA) (a1 : LA) : OA := tr56 K (lp56_2 K K) a0 a1
def fr56_2 (y1 : LA) (y2 : LA) (y3 : Int) : Fr := { slots := (.sl 22 y1, .uni .lent) :: (.sl 3 y2, .uni .lent) :: gap 3 ((I y3, .uni .ro) :: gap 13 []), boxes := [] }
theorem st56_2 (K : Nat) (k : Nat) (y1 : LA) (y2 : LA) (y3 : Int) : mlp 56 Tryd.f56 K 2 (fun i_ => fun _ => none) (k + 1) (fr56_2 y1 y2 y3) = tr56_2 K (fun y1 y2 y3 => mlp 56 Tryd.f56 K 2 (fun i_ => fun _ => none) k (fr56_2 y1 y2 y3)) y1 y2 y3 := by kernel_rfl
theorem lq56_2 (K : Nat) : ∀ (k : Nat) (y1 : LA) (y2 : LA) (y3 : Int), mlp 56 Tryd.f56 K 2 (fun i_ => fun _ => none) k (fr56_2 y1 y2 y3) = lp56_2 K k y1 y2 y3
  | 0, _, _, _ => rfl
  | k + 1, y1, y2, y3 => by
    rw [st56_2]
    have ih := lq56_2 K k
    try simp only [ih]
    try rfl
theorem eq56 (K : Nat) (a0 : LA) (a1 : LA) : run tab (K + 1) 56 [.sl 22 a0, .sl 3 a1] = sh56 K a0 a1 := by
  have h : run tab (K + 1) 56 [.sl 22 a0, .sl 3 a1] = tr56 K (fun y1 y2 y3 => mlp 56 Tryd.f56 K 2 (fun i_ => fun _ => none) K (fr56_2 y1 y2 y3)) a0 a1 := by kernel_rfl
  rw [h]
  simp only [lq56_2]
  rfl

/-! ### examiner/examinerbase.CompareInts: function 60 -/
def tr60_2 (K : Nat) (q2 : LA → LA → Int → OA) (y1 : LA) (y2 : LA) (y3 : Int) : OA :=
  match decide (y3 < (y1.length : Int)) with | true => (match decide (y3 < (y2.length : Int)) with | true => (if 0 ≤ y3 then (match y1[y3.toNat]? with | some x939 => (castI .i64 x939 fun n940 => if 0 ≤ y3 then (match y2[y3.toNat]? with | some x941 => (castI .i64 x941 fun n942 => match (n940 != n942) with | true => (if 0 ≤ y3 then (match y1[y3.toNat]? with | some x943 => (castI .i64 x943 fun n944 => if 0 ≤ y3 then (match y2[y3.toNat]? with | some x945 => (castI .i64 x945 fun n946 => match run tab K 81 [B (decide (n944 > n946))] with | some r947 => (castI .i64 r947 fun n948 => some (I (IntKind.i64.wrap ((IntKind.i64.wrap (2 * n948)) - 1)))) | none => none) | none => none) else none) | none => none) else none) | false => (q2 y1 y2 (IntKind.i64.wrap (y3 + 1)))) | none => none) else none) | none => none) else none) | false => (match run tab K 81 [B (decide ((y1.length : Int) > (y2.length : Int)))] with | some r949 => (castI .i64 r949 fun n950 => match run tab K 81 [B (decide ((y1.length : Int) < (y2.length : Int)))] with | some r951 => (castI .i64 r951 fun n952 => some (I (IntKind.i64.wrap (n950 - n952)))) | none => none) | none => none)) | false => (match run tab K 81 [B (decide ((y1.length : Int) > (y2.length : Int)))] with | some r953 => (castI .i64 r953 fun n954 => match run tab K 81 [B (decide ((y1.length : Int) < (y2.length : Int)))] with | some r955 => (castI .i64 r955 fun n956 => some (I (IntKind.i64.wrap (n954 - n956)))) | none => none) | none => none)
def tr60 (K : Nat) (q2 : LA → LA → Int → OA) (a0 : LA) (a1 : LA) : OA :=
  q2 a0 a1 (0 : Int)
def lp60_2 (K : Nat) : Nat → LA → LA → Int → OA
  | 0, _, _, _ => none
  | k + 1, y1, y2, y3 => tr60_2 K (lp60_2 K k) y1 y2 y3
def sh60 (K : Nat) (a0 : LA) (a1 : LA) : OA := tr60 K (lp60_2 K K) a0 a1
def fr60_2 (y1 : LA) (y2 : LA) (y3 : Int) : Fr := { slots := (.sl 3 y1, .uni .lent) :: (.sl 3 y2, .uni .lent) :: gap 3 ((I y3, .uni .ro) :: gap 46 []), boxes := [] }
theorem st60_2 (K : Nat) (k : Nat) (y1 : LA) (y2 : LA) (y3 : Int) : mlp 60 Tryd.f60 K 2 (fun i_ => fun _ => none) (k + 1) (fr60_2 y1 y2 y3) = tr60_2 K (fun y1 y2 y3 => mlp 60 Tryd.f60 K 2 (fun i_ => fun _ => none) k (fr60_2 y1 y2 y3)) y1 y2 y3 := by kernel_rfl
theorem lq60_2 (K : Nat) : ∀ (k : Nat) (y1 : LA) (y2 : LA) (y3 : Int), mlp 60 Tryd.f60 K 2 (fun i_ => fun _ => none) k (fr60_2 y1 y2 y3) = lp60_2 K k y1 y2 y3
  | 0, _, _, _ => rfl
  | k + 1, y1, y2, y3 => by
    rw [st60_2]
    have ih := lq60_2 K k
    try simp only [ih]
    try rfl
theorem eq60 (K : Nat) (a0 : LA) (a1 : LA) : run tab (K + 1) 60 [.sl 3 a0, .sl 3 a1] = sh60 K a0 a1 := by
  have h : run tab (K + 1) 60 [.sl 3 a0, .sl 3 a1] = tr60 K (fun y1 y2 y3 => mlp 60 Tryd.f60 K 2 (fun i_ => fun _ => none) K (fr60_2 y1 y2 y3)) a0 a1 := by kernel_rfl
  rw [h]
  simp only [lq60_2]
  rfl

/-! ### examiner/model.CheckModel$1: function 63 -/
def tr63 (K : Nat) (a0 : Int) : OA :=
  match run tab K 57 [I a0, I 0, I 100] with | some r957 => (castB r957 fun b958 => some (B b958)) | none => none
def sh63 (K : Nat) (a0 : Int) : OA := tr63 K a0
theorem eq63 (K : Nat) (a0 : Int) : run tab (K + 1) 63 [I a0] = sh63 K a0 := by kernel_rfl

/-! ### examiner/model.moveErr: function 64 -/
def tr64_12 (K : Nat) (q12 : LA → Int → Int → Int → Int → LA → Int → LA → LA → Int → Int → Int → LA → LA → Int → Int → OA) (y1 : LA) (y2 : Int) (y3 : Int) (y4 : Int) (y5 : Int) (y6 : LA) (y7 : Int) (y8 : LA) (y9 : LA) (y10 : Int) (y11 : Int) (y12 : Int) (y13 : LA) (y14 : LA) (y15 : Int) (y16 : Int) : OA :=
  match decide (y3 < y2) with | true => (if 0 ≤ y3 then (match y1[y3.toNat]? with | some x987 => (castI .i64 (cellN x987 0) fun n988 => castI .i64 (cellN x987 1) fun n989 => castI .i64 (cellN x987 2) fun n990 => castI .i64 (cellN x987 3) fun n991 => castI .i64 (cellN x987 4) fun n992 => castB (cellN x987 5) fun b993 => if 0 ≤ (0 : Int) ∧ (0 : Int) ≤ y3 ∧ y3 ≤ y14.length then (match run tab K 86 [.sl 139 ((y14.take y3.toNat).drop (0 : Int).toNat), .fn 87 [.ref [I n988, I n989, I n990, I n991, I n992, B b993]]] with | some r994 => (castB r994 fun b995 => match run tab K 57 [I n988, I 0, I (IntKind.i64.wrap ((y8.length : Int) - 1))] with | some r996 => (castB r996 fun b997 => match run tab K 62 [B b997, I 3] with | some r998 => (castI .i64 r998 fun n999 => match run tab K 62 [B (!b995), I 13] with | some r1000 => (castI .i64 r1000 fun n1001 => match run tab K 85 [.agg [I y4, I y5, .sl 3 y6, I y7, .sl 105 y8, .sl 103 y9], .agg [I n989, I n990]] with | some r1002 => (castI .i64 r1002 fun n1003 => match run tab K 85 [.agg [I y4, I y5, .sl 3 y6, I y7, .sl 105 y8, .sl 103 y9], .agg [I n991, I n992]] with | some r1004 => (castI .i64 r1004 fun n1005 => match run tab K 61 [.sl 32 [I n999, I n1001, I n1003, I n1005]] with | some r1006 => (castI .i64 r1006 fun n1007 => match (n1007 != (0 : Int)) with | true => (some (I n1007)) | false => (q12 y1 y2 (IntKind.i64.wrap (y3 + 1)) y4 y5 y6 y7 y8 y9 y10 y11 y12 y13 y14 y15 y16)) | none => none) | none => none) | none => none) | none => none) | none => none) | none => none) | none => none) else none) | none => none) else none) | false => (match run tab K 85 [.agg [I y4, I y5, .sl 3 y6, I y7, .sl 105 y8, .sl 103 y9], .agg [I y15, I y16]] with | some r1008 => (castI .i64 r1008 fun n1009 => some (I n1009)) | none => none)
def tr64_5 (K : Nat) (q5 : LA → Int → Int → Int → Int → LA → Int → LA → LA → Int → Int → Int → LA → LA → Int → Int → OA) (q12 : LA → Int → Int → Int → Int → LA → Int → LA → LA → Int → Int → Int → LA → LA → Int → Int → OA) (y1 : LA) (y2 : Int) (y3 : Int) (y4 : Int) (y5 : Int) (y6 : LA) (y7 : Int) (y8 : LA) (y9 : LA) (y10 : Int) (y11 : Int) (y12 : Int) (y13 : LA) (y14 : LA) (y15 : Int) (y16 : Int) : OA :=
  match decide (y3 < y2) with | true => (if 0 ≤ y3 then (match y1[y3.toNat]? with | some x971 => (castI .i64 (cellN x971 0) fun n972 => castI .i64 (cellN x971 1) fun n973 => castI .i64 (cellN x971 2) fun n974 => castI .i64 (cellN x971 3) fun n975 => castI .i64 (cellN x971 4) fun n976 => match run tab K 57 [I n972, I 0, I 3] with | some r977 => (castB r977 fun b978 => match run tab K 62 [B b978, I 4] with | some r979 => (castI .i64 r979 fun n980 => match run tab K 85 [.agg [I y4, I y5, .sl 3 y6, I y7, .sl 105 y8, .sl 103 y9], .agg [I n973, I n974]] with | some r981 => (castI .i64 r981 fun n982 => match run tab K 85 [.agg [I y4, I y5, .sl 3 y6, I y7, .sl 105 y8, .sl 103 y9], .agg [I n975, I n976]] with | some r983 => (castI .i64 r983 fun n984 => match run tab K 61 [.sl 32 [I n980, I n982, I n984]] with | some r985 => (castI .i64 r985 fun n986 => match (n986 != (0 : Int)) with | true => (some (I n986)) | false => (q5 y1 y2 (IntKind.i64.wrap (y3 + 1)) y4 y5 y6 y7 y8 y9 y10 y11 y12 y13 y14 y15 y16)) | none => none) | none => none) | none => none) | none => none) | none => none) | none => none) else none) | false => (q12 y14 (y14.length : Int) (0 : Int) y4 y5 y6 y7 y8 y9 y10 y11 y12 y13 y14 y15 y16)
def tr64 (K : Nat) (q5 : LA → Int → Int → Int → Int → LA → Int → LA → LA → Int → Int → Int → LA → LA → Int → Int → OA) (a0_0 : Int) (a0_1 : Int) (a0_2 : LA) (a0_3 : Int) (a0_4 : LA) (a0_5 : LA) (a1_0 : Int) (a1_1 : Int) (a1_2 : Int) (a1_3 : LA) (a1_4 : LA) (a1_5 : Int) (a1_6 : Int) : OA :=
  match run tab K 57 [I a1_0, I 0, I (IntKind.i64.wrap (a0_0 - 1))] with | some r959 => (castB r959 fun b960 => match b960 with | true => (match run tab K 57 [I a1_1, I 0, I (IntKind.i64.wrap (a0_0 - 1))] with | some r961 => (castB r961 fun b962 => match b962 with | true => (match run tab K 57 [I a1_2, I 0, I (IntKind.i64.wrap ((a0_2.length : Int) - 1))] with | some r963 => (castB r963 fun b964 => match run tab K 62 [B b964, I 3] with | some r965 => (castI .i64 r965 fun n966 => match decide ((a1_3.length : Int) ≤ (4 : Int)) with | true => (match run tab K 62 [B (decide ((a1_4.length : Int) ≤ (4 : Int))), I 2] with | some r967 => (castI .i64 r967 fun n968 => match run tab K 61 [.sl 32 [I n966, I n968]] with | some r969 => (castI .i64 r969 fun n970 => match (n970 != (0 : Int)) with | true => (some (I n970)) | false => (q5 a1_3 (a1_3.length : Int) (0 : Int) a0_0 a0_1 a0_2 a0_3 a0_4 a0_5 a1_0 a1_1 a1_2 a1_3 a1_4 a1_5 a1_6)) | none => none) | none => none) | false => (match run tab K 62 [B false, I 2] with | some r1010 => (castI .i64 r1010 fun n1011 => match run tab K 61 [.sl 32 [I n966, I n1011]] with | some r1012 => (castI .i64 r1012 fun n1013 => match (n1013 != (0 : Int)) with | true => (some (I n1013)) | false => (q5 a1_3 (a1_3.length : Int) (0 : Int) a0_0 a0_1 a0_2 a0_3 a0_4 a0_5 a1_0 a1_1 a1_2 a1_3 a1_4 a1_5 a1_6)) | none => none) | none => none)) | none => none) | none => none) | false => (match run tab K 62 [B false, I 3] with | some r1014 => (castI .i64 r1014 fun n1015 => match decide ((a1_3.length : Int) ≤ (4 : Int)) with | true => (match run tab K 62 [B (decide ((a1_4.length : Int) ≤ (4 : Int))), I 2] with | some r1016 => (castI .i64 r1016 fun n1017 => match run tab K 61 [.sl 32 [I n1015, I n1017]] with | some r1018 => (castI .i64 r1018 fun n1019 => match (n1019 != (0 : Int)) with | true => (some (I n1019)) | false => (q5 a1_3 (a1_3.length : Int) (0 : Int) a0_0 a0_1 a0_2 a0_3 a0_4 a0_5 a1_0 a1_1 a1_2 a1_3 a1_4 a1_5 a1_6)) | none => none) | none => none) | false => (match run tab K 62 [B false, I 2] with | some r1020 => (castI .i64 r1020 fun n1021 => match run tab K 61 [.sl 32 [I n1015, I n1021]] with | some r1022 => (castI .i64 r1022 fun n1023 => match (n1023 != (0 : Int)) with | true => (some (I n1023)) | false => (q5 a1_3 (a1_3.length : Int) (0 : Int) a0_0 a0_1 a0_2 a0_3 a0_4 a0_5 a1_0 a1_1 a1_2 a1_3 a1_4 a1_5 a1_6)) | none => none) | none => none)) | none => none)) | none => none) | false => (match run tab K 62 [B false, I 3] with | some r1024 => (castI .i64 r1024 fun n1025 => match decide ((a1_3.length : Int) ≤ (4 : Int)) with | true => (match run tab K 62 [B (decide ((a1_4.length : Int) ≤ (4 : Int))), I 2] with | some r1026 => (castI .i64 r1026 fun n1027 => match run tab K 61 [.sl 32 [I n1025, I n1027]] with | some r1028 => (castI .i64 r1028 fun n1029 => match (n1029 != (0 : Int)) with | true => (some (I n1029)) | false => (q5 a1_3 (a1_3.length : Int) (0 : Int) a0_0 a0_1 a0_2 a0_3 a0_4 a0_5 a1_0 a1_1 a1_2 a1_3 a1_4 a1_5 a1_6)) | none => none) | none => none) | false => (match run tab K 62 [B false, I 2] with | some r1030 => (castI .i64 r1030 fun n1031 => match run tab K 61 [.sl 32 [I n1025, I n1031]] with | some r1032 => (castI .i64 r1032 fun n1033 => match (n1033 != (0 : Int)) with | true => (some (I n1033)) | false => (q5 a1_3 (a1_3.length : Int) (0 : Int) a0_0 a0_1 a0_2 a0_3 a0_4 a0_5 a1_0 a1_1 a1_2 a1_3 a1_4 a1_5 a1_6)) | none => none) | none => none)) | none => none)) | none => none
def lp64_12 (K : Nat) (q5 : LA → Int → Int → Int → Int → LA → Int → LA → LA → Int → Int → Int → LA → LA → Int → Int → OA) : Nat → LA → Int → Int → Int → Int → LA → Int → LA → LA → Int → Int → Int → LA → LA → Int → Int → OA
  | 0, _, _, _, _, _, _, _, _, _, _, _, _, _, _, _, _ => none
  | k + 1, y1, y2, y3, y4, y5, y6, y7, y8, y9, y10, y11, y12, y13, y14, y15, y16 => tr64_12 K (lp64_12 K q5 k) y1 y2 y3 y4 y5 y6 y7 y8 y9 y10 y11 y12 y13 y14 y15 y16
def lp64_5 (K : Nat) : Nat → LA → Int → Int → Int → Int → LA → Int → LA → LA → Int → Int → Int → LA → LA → Int → Int → OA
  | 0, _, _, _, _, _, _, _, _, _, _, _, _, _, _, _, _ => none
  | k + 1, y1, y2, y3, y4, y5, y6, y7, y8, y9, y10, y11, y12, y13, y14, y15, y16 => tr64_5 K (lp64_5 K k) (lp64_12 K (lp64_5 K k) K) y1 y2 y3 y4 y5 y6 y7 y8 y9 y10 y11 y12 y13 y14 y15 y16
def sh64 (K : Nat) (a0_0 : Int) (a0_1 : Int) (a0_2 : LA) (a0_3 : Int) (a0_4 : LA) (a0_5 : LA) (a1_0 : Int) (a1_1 : Int) (a1_2 : Int) (a1_3 : LA) (a1_4 : LA) (a1_5 : Int) (a1_6 : Int) : OA := tr64 K (lp64_5 K K) a0_0 a0_1 a0_2 a0_3 a0_4 a0_5 a1_0 a1_1 a1_2 a1_3 a1_4 a1_5 a1_6
def fr64_12 (y1 : LA) (y2 : Int) (y3 : Int) (y4 : Int) (y5 : Int) (y6 : LA) (y7 : Int) (y8 : LA) (y9 : LA) (y10 : Int) (y11 : Int) (y12 : Int) (y13 : LA) (y14 : LA) (y15 : Int) (y16 : Int) : Fr := { slots := gap 2 ((.undef, .loc 2 0) :: (.undef, .loc 3 0) :: gap 75 ((.sl 139 y1, .uni .lent) :: (I y2, .uni .ro) :: (I y3, .uni .ro) :: gap 39 [])), boxes := [(2, [(I y4, .ro), (I y5, .ro), (.sl 3 y6, .lent), (I y7, .ro), (.sl 105 y8, .lent), (.sl 103 y9, .lent)]), (3, [(I y10, .ro), (I y11, .ro), (I y12, .ro), (.sl 141 y13, .lent), (.sl 139 y14, .lent), (I y15, .ro), (I y16, .ro)])] }
def fr64_5 (y1 : LA) (y2 : Int) (y3 : Int) (y4 : Int) (y5 : Int) (y6 : LA) (y7 : Int) (y8 : LA) (y9 : LA) (y10 : Int) (y11 : Int) (y12 : Int) (y13 : LA) (y14 : LA) (y15 : Int) (y16 : Int) : Fr := { slots := gap 2 ((.undef, .loc 2 0) :: (.undef, .loc 3 0) :: gap 50 ((.sl 141 y1, .uni .lent) :: (I y2, .uni .ro) :: (I y3, .uni .ro) :: gap 64 [])), boxes := [(2, [(I y4, .ro), (I y5, .ro), (.sl 3 y6, .lent), (I y7, .ro), (.sl 105 y8, .lent), (.sl 103 y9, .lent)]), (3, [(I y10, .ro), (I y11, .ro), (I y12, .ro), (.sl 141 y13, .lent), (.sl 139 y14, .lent), (I y15, .ro), (I y16, .ro)])] }
theorem st64_12 (K : Nat) (RO5 : Fr → OA) (k : Nat) (y1 : LA) (y2 : Int) (y3 : Int) (y4 : Int) (y5 : Int) (y6 : LA) (y7 : Int) (y8 : LA) (y9 : LA) (y10 : Int) (y11 : Int) (y12 : Int) (y13 : LA) (y14 : LA) (y15 : Int) (y16 : Int) : mlp 64 Tryd.f64 K 12 (fun i_ => if i_ = 5 then RO5 else fun _ => none) (k + 1) (fr64_12 y1 y2 y3 y4 y5 y6 y7 y8 y9 y10 y11 y12 y13 y14 y15 y16) = tr64_12 K (fun y1 y2 y3 y4 y5 y6 y7 y8 y9 y10 y11 y12 y13 y14 y15 y16 => mlp 64 Tryd.f64 K 12 (fun i_ => if i_ = 5 then RO5 else fun _ => none) k (fr64_12 y1 y2 y3 y4 y5 y6 y7 y8 y9 y10 y11 y12 y13 y14 y15 y16)) y1 y2 y3 y4 y5 y6 y7 y8 y9 y10 y11 y12 y13 y14 y15 y16 := by kernel_rfl
theorem lq64_12 (K : Nat) (RO5 : Fr → OA) : ∀ (k : Nat) (y1 : LA) (y2 : Int) (y3 : Int) (y4 : Int) (y5 : Int) (y6 : LA) (y7 : Int) (y8 : LA) (y9 : LA) (y10 : Int) (y11 : Int) (y12 : Int) (y13 : LA) (y14 : LA) (y15 : Int) (y16 : Int), mlp 64 Tryd.f64 K 12 (fun i_ => if i_ = 5 then RO5 else fun _ => none) k (fr64_12 y1 y2 y3 y4 y5 y6 y7 y8 y9 y10 y11 y12 y13 y14 y15 y16) = lp64_12 K (fun y1 y2 y3 y4 y5 y6 y7 y8 y9 y10 y11 y12 y13 y14 y15 y16 => RO5 (fr64_5 y1 y2 y3 y4 y5 y6 y7 y8 y9 y10 y11 y12 y13 y14 y15 y16)) k y1 y2 y3 y4 y5 y6 y7 y8 y9 y10 y11 y12 y13 y14 y15 y16
  | 0, _, _, _, _, _, _, _, _, _, _, _, _, _, _, _, _ => rfl
  | k + 1, y1, y2, y3, y4, y5, y6, y7, y8, y9, y10, y11, y12, y13, y14, y15, y16 => by
    rw [st64_12]
    have ih := lq64_12 K RO5 k
    try simp only [ih]
    try rfl
theorem st64_5 (K : Nat) (k : Nat) (y1 : LA) (y2 : Int) (y3 : Int) (y4 : Int) (y5 : Int) (y6 : LA) (y7 : Int) (y8 : LA) (y9 : LA) (y10 : Int) (y11 : Int) (y12 : Int) (y13 : LA) (y14 : LA) (y15 : Int) (y16 : Int) : mlp 64 Tryd.f64 K 5 (fun i_ => fun _ => none) (k + 1) (fr64_5 y1 y2 y3 y4 y5 y6 y7 y8 y9 y10 y11 y12 y13 y14 y15 y16) = tr64_5 K (fun y1 y2 y3 y4 y5 y6 y7 y8 y9 y10 y11 y12 y13 y14 y15 y16 => mlp 64 Tryd.f64 K 5 (fun i_ => fun _ => none) k (fr64_5 y1 y2 y3 y4 y5 y6 y7 y8 y9 y10 y11 y12 y13 y14 y15 y16)) (fun y1 y2 y3 y4 y5 y6 y7 y8 y9 y10 y11 y12 y13 y14 y15 y16 => mlp 64 Tryd.f64 K 12 (fun i_ => if i_ = 5 then (fun fr_ => mlp 64 Tryd.f64 K 5 (fun i_ => fun _ => none) k fr_) else fun _ => none) K (fr64_12 y1 y2 y3 y4 y5 y6 y7 y8 y9 y10 y11 y12 y13 y14 y15 y16)) y1 y2 y3 y4 y5 y6 y7 y8 y9 y10 y11 y12 y13 y14 y15 y16 := by kernel_rfl
theorem lq64_5 (K : Nat) : ∀ (k : Nat) (y1 : LA) (y2 : Int) (y3 : Int) (y4 : Int) (y5 : Int) (y6 : LA) (y7 : Int) (y8 : LA) (y9 : LA) (y10 : Int) (y11 : Int) (y12 : Int) (y13 : LA) (y14 : LA) (y15 : Int) (y16 : Int), mlp 64 Tryd.f64 K 5 (fun i_ => fun _ => none) k (fr64_5 y1 y2 y3 y4 y5 y6 y7 y8 y9 y10 y11 y12 y13 y14 y15 y16) = lp64_5 K k y1 y2 y3 y4 y5 y6 y7 y8 y9 y10 y11 y12 y13 y14 y15 y16
  | 0, _, _, _, _, _, _, _, _, _, _, _, _, _, _, _, _ => rfl
  | k + 1, y1, y2, y3, y4, y5, y6, y7, y8, y9, y10, y11, y12, y13, y14, y15, y16 => by
    rw [st64_5]
    have ih := lq64_5 K k
    have ih12 := lq64_12 K (fun fr_ => mlp 64 Tryd.f64 K 5 (fun i_ => fun _ => none) k fr_) K
    try simp only [ih, ih12]
    try rfl
theorem eq64 (K : Nat) (a0_0 : Int) (a0_1 : Int) (a0_2 : LA) (a0_3 : Int) (a0_4 : LA) (a0_5 : LA) (a1_0 : Int) (a1_1 : Int) (a1_2 : Int) (a1_3 : LA) (a1_4 : LA) (a1_5 : Int) (a1_6 : Int) : run tab (K + 1) 64 [.agg [I a0_0, I a0_1, .sl 3 a0_2, I a0_3, .sl 105 a0_4, .sl 103 a0_5], .agg [I a1_0, I a1_1, I a1_2, .sl 141 a1_3, .sl 139 a1_4, I a1_5, I a1_6]] = sh64 K a0_0 a0_1 a0_2 a0_3 a0_4 a0_5 a1_0 a1_1 a1_2 a1_3 a1_4 a1_5 a1_6 := by
  have h : run tab (K + 1) 64 [.agg [I a0_0, I a0_1, .sl 3 a0_2, I a0_3, .sl 105 a0_4, .sl 103 a0_5], .agg [I a1_0, I a1_1, I a1_2, .sl 141 a1_3, .sl 139 a1_4, I a1_5, I a1_6]] = tr64 K (fun y1 y2 y3 y4 y5 y6 y7 y8 y9 y10 y11 y12 y13 y14 y15 y16 => mlp 64 Tryd.f64 K 5 (fun i_ => fun _ => none) K (fr64_5 y1 y2 y3 y4 y5 y6 y7 y8 y9 y10 y11 y12 y13 y14 y15 y16)) a0_0 a0_1 a0_2 a0_3 a0_4 a0_5 a1_0 a1_1 a1_2 a1_3 a1_4 a1_5 a1_6 := by kernel_rfl
  rw [h]
  simp only [lq64_5]
  rfl

/-! ### examiner/examinerref37.move: function 65 -/
def tr65_11 (K : Nat) (q11 : LA → LA → Int → Int → Int → LA → Int → LA → LA → Int → Int → Int → LA → LA → Int → Int → Int → Int → OA) (y1 : LA) (y2 : LA) (y3 : Int) (y4 : Int) (y5 : Int) (y6 : LA) (y7 : Int) (y8 : LA) (y9 : LA) (y10 : Int) (y11 : Int) (y12 : Int) (y13 : LA) (y14 : LA) (y15 : Int) (y16 : Int) (y17 : Int) (y18 : Int) : OA :=
  match decide (y3 < (y14.length : Int)) with | true => (if 0 ≤ y3 then (match y14[y3.toNat]? with | some x1047 => (castI .i64 (cellN x1047 1) fun n1048 => castI .i64 (cellN x1047 2) fun n1049 => match run tab K 89 [.agg [I n1048, I n1049], .sl 3 y1, I y18] with | some r1050 => (castI .i64 r1050 fun n1051 => if 0 ≤ y3 then (match y14[y3.toNat]? with | some x1052 => (castB (cellN x1052 5) fun b1053 => match b1053 with | true => (if 0 ≤ y3 then (match y14[y3.toNat]? with | some x1054 => (castI .i64 (cellN x1054 3) fun n1055 => castI .i64 (cellN x1054 4) fun n1056 => match run tab K 89 [.agg [I n1055, I n1056], .sl 3 y1, I y18] with | some r1057 => (castI .i64 r1057 fun n1058 => if 0 ≤ y3 then (match y14[y3.toNat]? with | some x1059 => (castI .i64 (cellN x1059 0) fun n1060 => if 0 ≤ n1060 then (match y8[n1060.toNat]? with | some x1061 => (castI .i64 (cellN x1061 0) fun n1062 => castI .i64 (cellN x1061 1) fun n1063 => castI .i64 (cellN x1061 2) fun n1064 => match run tab K 29 [I (IntKind.i64.wrap (n1051 - n1058)), I n1062, I n1063] with | some r1065 => (castB r1065 fun b1066 => match (!b1066) with | true => (some (.tup [.sl 3 [], I 0, B false])) | false => (if 0 ≤ y3 then (match y14[y3.toNat]? with | some x1067 => (castI .i64 (cellN x1067 0) fun n1068 => if 0 ≤ (IntKind.i64.wrap (n1068 + 1)) then (match y2[(IntKind.i64.wrap (n1068 + 1)).toNat]? with | some x1069 => (if (IntKind.i64.wrap (n1068 + 1)).toNat < y2.length then (q11 y1 (y2.set ((IntKind.i64.wrap (n1068 + 1)).toNat) (I (IntKind.i64.wrap (n1051 - n1058)) : AV)) (IntKind.i64.wrap (y3 + 1)) y4 y5 y6 y7 y8 y9 y10 y11 y12 y13 y14 y15 y16 y17 y18) else none) | none => none) else none) | none => none) else none)) | none => none) | none => none) else none) | none => none) else none) | none => none) | none => none) else none) | false => (if 0 ≤ y3 then (match y14[y3.toNat]? with | some x1070 => (castI .i64 (cellN x1070 3) fun n1071 => castI .i64 (cellN x1070 4) fun n1072 => match run tab K 89 [.agg [I n1071, I n1072], .sl 3 y1, I y18] with | some r1073 => (castI .i64 r1073 fun n1074 => if 0 ≤ y3 then (match y14[y3.toNat]? with | some x1075 => (castI .i64 (cellN x1075 0) fun n1076 => if 0 ≤ n1076 then (match y8[n1076.toNat]? with | some x1077 => (castI .i64 (cellN x1077 0) fun n1078 => castI .i64 (cellN x1077 1) fun n1079 => castI .i64 (cellN x1077 2) fun n1080 => match run tab K 29 [I (IntKind.i64.wrap (n1051 + n1074)), I n1078, I n1079] with | some r1081 => (castB r1081 fun b1082 => match (!b1082) with | true => (some (.tup [.sl 3 [], I 0, B false])) | false => (if 0 ≤ y3 then (match y14[y3.toNat]? with | some x1083 => (castI .i64 (cellN x1083 0) fun n1084 => if 0 ≤ (IntKind.i64.wrap (n1084 + 1)) then (match y2[(IntKind.i64.wrap (n1084 + 1)).toNat]? with | some x1085 => (if (IntKind.i64.wrap (n1084 + 1)).toNat < y2.length then (q11 y1 (y2.set ((IntKind.i64.wrap (n1084 + 1)).toNat) (I (IntKind.i64.wrap (n1051 + n1074)) : AV)) (IntKind.i64.wrap (y3 + 1)) y4 y5 y6 y7 y8 y9 y10 y11 y12 y13 y14 y15 y16 y17 y18) else none) | none => none) else none) | none => none) else none)) | none => none) | none => none) else none) | none => none) else none) | none => none) | none => none) else none)) | none => none) else none) | none => none) | none => none) else none) | false => (match run tab K 89 [.agg [I y15, I y16], .sl 3 y1, I y18] with | some r1086 => (castI .i64 r1086 fun n1087 => match run tab K 29 [I n1087, I 0, I (IntKind.i64.wrap (y7 - 1))] with | some r1088 => (castB r1088 fun b1089 => some (.tup [.sl 3 y2, I n1087, B b1089])) | none => none) | none => none)
def tr65_4 (K : Nat) (q4 : LA → Int → Int → Int → LA → Int → LA → LA → Int → Int → Int → LA → LA → Int → Int → Int → Int → OA) (q11 : LA → LA → Int → Int → Int → LA → Int → LA → LA → Int → Int → Int → LA → LA → Int → Int → Int → Int → OA) (y1 : LA) (y2 : Int) (y3 : Int) (y4 : Int) (y5 : LA) (y6 : Int) (y7 : LA) (y8 : LA) (y9 : Int) (y10 : Int) (y11 : Int) (y12 : LA) (y13 : LA) (y14 : Int) (y15 : Int) (y16 : Int) (y17 : Int) : OA :=
  match decide (y2 < (y12.length : Int)) with | true => (if 0 ≤ y2 then (match y12[y2.toNat]? with | some x1036 => (castI .i64 (cellN x1036 0) fun n1037 => castI .i64 (cellN x1036 1) fun n1038 => castI .i64 (cellN x1036 2) fun n1039 => castI .i64 (cellN x1036 3) fun n1040 => castI .i64 (cellN x1036 4) fun n1041 => match run tab K 88 [.agg [I n1037, I n1038, I n1039, I n1040, I n1041], .sl 3 y1, I y17] with | some r1042 => (castB r1042 fun b1043 => match (!b1043) with | true => (some (.tup [.sl 3 [], I 0, B false])) | false => (q4 y1 (IntKind.i64.wrap (y2 + 1)) y3 y4 y5 y6 y7 y8 y9 y10 y11 y12 y13 y14 y15 y16 y17)) | none => none) | none => none) else none) | false => (match run tab K 27 [.sl 3 y1] with | some r1044 => (castL 3 r1044 fun l1045 => match l1045[0]? with | some x1046 => (if 0 < l1045.length then (q11 y1 (l1045.set 0 (I y10 : AV)) (0 : Int) y3 y4 y5 y6 y7 y8 y9 y10 y11 y12 y13 y14 y15 y16 y17) else none) | none => none) | none => none)
def tr65 (K : Nat) (q4 : LA → Int → Int → Int → LA → Int → LA → LA → Int → Int → Int → LA → LA → Int → Int → Int → Int → OA) (a0_0 : Int) (a0_1 : Int) (a0_2 : LA) (a0_3 : Int) (a0_4 : LA) (a0_5 : LA) (a1_0 : Int) (a1_1 : Int) (a1_2 : Int) (a1_3 : LA) (a1_4 : LA) (a1_5 : Int) (a1_6 : Int) (a2 : LA) (a3_0 : Int) (a3_1 : Int) : OA :=
  match a2[0]? with | some x1034 => (castI .i64 x1034 fun n1035 => match (a1_0 != n1035) with | true => (some (.tup [.sl 3 [], I 0, B false])) | false => (match (a1_2 != a3_0) with | true => (some (.tup [.sl 3 [], I 0, B false])) | false => (q4 a2 (0 : Int) a0_0 a0_1 a0_2 a0_3 a0_4 a0_5 a1_0 a1_1 a1_2 a1_3 a1_4 a1_5 a1_6 a3_0 a3_1))) | none => none
def lp65_11 (K : Nat) (q4 : LA → Int → Int → Int → LA → Int → LA → LA → Int → Int → Int → LA → LA → Int → Int → Int → Int → OA) : Nat → LA → LA → Int → Int → Int → LA → Int → LA → LA → Int → Int → Int → LA → LA → Int → Int → Int → Int → OA
  | 0, _, _, _, _, _, _, _, _, _, _, _, _, _, _, _, _, _, _ => none
  | k + 1, y1, y2, y3, y4, y5, y6, y7, y8, y9, y10, y11, y12, y13, y14, y15, y16, y17, y18 => tr65_11 K (lp65_11 K q4 k) y1 y2 y3 y4 y5 y6 y7 y8 y9 y10 y11 y12 y13 y14 y15 y16 y17 y18
def lp65_4 (K : Nat) : Nat → LA → Int → Int → Int → LA → Int → LA → LA → Int → Int → Int → LA → LA → Int → Int → Int → Int → OA
  | 0, _, _, _, _, _, _, _, _, _, _, _, _, _, _, _, _, _ => none
  | k + 1, y1, y2, y3, y4, y5, y6, y7, y8, y9, y10, y11, y12, y13, y14, y15, y16, y17 => tr65_4 K (lp65_4 K k) (lp65_11 K (lp65_4 K k) K) y1 y2 y3 y4 y5 y6 y7 y8 y9 y10 y11 y12 y13 y14 y15 y16 y17
def sh65 (K : Nat) (a0_0 : Int) (a0_1 : Int) (a0_2 : LA) (a0_3 : Int) (a0_4 : LA) (a0_5 : LA) (a1_0 : Int) (a1_1 : Int) (a1_2 : Int) (a1_3 : LA) (a1_4 : LA) (a1_5 : Int) (a1_6 : Int) (a2 : LA) (a3_0 : Int) (a3_1 : Int) : OA := tr65 K (lp65_4 K K) a0_0 a0_1 a0_2 a0_3 a0_4 a0_5 a1_0 a1_1 a1_2 a1_3 a1_4 a1_5 a1_6 a2 a3_0 a3_1
def fr65_11 (y1 : LA) (y2 : LA) (y3 : Int) (y4 : Int) (y5 : Int) (y6 : LA) (y7 : Int) (y8 : LA) (y9 : LA) (y10 : Int) (y11 : Int) (y12 : Int) (y13 : LA) (y14 : LA) (y15 : Int) (y16 : Int) (y17 : Int) (y18 : Int) : Fr := { slots := gap 2 ((.sl 3 y1, .uni .lent) :: gap 1 ((.undef, .loc 4 0) :: (.undef, .loc 5 0) :: gap 1 ((.undef, .loc 7 0) :: gap 4 ((.sl 3 y2, .uni .own) :: (I y3, .uni .ro) :: gap 126 [])))), boxes := [(4, [(I y4, .ro), (I y5, .ro), (.sl 3 y6, .lent), (I y7, .ro), (.sl 105 y8, .lent), (.sl 103 y9, .lent)]), (5, [(I y10, .ro), (I y11, .ro), (I y12, .ro), (.sl 141 y13, .lent), (.sl 139 y14, .lent), (I y15, .ro), (I y16, .ro)]), (7, [(I y17, .ro), (I y18, .ro)])] }
def fr65_4 (y1 : LA) (y2 : Int) (y3 : Int) (y4 : Int) (y5 : LA) (y6 : Int) (y7 : LA) (y8 : LA) (y9 : Int) (y10 : Int) (y11 : Int) (y12 : LA) (y13 : LA) (y14 : Int) (y15 : Int) (y16 : Int) (y17 : Int) : Fr := { slots := gap 2 ((.sl 3 y1, .uni .lent) :: gap 1 ((.undef, .loc 4 0) :: (.undef, .loc 5 0) :: gap 1 ((.undef, .loc 7 0) :: gap 3 ((I y2, .uni .ro) :: gap 128 [])))), boxes := [(4, [(I y3, .ro), (I y4, .ro), (.sl 3 y5, .lent), (I y6, .ro), (.sl 105 y7, .lent), (.sl 103 y8, .lent)]), (5, [(I y9, .ro), (I y10, .ro), (I y11, .ro), (.sl 141 y12, .lent), (.sl 139 y13, .lent), (I y14, .ro), (I y15, .ro)]), (7, [(I y16, .ro), (I y17, .ro)])] }
theorem st65_11 (K : Nat) (RO4 : Fr → OA) (k : Nat) (y1 : LA) (y2 : LA) (y3 : Int) (y4 : Int) (y5 : Int) (y6 : LA) (y7 : Int) (y8 : LA) (y9 : LA) (y10 : Int) (y11 : Int) (y12 : Int) (y13 : LA) (y14 : LA) (y15 : Int) (y16 : Int) (y17 : Int) (y18 : Int) : mlp 65 Tryd.f65 K 11 (fun i_ => if i_ = 4 then RO4 else fun _ => none) (k + 1) (fr65_11 y1 y2 y3 y4 y5 y6 y7 y8 y9 y10 y11 y12 y13 y14 y15 y16 y17 y18) = tr65_11 K (fun y1 y2 y3 y4 y5 y6 y7 y8 y9 y10 y11 y12 y13 y14 y15 y16 y17 y18 => mlp 65 Tryd.f65 K 11 (fun i_ => if i_ = 4 then RO4 else fun _ => none) k (fr65_11 y1 y2 y3 y4 y5 y6 y7 y8 y9 y10 y11 y12 y13 y14 y15 y16 y17 y18)) y1 y2 y3 y4 y5 y6 y7 y8 y9 y10 y11 y12 y13 y14 y15 y16 y17 y18 := by kernel_rfl
theorem lq65_11 (K : Nat) (RO4 : Fr → OA) : ∀ (k : Nat) (y1 : LA) (y2 : LA) (y3 : Int) (y4 : Int) (y5 : Int) (y6 : LA) (y7 : Int) (y8 : LA) (y9 : LA) (y10 : Int) (y11 : Int) (y12 : Int) (y13 : LA) (y14 : LA) (y15 : Int) (y16 : Int) (y17 : Int) (y18 : Int), mlp 65 Tryd.f65 K 11 (fun i_ => if i_ = 4 then RO4 else fun _ => none) k (fr65_11 y1 y2 y3 y4 y5 y6 y7 y8 y9 y10 y11 y12 y13 y14 y15 y16 y17 y18) = lp65_11 K (fun y1 y2 y3 y4 y5 y6 y7 y8 y9 y10 y11 y12 y13 y14 y15 y16 y17 => RO4 (fr65_4 y1 y2 y3 y4 y5 y6 y7 y8 y9 y10 y11 y12 y13 y14 y15 y16 y17)) k y1 y2 y3 y4 y5 y6 y7 y8 y9 y10 y11 y12 y13 y14 y15 y16 y17 y18
  | 0, _, _, _, _, _, _, _, _, _, _, _, _, _, _, _, _, _, _ => rfl
  | k + 1, y1, y2, y3, y4, y5, y6, y7, y8, y9, y10, y11, y12, y13, y14, y15, y16, y17, y18 => by
    rw [st65_11]
    have ih := lq65_11 K RO4 k
    try simp only [ih]
    try rfl
theorem st65_4 (K : Nat) (k : Nat) (y1 : LA) (y2 : Int) (y3 : Int) (y4 : Int) (y5 : LA) (y6 : Int) (y7 : LA) (y8 : LA) (y9 : Int) (y10 : Int) (y11 : Int) (y12 : LA) (y13 : LA) (y14 : Int) (y15 : Int) (y16 : Int) (y17 : Int) : mlp 65 Tryd.f65 K 4 (fun i_ => fun _ => none) (k + 1) (fr65_4 y1 y2 y3 y4 y5 y6 y7 y8 y9 y10 y11 y12 y13 y14 y15 y16 y17) = tr65_4 K (fun y1 y2 y3 y4 y5 y6 y7 y8 y9 y10 y11 y12 y13 y14 y15 y16 y17 => mlp 65 Tryd.f65 K 4 (fun i_ => fun _ => none) k (fr65_4 y1 y2 y3 y4 y5 y6 y7 y8 y9 y10 y11 y12 y13 y14 y15 y16 y17)) (fun y1 y2 y3 y4 y5 y6 y7 y8 y9 y10 y11 y12 y13 y14 y15 y16 y17 y18 => mlp 65 Tryd.f65 K 11 (fun i_ => if i_ = 4 then (fun fr_ => mlp 65 Tryd.f65 K 4 (fun i_ => fun _ => none) k fr_) else fun _ => none) K (fr65_11 y1 y2 y3 y4 y5 y6 y7 y8 y9 y10 y11 y12 y13 y14 y15 y16 y17 y18)) y1 y2 y3 y4 y5 y6 y7 y8 y9 y10 y11 y12 y13 y14 y15 y16 y17 := by kernel_rfl
theorem lq65_4 (K : Nat) : ∀ (k : Nat) (y1 : LA) (y2 : Int) (y3 : Int) (y4 : Int) (y5 : LA) (y6 : Int) (y7 : LA) (y8 : LA) (y9 : Int) (y10 : Int) (y11 : Int) (y12 : LA) (y13 : LA) (y14 : Int) (y15 : Int) (y16 : Int) (y17 : Int), mlp 65 Tryd.f65 K 4 (fun i_ => fun _ => none) k (fr65_4 y1 y2 y3 y4 y5 y6 y7 y8 y9 y10 y11 y12 y13 y14 y15 y16 y17) = lp65_4 K k y1 y2 y3 y4 y5 y6 y7 y8 y9 y10 y11 y12 y13 y14 y15 y16 y17
  | 0, _, _, _, _, _, _, _, _, _, _, _, _, _, _, _, _, _ => rfl
  | k + 1, y1, y2, y3, y4, y5, y6, y7, y8, y9, y10, y11, y12, y13, y14, y15, y16, y17 => by
    rw [st65_4]
    have ih := lq65_4 K k
    have ih11 := lq65_11 K (fun fr_ => mlp 65 Tryd.f65 K 4 (fun i_ => fun _ => none) k fr_) K
    try simp only [ih, ih11]
    try rfl
theorem eq65 (K : Nat) (a0_0 : Int) (a0_1 : Int) (a0_2 : LA) (a0_3 : Int) (a0_4 : LA) (a0_5 : LA) (a1_0 : Int) (a1_1 : Int) (a1_2 : Int) (a1_3 : LA) (a1_4 : LA) (a1_5 : Int) (a1_6 : Int) (a2 : LA) (a3_0 : Int) (a3_1 : Int) : run tab (K + 1) 65 [.agg [I a0_0, I a0_1, .sl 3 a0_2, I a0_3, .sl 105 a0_4, .sl 103 a0_5], .agg [I a1_0, I a1_1, I a1_2, .sl 141 a1_3, .sl 139 a1_4, I a1_5, I a1_6], .sl 3 a2, .agg [I a3_0, I a3_1]] = sh65 K a0_0 a0_1 a0_2 a0_3 a0_4 a0_5 a1_0 a1_1 a1_2 a1_3 a1_4 a1_5 a1_6 a2 a3_0 a3_1 := by
  have h : run tab (K + 1) 65 [.agg [I a0_0, I a0_1, .sl 3 a0_2, I a0_3, .sl 105 a0_4, .sl 103 a0_5], .agg [I a1_0, I a1_1, I a1_2, .sl 141 a1_3, .sl 139 a1_4, I a1_5, I a1_6], .sl 3 a2, .agg [I a3_0, I a3_1]] = tr65 K (fun y1 y2 y3 y4 y5 y6 y7 y8 y9 y10 y11 y12 y13 y14 y15 y16 y17 => mlp 65 Tryd.f65 K 4 (fun i_ => fun _ => none) K (fr65_4 y1 y2 y3 y4 y5 y6 y7 y8 y9 y10 y11 y12 y13 y14 y15 y16 y17)) a0_0 a0_1 a0_2 a0_3 a0_4 a0_5 a1_0 a1_1 a1_2 a1_3 a1_4 a1_5 a1_6 a2 a3_0 a3_1 := by kernel_rfl
  rw [h]
  simp only [lq65_4]
  rfl

/-! ### examiner/model.machineErr: function 66 -/
def tr66 (K : Nat) (a0_0 : Int) (a0_1 : Int) (a0_2 : Int) (a0_3 : Int) (a0_4 : LA) : OA :=
  match run tab K 20 [.agg [I a0_0, I a0_1, I a0_2, I a0_3, .sl 97 a0_4]] with | some r1090 => (castI .i64 (compN r1090 0) fun n1091 => castI .i64 (compN r1090 1) fun n1092 => some (I n1092)) | none => none
def sh66 (K : Nat) (a0_0 : Int) (a0_1 : Int) (a0_2 : Int) (a0_3 : Int) (a0_4 : LA) : OA := tr66 K a0_0 a0_1 a0_2 a0_3 a0_4
theorem eq66 (K : Nat) (a0_0 : Int) (a0_1 : Int) (a0_2 : Int) (a0_3 : Int) (a0_4 : LA) : run tab (K + 1) 66 [.agg [I a0_0, I a0_1, I a0_2, I a0_3, .sl 97 a0_4]] = sh66 K a0_0 a0_1 a0_2 a0_3 a0_4 := by kernel_rfl

/-! ### examiner/examinerref37.StepAt: function 68 -/
def tr68_2 (K : Nat) (q2 : Int → Int → Int → Int → Int → Int → Int → LA → OA) (y1 : Int) (y2 : Int) (y3 : Int) (y4 : Int) (y5 : Int) (y6 : Int) (y7 : Int) (y8 : LA) : OA :=
  match decide (y3 < (y8.length : Int)) with | true => (if 0 ≤ y3 then (match y8[y3.toNat]? with | some x1093 => (castI .i64 (cellN x1093 0) fun n1094 => match (n1094 == y1) with | true => (if 0 ≤ y3 then (match y8[y3.toNat]? with | some x1095 => (castI .i64 (cellN x1095 1) fun n1096 => match (n1096 == y2) with | true => (some (I y3)) | false => (q2 y1 y2 (IntKind.i64.wrap (y3 + 1)) y4 y5 y6 y7 y8)) | none => none) else none) | false => (q2 y1 y2 (IntKind.i64.wrap (y3 + 1)) y4 y5 y6 y7 y8)) | none => none) else none) | false => (some (I (-1)))
def tr68 (K : Nat) (q2 : Int → Int → Int → Int → Int → Int → Int → LA → OA) (a0_0 : Int) (a0_1 : Int) (a0_2 : Int) (a0_3 : Int) (a0_4 : LA) (a1 : Int) (a2 : Int) : OA :=
  q2 a1 a2 (0 : Int) a0_0 a0_1 a0_2 a0_3 a0_4
def lp68_2 (K : Nat) : Nat → Int → Int → Int → Int → Int → Int → Int → LA → OA
  | 0, _, _, _, _, _, _, _, _ => none
  | k + 1, y1, y2, y3, y4, y5, y6, y7, y8 => tr68_2 K (lp68_2 K k) y1 y2 y3 y4 y5 y6 y7 y8
def sh68 (K : Nat) (a0_0 : Int) (a0_1 : Int) (a0_2 : Int) (a0_3 : Int) (a0_4 : LA) (a1 : Int) (a2 : Int) : OA := tr68 K (lp68_2 K K) a0_0 a0_1 a0_2 a0_3 a0_4 a1 a2
def fr68_2 (y1 : Int) (y2 : Int) (y3 : Int) (y4 : Int) (y5 : Int) (y6 : Int) (y7 : Int) (y8 : LA) : Fr := { slots := gap 1 ((I y1, .uni .ro) :: (I y2, .uni .ro) :: (.undef, .loc 3 0) :: gap 3 ((I y3, .uni .ro) :: gap 26 [])), boxes := [(3, [(I y4, .ro), (I y5, .ro), (I y6, .ro), (I y7, .ro), (.sl 97 y8, .lent)])] }
theorem st68_2 (K : Nat) (k : Nat) (y1 : Int) (y2 : Int) (y3 : Int) (y4 : Int) (y5 : Int) (y6 : Int) (y7 : Int) (y8 : LA) : mlp 68 Tryd.f68 K 2 (fun i_ => fun _ => none) (k + 1) (fr68_2 y1 y2 y3 y4 y5 y6 y7 y8) = tr68_2 K (fun y1 y2 y3 y4 y5 y6 y7 y8 => mlp 68 Tryd.f68 K 2 (fun i_ => fun _ => none) k (fr68_2 y1 y2 y3 y4 y5 y6 y7 y8)) y1 y2 y3 y4 y5 y6 y7 y8 := by kernel_rfl
theorem lq68_2 (K : Nat) : ∀ (k : Nat) (y1 : Int) (y2 : Int) (y3 : Int) (y4 : Int) (y5 : Int) (y6 : Int) (y7 : Int) (y8 : LA), mlp 68 Tryd.f68 K 2 (fun i_ => fun _ => none) k (fr68_2 y1 y2 y3 y4 y5 y6 y7 y8) = lp68_2 K k y1 y2 y3 y4 y5 y6 y7 y8
  | 0, _, _, _, _, _, _, _, _ => rfl
  | k + 1, y1, y2, y3, y4, y5, y6, y7, y8 => by
    rw [st68_2]
    have ih := lq68_2 K k
    try simp only [ih]
    try rfl
theorem eq68 (K : Nat) (a0_0 : Int) (a0_1 : Int) (a0_2 : Int) (a0_3 : Int) (a0_4 : LA) (a1 : Int) (a2 : Int) : run tab (K + 1) 68 [.agg [I a0_0, I a0_1, I a0_2, I a0_3, .sl 97 a0_4], I a1, I a2] = sh68 K a0_0 a0_1 a0_2 a0_3 a0_4 a1 a2 := by
  have h : run tab (K + 1) 68 [.agg [I a0_0, I a0_1, I a0_2, I a0_3, .sl 97 a0_4], I a1, I a2] = tr68 K (fun y1 y2 y3 y4 y5 y6 y7 y8 => mlp 68 Tryd.f68 K 2 (fun i_ => fun _ => none) K (fr68_2 y1 y2 y3 y4 y5 y6 y7 y8)) a0_0 a0_1 a0_2 a0_3 a0_4 a1 a2 := by kernel_rfl
  rw [h]
  simp only [lq68_2]
  rfl

/-! ### examiner/model.wordErr: function 69 -/
def tr69 (K : Nat) (a0 : LA) (a1 : Int) : OA :=
  match decide ((a0.length : Int) > (60 : Int)) with | true => (some (I 2)) | false => (match run tab K 91 [.sl 3 a0, .fn 90 [.ref [I a1]]] with | some r1097 => (castB r1097 fun b1098 => match run tab K 62 [B (!b1098), I 3] with | some r1099 => (castI .i64 r1099 fun n1100 => some (I n1100)) | none => none) | none => none)
def sh69 (K : Nat) (a0 : LA) (a1 : Int) : OA := tr69 K a0 a1
theorem eq69 (K : Nat) (a0 : LA) (a1 : Int) : run tab (K + 1) 69 [.sl 3 a0, I a1] = sh69 K a0 a1 := by kernel_rfl

/-! ### slices.Contains[[][2]int,[2]int]: function 71 -/
def tr71 (K : Nat) (a0 : LA) (a1_0 : Int) (a1_1 : Int) : OA :=
  match run tab K 92 [.sl 52 a0, .agg [I a1_0, I a1_1]] with | some r1101 => (castI .i64 r1101 fun n1102 => some (B (decide (n1102 ≥ (0 : Int))))) | none => none
def sh71 (K : Nat) (a0 : LA) (a1_0 : Int) (a1_1 : Int) : OA := tr71 K a0 a1_0 a1_1
theorem eq71 (K : Nat) (a0 : LA) (a1_0 : Int) (a1_1 : Int) : run tab (K + 1) 71 [.sl 52 a0, .agg [I a1_0, I a1_1]] = sh71 K a0 a1_0 a1_1 := by kernel_rfl

/-! ### examiner/examinerref37.Search: function 72 -/
def tr72_6 (K : Nat) (q3 : LA → Int → Int → Int → Int → Int → LA → Int → Int → Int → Int → LA → OA) (q6 : LA → Int → Int → Int → Int → Int → Int → LA → Int → Int → Int → Int → LA → OA) (y1 : LA) (y2 : Int) (y3 : Int) (y4 : Int) (y5 : Int) (y6 : Int) (y7 : Int) (y8 : LA) (y9 : Int) (y10 : Int) (y11 : Int) (y12 : Int) (y13 : LA) : OA :=
  match decide (y3 < y5) with | true => (if 0 ≤ y2 then (match y1[y2.toNat]? with | some x1103 => (castL 3 (cellN x1103 2) fun l1104 => match run tab K 27 [.sl 3 l1104] with | some r1105 => (castL 3 r1105 fun l1106 => if (l1106.length + ([I y3] : LA).length) * 8 ≤ maxBytes then (if 0 ≤ y2 then (match y1[y2.toNat]? with | some x1107 => (castI .i64 (cellN x1107 0) fun n1108 => if 0 ≤ y2 then (match y1[y2.toNat]? with | some x1109 => (castI .i64 (cellN x1109 1) fun n1110 => match run tab K 68 [.agg [I y4, I y5, I y6, I y7, .sl 97 y8], I n1108, I y3] with | some r1111 => (castI .i64 r1111 fun n1112 => match run tab K 68 [.agg [I y9, I y10, I y11, I y12, .sl 97 y13], I n1110, I y3] with | some r1113 => (castI .i64 r1113 fun n1114 => match (n1112 == (-1 : Int)) with | true => (match (n1114 == (-1 : Int)) with | true => (q6 y1 y2 (IntKind.i64.wrap (y3 + 1)) y4 y5 y6 y7 y8 y9 y10 y11 y12 y13) | false => (match (n1112 == (-1 : Int)) with | true => (some (.tup [.sl 3 (l1106 ++ ([I y3] : LA)), B true, .sl 130 y1])) | false => (match (n1114 == (-1 : Int)) with | true => (some (.tup [.sl 3 (l1106 ++ ([I y3] : LA)), B true, .sl 130 y1])) | false => (if 0 ≤ n1112 then (match y8[n1112.toNat]? with | some x1115 => (castI .i64 (cellN x1115 2) fun n1116 => if 0 ≤ n1114 then (match y13[n1114.toNat]? with | some x1117 => (castI .i64 (cellN x1117 2) fun n1118 => match (n1116 != n1118) with | true => (some (.tup [.sl 3 (l1106 ++ ([I y3] : LA)), B true, .sl 130 y1])) | false => (if 0 ≤ n1112 then (match y8[n1112.toNat]? with | some x1119 => (castI .i64 (cellN x1119 3) fun n1120 => if 0 ≤ n1114 then (match y13[n1114.toNat]? with | some x1121 => (castI .i64 (cellN x1121 3) fun n1122 => match run tab K 93 [.sl 130 y1, .agg [I n1120, I n1122, .sl 3 (l1106 ++ ([I y3] : LA))]] with | some r1123 => (castB r1123 fun b1124 => match (!b1124) with | true => (if (y1.length + ([.agg [I n1120, I n1122, .sl 3 (l1106 ++ ([I y3] : LA))]] : LA).length) * 40 ≤ maxBytes then (q6 (y1 ++ ([.agg [I n1120, I n1122, .sl 3 (l1106 ++ ([I y3] : LA))]] : LA)) y2 (IntKind.i64.wrap (y3 + 1)) y4 y5 y6 y7 y8 y9 y10 y11 y12 y13) else none) | false => (q6 y1 y2 (IntKind.i64.wrap (y3 + 1)) y4 y5 y6 y7 y8 y9 y10 y11 y12 y13)) | none => none) | none => none) else none) | none => none) else none)) | none => none) else none) | none => none) else none)))) | false => (match (n1112 == (-1 : Int)) with | true => (some (.tup [.sl 3 (l1106 ++ ([I y3] : LA)), B true, .sl 130 y1])) | false => (match (n1114 == (-1 : Int)) with | true => (some (.tup [.sl 3 (l1106 ++ ([I y3] : LA)), B true, .sl 130 y1])) | false => (if 0 ≤ n1112 then (match y8[n1112.toNat]? with | some x1125 => (castI .i64 (cellN x1125 2) fun n1126 => if 0 ≤ n1114 then (match y13[n1114.toNat]? with | some x1127 => (castI .i64 (cellN x1127 2) fun n1128 => match (n1126 != n1128) with | true => (some (.tup [.sl 3 (l1106 ++ ([I y3] : LA)), B true, .sl 130 y1])) | false => (if 0 ≤ n1112 then (match y8[n1112.toNat]? with | some x1129 => (castI .i64 (cellN x1129 3) fun n1130 => if 0 ≤ n1114 then (match y13[n1114.toNat]? with | some x1131 => (castI .i64 (cellN x1131 3) fun n1132 => match run tab K 93 [.sl 130 y1, .agg [I n1130, I n1132, .sl 3 (l1106 ++ ([I y3] : LA))]] with | some r1133 => (castB r1133 fun b1134 => match (!b1134) with | true => (if (y1.length + ([.agg [I n1130, I n1132, .sl 3 (l1106 ++ ([I y3] : LA))]] : LA).length) * 40 ≤ maxBytes then (q6 (y1 ++ ([.agg [I n1130, I n1132, .sl 3 (l1106 ++ ([I y3] : LA))]] : LA)) y2 (IntKind.i64.wrap (y3 + 1)) y4 y5 y6 y7 y8 y9 y10 y11 y12 y13) else none) | false => (q6 y1 y2 (IntKind.i64.wrap (y3 + 1)) y4 y5 y6 y7 y8 y9 y10 y11 y12 y13)) | none => none) | none => none) else none) | none => none) else none)) | none => none) else none) | none => none) else none)))) | none => none) | none => none) | none => none) else none) | none => none) else none) else none) | none => none) | none => none) else none) | false => (q3 y1 (IntKind.i64.wrap (y2 + 1)) y4 y5 y6 y7 y8 y9 y10 y11 y12 y13)
def tr72_3 (K : Nat) (q6 : LA → Int → Int → Int → Int → Int → Int → LA → Int → Int → Int → Int → LA → OA) (y1 : LA) (y2 : Int) (y3 : Int) (y4 : Int) (y5 : Int) (y6 : Int) (y7 : LA) (y8 : Int) (y9 : Int) (y10 : Int) (y11 : Int) (y12 : LA) : OA :=
  match decide (y2 < (y1.length : Int)) with | true => (q6 y1 y2 (0 : Int) y3 y4 y5 y6 y7 y8 y9 y10 y11 y12) | false => (some (.tup [.sl 3 [], B false, .sl 130 y1]))
def tr72 (K : Nat) (q3 : LA → Int → Int → Int → Int → Int → LA → Int → Int → Int → Int → LA → OA) (a0_0 : Int) (a0_1 : Int) (a0_2 : Int) (a0_3 : Int) (a0_4 : LA) (a1_0 : Int) (a1_1 : Int) (a1_2 : Int) (a1_3 : Int) (a1_4 : LA) (a2_0 : Int) (a2_1 : Int) (a2_2 : LA) : OA :=
  q3 ([.agg [I a2_0, I a2_1, .sl 3 a2_2]] : LA) (0 : Int) a0_0 a0_1 a0_2 a0_3 a0_4 a1_0 a1_1 a1_2 a1_3 a1_4
def lp72_6 (K : Nat) (q3 : LA → Int → Int → Int → Int → Int → LA → Int → Int → Int → Int → LA → OA) : Nat → LA → Int → Int → Int → Int → Int → Int → LA → Int → Int → Int → Int → LA → OA
  | 0, _, _, _, _, _, _, _, _, _, _, _, _, _ => none
  | k + 1, y1, y2, y3, y4, y5, y6, y7, y8, y9, y10, y11, y12, y13 => tr72_6 K q3 (lp72_6 K q3 k) y1 y2 y3 y4 y5 y6 y7 y8 y9 y10 y11 y12 y13
def lp72_3 (K : Nat) : Nat → LA → Int → Int → Int → Int → Int → LA → Int → Int → Int → Int → LA → OA
  | 0, _, _, _, _, _, _, _, _, _, _, _, _ => none
  | k + 1, y1, y2, y3, y4, y5, y6, y7, y8, y9, y10, y11, y12 => tr72_3 K (lp72_6 K (lp72_3 K k) K) y1 y2 y3 y4 y5 y6 y7 y8 y9 y10 y11 y12
def sh72 (K : Nat) (a0_0 : Int) (a0_1 : Int) (a0_2 : Int) (a0_3 : Int) (a0_4 : LA) (a1_0 : Int) (a1_1 : Int) (a1_2 : Int) (a1_3 : Int) (a1_4 : LA) (a2_0 : Int) (a2_1 : Int) (a2_2 : LA) : OA := tr72 K (lp72_3 K K) a0_0 a0_1 a0_2 a0_3 a0_4 a1_0 a1_1 a1_2 a1_3 a1_4 a2_0 a2_1 a2_2
def fr72_6 (y1 : LA) (y2 : Int) (y3 : Int) (y4 : Int) (y5 : Int) (y6 : Int) (y7 : Int) (y8 : LA) (y9 : Int) (y10 : Int) (y11 : Int) (y12 : Int) (y13 : LA) : Fr := { slots := gap 3 ((.undef, .loc 3 0) :: (.undef, .loc 4 0) :: gap 4 ((.sl 130 y1, .uni .own) :: (I y2, .uni .ro) :: (I y3, .uni .ro) :: gap 95 [])), boxes := [(3, [(I y4, .ro), (I y5, .ro), (I y6, .ro), (I y7, .ro), (.sl 97 y8, .lent)]), (4, [(I y9, .ro), (I y10, .ro), (I y11, .ro), (I y12, .ro), (.sl 97 y13, .lent)])] }
def fr72_3 (y1 : LA) (y2 : Int) (y3 : Int) (y4 : Int) (y5 : Int) (y6 : Int) (y7 : LA) (y8 : Int) (y9 : Int) (y10 : Int) (y11 : Int) (y12 : LA) : Fr := { slots := gap 3 ((.undef, .loc 3 0) :: (.undef, .loc 4 0) :: gap 4 ((.sl 130 y1, .uni .own) :: (I y2, .uni .ro) :: gap 96 [])), boxes := [(3, [(I y3, .ro), (I y4, .ro), (I y5, .ro), (I y6, .ro), (.sl 97 y7, .lent)]), (4, [(I y8, .ro), (I y9, .ro), (I y10, .ro), (I y11, .ro), (.sl 97 y12, .lent)])] }
theorem st72_6 (K : Nat) (RO3 : Fr → OA) (k : Nat) (y1 : LA) (y2 : Int) (y3 : Int) (y4 : Int) (y5 : Int) (y6 : Int) (y7 : Int) (y8 : LA) (y9 : Int) (y10 : Int) (y11 : Int) (y12 : Int) (y13 : LA) : mlp 72 Tryd.f72 K 6 (fun i_ => if i_ = 3 then RO3 else fun _ => none) (k + 1) (fr72_6 y1 y2 y3 y4 y5 y6 y7 y8 y9 y10 y11 y12 y13) = tr72_6 K (fun y1 y2 y3 y4 y5 y6 y7 y8 y9 y10 y11 y12 => RO3 (fr72_3 y1 y2 y3 y4 y5 y6 y7 y8 y9 y10 y11 y12)) (fun y1 y2 y3 y4 y5 y6 y7 y8 y9 y10 y11 y12 y13 => mlp 72 Tryd.f72 K 6 (fun i_ => if i_ = 3 then RO3 else fun _ => none) k (fr72_6 y1 y2 y3 y4 y5 y6 y7 y8 y9 y10 y11 y12 y13)) y1 y2 y3 y4 y5 y6 y7 y8 y9 y10 y11 y12 y13 := by kernel_rfl
theorem lq72_6 (K : Nat) (RO3 : Fr → OA) : ∀ (k : Nat) (y1 : LA) (y2 : Int) (y3 : Int) (y4 : Int) (y5 : Int) (y6 : Int) (y7 : Int) (y8 : LA) (y9 : Int) (y10 : Int) (y11 : Int) (y12 : Int) (y13 : LA), mlp 72 Tryd.f72 K 6 (fun i_ => if i_ = 3 then RO3 else fun _ => none) k (fr72_6 y1 y2 y3 y4 y5 y6 y7 y8 y9 y10 y11 y12 y13) = lp72_6 K (fun y1 y2 y3 y4 y5 y6 y7 y8 y9 y10 y11 y12 => RO3 (fr72_3 y1 y2 y3 y4 y5 y6 y7 y8 y9 y10 y11 y12)) k y1 y2 y3 y4 y5 y6 y7 y8 y9 y10 y11 y12 y13
  | 0, _, _, _, _, _, _, _, _, _, _, _, _, _ => rfl
  | k + 1, y1, y2, y3, y4, y5, y6, y7, y8, y9, y10, y11, y12, y13 => by
    rw [st72_6]
    have ih := lq72_6 K RO3 k
    try simp only [ih]
    try rfl
theorem st72_3 (K : Nat) (k : Nat) (y1 : LA) (y2 : Int) (y3 : Int) (y4 : Int) (y5 : Int) (y6 : Int) (y7 : LA) (y8 : Int) (y9 : Int) (y10 : Int) (y11 : Int) (y12 : LA) : mlp 72 Tryd.f72 K 3 (fun i_ => fun _ => none) (k + 1) (fr72_3 y1 y2 y3 y4 y5 y6 y7 y8 y9 y10 y11 y12) = tr72_3 K (fun y1 y2 y3 y4 y5 y6 y7 y8 y9 y10 y11 y12 y13 => mlp 72 Tryd.f72 K 6 (fun i_ => if i_ = 3 then (fun fr_ => mlp 72 Tryd.f72 K 3 (fun i_ => fun _ => none) k fr_) else fun _ => none) K (fr72_6 y1 y2 y3 y4 y5 y6 y7 y8 y9 y10 y11 y12 y13)) y1 y2 y3 y4 y5 y6 y7 y8 y9 y10 y11 y12 := by kernel_rfl
theorem lq72_3 (K : Nat) : ∀ (k : Nat) (y1 : LA) (y2 : Int) (y3 : Int) (y4 : Int) (y5 : Int) (y6 : Int) (y7 : LA) (y8 : Int) (y9 : Int) (y10 : Int) (y11 : Int) (y12 : LA), mlp 72 Tryd.f72 K 3 (fun i_ => fun _ => none) k (fr72_3 y1 y2 y3 y4 y5 y6 y7 y8 y9 y10 y11 y12) = lp72_3 K k y1 y2 y3 y4 y5 y6 y7 y8 y9 y10 y11 y12
  | 0, _, _, _, _, _, _, _, _, _, _, _, _ => rfl
  | k + 1, y1, y2, y3, y4, y5, y6, y7, y8, y9, y10, y11, y12 => by
    rw [st72_3]
    have ih := lq72_3 K k
    have ih6 := lq72_6 K (fun fr_ => mlp 72 Tryd.f72 K 3 (fun i_ => fun _ => none) k fr_) K
    try simp only [ih, ih6]
    try rfl
theorem eq72 (K : Nat) (a0_0 : Int) (a0_1 : Int) (a0_2 : Int) (a0_3 : Int) (a0_4 : LA) (a1_0 : Int) (a1_1 : Int) (a1_2 : Int) (a1_3 : Int) (a1_4 : LA) (a2_0 : Int) (a2_1 : Int) (a2_2 : LA) : run tab (K + 1) 72 [.agg [I a0_0, I a0_1, I a0_2, I a0_3, .sl 97 a0_4], .agg [I a1_0, I a1_1, I a1_2, I a1_3, .sl 97 a1_4], .agg [I a2_0, I a2_1, .sl 3 a2_2]] = sh72 K a0_0 a0_1 a0_2 a0_3 a0_4 a1_0 a1_1 a1_2 a1_3 a1_4 a2_0 a2_1 a2_2 := by
  have h : run tab (K + 1) 72 [.agg [I a0_0, I a0_1, I a0_2, I a0_3, .sl 97 a0_4], .agg [I a1_0, I a1_1, I a1_2, I a1_3, .sl 97 a1_4], .agg [I a2_0, I a2_1, .sl 3 a2_2]] = tr72 K (fun y1 y2 y3 y4 y5 y6 y7 y8 y9 y10 y11 y12 => mlp 72 Tryd.f72 K 3 (fun i_ => fun _ => none) K (fr72_3 y1 y2 y3 y4 y5 y6 y7 y8 y9 y10 y11 y12)) a0_0 a0_1 a0_2 a0_3 a0_4 a1_0 a1_1 a1_2 a1_3 a1_4 a2_0 a2_1 a2_2 := by kernel_rfl
  rw [h]
  simp only [lq72_3]
  rfl

/-! ### examiner/examinerref37.Taken: function 77 -/
def tr77_3 (K : Nat) (q3 : Int → LA → LA → Int → Int → Int → Int → Int → LA → OA) (y1 : Int) (y2 : LA) (y3 : LA) (y4 : Int) (y5 : Int) (y6 : Int) (y7 : Int) (y8 : Int) (y9 : LA) : OA :=
  match decide (y4 < (y2.length : Int)) with | true => (if 0 ≤ y4 then (match y2[y4.toNat]? with | some x1135 => (castI .i64 x1135 fun n1136 => match run tab K 68 [.agg [I y5, I y6, I y7, I y8, .sl 97 y9], I y1, I n1136] with | some r1137 => (castI .i64 r1137 fun n1138 => match (n1138 == (-1 : Int)) with | true => (some (.sl 3 y3)) | false => (if (y3.length + ([I n1138] : LA).length) * 8 ≤ maxBytes then (if 0 ≤ n1138 then (match y9[n1138.toNat]? with | some x1139 => (castI .i64 (cellN x1139 3) fun n1140 => q3 n1140 y2 (y3 ++ ([I n1138] : LA)) (IntKind.i64.wrap (y4 + 1)) y5 y6 y7 y8 y9) | none => none) else none) else none)) | none => none) | none => none) else none) | false => (some (.sl 3 y3))
def tr77 (K : Nat) (q3 : Int → LA → LA → Int → Int → Int → Int → Int → LA → OA) (a0_0 : Int) (a0_1 : Int) (a0_2 : Int) (a0_3 : Int) (a0_4 : LA) (a1 : Int) (a2 : LA) : OA :=
  q3 a1 a2 ([] : LA) (0 : Int) a0_0 a0_1 a0_2 a0_3 a0_4
def lp77_3 (K : Nat) : Nat → Int → LA → LA → Int → Int → Int → Int → Int → LA → OA
  | 0, _, _, _, _, _, _, _, _, _ => none
  | k + 1, y1, y2, y3, y4, y5, y6, y7, y8, y9 => tr77_3 K (lp77_3 K k) y1 y2 y3 y4 y5 y6 y7 y8 y9
def sh77 (K : Nat) (a0_0 : Int) (a0_1 : Int) (a0_2 : Int) (a0_3 : Int) (a0_4 : LA) (a1 : Int) (a2 : LA) : OA := tr77 K (lp77_3 K K) a0_0 a0_1 a0_2 a0_3 a0_4 a1 a2
def fr77_3 (y1 : Int) (y2 : LA) (y3 : LA) (y4 : Int) (y5 : Int) (y6 : Int) (y7 : Int) (y8 : Int) (y9 : LA) : Fr := { slots := gap 1 ((I y1, .uni .ro) :: (.sl 3 y2, .uni .lent) :: (.undef, .loc 3 0) :: gap 3 ((.sl 3 y3, .uni .own) :: (I y4, .uni .ro) :: gap 28 [])), boxes := [(3, [(I y5, .ro), (I y6, .ro), (I y7, .ro), (I y8, .ro), (.sl 97 y9, .lent)])] }
theorem st77_3 (K : Nat) (k : Nat) (y1 : Int) (y2 : LA) (y3 : LA) (y4 : Int) (y5 : Int) (y6 : Int) (y7 : Int) (y8 : Int) (y9 : LA) : mlp 77 Tryd.f77 K 3 (fun i_ => fun _ => none) (k + 1) (fr77_3 y1 y2 y3 y4 y5 y6 y7 y8 y9) = tr77_3 K (fun y1 y2 y3 y4 y5 y6 y7 y8 y9 => mlp 77 Tryd.f77 K 3 (fun i_ => fun _ => none) k (fr77_3 y1 y2 y3 y4 y5 y6 y7 y8 y9)) y1 y2 y3 y4 y5 y6 y7 y8 y9 := by kernel_rfl
theorem lq77_3 (K : Nat) : ∀ (k : Nat) (y1 : Int) (y2 : LA) (y3 : LA) (y4 : Int) (y5 : Int) (y6 : Int) (y7 : Int) (y8 : Int) (y9 : LA), mlp 77 Tryd.f77 K 3 (fun i_ => fun _ => none) k (fr77_3 y1 y2 y3 y4 y5 y6 y7 y8 y9) = lp77_3 K k y1 y2 y3 y4 y5 y6 y7 y8 y9
  | 0, _, _, _, _, _, _, _, _, _ => rfl
  | k + 1, y1, y2, y3, y4, y5, y6, y7, y8, y9 => by
    rw [st77_3]
    have ih := lq77_3 K k
    try simp only [ih]
    try rfl
theorem eq77 (K : Nat) (a0_0 : Int) (a0_1 : Int) (a0_2 : Int) (a0_3 : Int) (a0_4 : LA) (a1 : Int) (a2 : LA) : run tab (K + 1) 77 [.agg [I a0_0, I a0_1, I a0_2, I a0_3, .sl 97 a0_4], I a1, .sl 3 a2] = sh77 K a0_0 a0_1 a0_2 a0_3 a0_4 a1 a2 := by
  have h : run tab (K + 1) 77 [.agg [I a0_0, I a0_1, I a0_2, I a0_3, .sl 97 a0_4], I a1, .sl 3 a2] = tr77 K (fun y1 y2 y3 y4 y5 y6 y7 y8 y9 => mlp 77 Tryd.f77 K 3 (fun i_ => fun _ => none) K (fr77_3 y1 y2 y3 y4 y5 y6 y7 y8 y9)) a0_0 a0_1 a0_2 a0_3 a0_4 a1 a2 := by kernel_rfl
  rw [h]
  simp only [lq77_3]
  rfl

/-! ### examiner/examinerbase.Count: function 81 -/
def tr81 (K : Nat) (a0 : Bool) : OA :=
  match a0 with | true => (some (I 1)) | false => (some (I 0))
def sh81 (K : Nat) (a0 : Bool) : OA := tr81 K a0
theorem eq81 (K : Nat) (a0 : Bool) : run tab (K + 1) 81 [B a0] = sh81 K a0 := by kernel_rfl

/-! ### examiner/model.move: function 82 -/
def tr82_7 (K : Nat) (q7 : LA → Int → Int → Int → Int → LA → Int → LA → LA → LA → Int → LA → Int → LA → Int → OA) (y1 : LA) (y2 : Int) (y3 : Int) (y4 : Int) (y5 : Int) (y6 : LA) (y7 : Int) (y8 : LA) (y9 : LA) (y10 : LA) (y11 : Int) (y12 : LA) (y13 : Int) (y14 : LA) (y15 : Int) : OA :=
  match decide (y3 < y2) with | true => (if 0 ≤ y3 then (match y1[y3.toNat]? with | some x1150 => (castI .i64 (cellN x1150 0) fun n1151 => castI .i64 (cellN x1150 1) fun n1152 => castI .i64 (cellN x1150 2) fun n1153 => castI .i64 (cellN x1150 3) fun n1154 => castI .i64 (cellN x1150 4) fun n1155 => castB (cellN x1150 5) fun b1156 => match run tab K 105 [.agg [I n1154, I n1155], .sl 3 y10, I y11] with | some r1157 => (castI .i64 r1157 fun n1158 => match b1156 with | true => (match run tab K 105 [.agg [I n1152, I n1153], .sl 3 y10, I y11] with | some r1159 => (castI .i64 r1159 fun n1160 => if 0 ≤ n1151 then (match y8[n1151.toNat]? with | some x1161 => (castI .i64 (cellN x1161 0) fun n1162 => castI .i64 (cellN x1161 1) fun n1163 => castI .i64 (cellN x1161 2) fun n1164 => match run tab K 57 [I (IntKind.i64.wrap ((IntKind.i64.wrap (-n1158)) + n1160)), I n1162, I n1163] with | some r1165 => (castB r1165 fun b1166 => match (!b1166) with | true => (some (.tup [.agg [.sl 3 [], I 0], B false])) | false => (if 0 ≤ (IntKind.i64.wrap (1 + n1151)) then (match y14[(IntKind.i64.wrap (1 + n1151)).toNat]? with | some x1167 => (if (IntKind.i64.wrap (1 + n1151)).toNat < y14.length then (q7 y1 y2 (IntKind.i64.wrap (y3 + 1)) y4 y5 y6 y7 y8 y9 y10 y11 y12 y13 (y14.set ((IntKind.i64.wrap (1 + n1151)).toNat) (I (IntKind.i64.wrap ((IntKind.i64.wrap (-n1158)) + n1160)) : AV)) y15) else none) | none => none) else none)) | none => none) | none => none) else none) | none => none) | false => (match run tab K 105 [.agg [I n1152, I n1153], .sl 3 y10, I y11] with | some r1168 => (castI .i64 r1168 fun n1169 => if 0 ≤ n1151 then (match y8[n1151.toNat]? with | some x1170 => (castI .i64 (cellN x1170 0) fun n1171 => castI .i64 (cellN x1170 1) fun n1172 => castI .i64 (cellN x1170 2) fun n1173 => match run tab K 57 [I (IntKind.i64.wrap (n1158 + n1169)), I n1171, I n1172] with | some r1174 => (castB r1174 fun b1175 => match (!b1175) with | true => (some (.tup [.agg [.sl 3 [], I 0], B false])) | false => (if 0 ≤ (IntKind.i64.wrap (1 + n1151)) then (match y14[(IntKind.i64.wrap (1 + n1151)).toNat]? with | some x1176 => (if (IntKind.i64.wrap (1 + n1151)).toNat < y14.length then (q7 y1 y2 (IntKind.i64.wrap (y3 + 1)) y4 y5 y6 y7 y8 y9 y10 y11 y12 y13 (y14.set ((IntKind.i64.wrap (1 + n1151)).toNat) (I (IntKind.i64.wrap (n1158 + n1169)) : AV)) y15) else none) | none => none) else none)) | none => none) | none => none) else none) | none => none)) | none => none) | none => none) else none) | false => (match run tab K 57 [I y15, I 0, I (IntKind.i64.wrap (y7 - 1))] with | some r1177 => (castB r1177 fun b1178 => some (.tup [.agg [.sl 3 y14, I y15], B b1178])) | none => none)
def tr82 (K : Nat) (q7 : LA → Int → Int → Int → Int → LA → Int → LA → LA → LA → Int → LA → Int → LA → Int → OA) (a0_0 : Int) (a0_1 : Int) (a0_2 : LA) (a0_3 : Int) (a0_4 : LA) (a0_5 : LA) (a1_0 : Int) (a1_1 : Int) (a1_2 : Int) (a1_3 : LA) (a1_4 : LA) (a1_5 : Int) (a1_6 : Int) (a2 : LA) (a3 : Int) : OA :=
  match a2[0]? with | some x1141 => (castI .i64 x1141 fun n1142 => match (a1_0 != n1142) with | true => (some (.tup [.agg [.sl 3 [], I 0], B false])) | false => (match run tab K 104 [.sl 141 a1_3, .fn 102 [.ref [.sl 3 a2], .ref [I a3]]] with | some r1143 => (castB r1143 fun b1144 => match b1144 with | true => (some (.tup [.agg [.sl 3 [], I 0], B false])) | false => (match run tab K 70 [.sl 3 a2] with | some r1145 => (castL 3 r1145 fun l1146 => match run tab K 105 [.agg [I a1_5, I a1_6], .sl 3 a2, I a3] with | some r1147 => (castI .i64 r1147 fun n1148 => match l1146[0]? with | some x1149 => (if 0 < l1146.length then (q7 a1_4 (a1_4.length : Int) (0 : Int) a0_0 a0_1 a0_2 a0_3 a0_4 a0_5 a2 a3 ([] : LA) (0 : Int) (l1146.set 0 (I a1_1 : AV)) n1148) else none) | none => none) | none => none) | none => none)) | none => none)) | none => none
def lp82_7 (K : Nat) : Nat → LA → Int → Int → Int → Int → LA → Int → LA → LA → LA → Int → LA → Int → LA → Int → OA
  | 0, _, _, _, _, _, _, _, _, _, _, _, _, _, _, _ => none
  | k + 1, y1, y2, y3, y4, y5, y6, y7, y8, y9, y10, y11, y12, y13, y14, y15 => tr82_7 K (lp82_7 K k) y1 y2 y3 y4 y5 y6 y7 y8 y9 y10 y11 y12 y13 y14 y15
def sh82 (K : Nat) (a0_0 : Int) (a0_1 : Int) (a0_2 : LA) (a0_3 : Int) (a0_4 : LA) (a0_5 : LA) (a1_0 : Int) (a1_1 : Int) (a1_2 : Int) (a1_3 : LA) (a1_4 : LA) (a1_5 : Int) (a1_6 : Int) (a2 : LA) (a3 : Int) : OA := tr82 K (lp82_7 K K) a0_0 a0_1 a0_2 a0_3 a0_4 a0_5 a1_0 a1_1 a1_2 a1_3 a1_4 a1_5 a1_6 a2 a3
def fr82_7 (y1 : LA) (y2 : Int) (y3 : Int) (y4 : Int) (y5 : Int) (y6 : LA) (y7 : Int) (y8 : LA) (y9 : LA) (y10 : LA) (y11 : Int) (y12 : LA) (y13 : Int) (y14 : LA) (y15 : Int) : Fr := { slots := gap 4 ((.undef, .loc 4 0) :: gap 1 ((.undef, .loc 6 0) :: (.undef, .loc 7 0) :: (.undef, .loc 8 0) :: gap 2 ((.undef, .loc 11 0) :: gap 32 ((.sl 139 y1, .uni .lent) :: (I y2, .uni .ro) :: (I y3, .uni .ro) :: gap 48 [])))), boxes := [(4, [(I y4, .ro), (I y5, .ro), (.sl 3 y6, .lent), (I y7, .ro), (.sl 105 y8, .lent), (.sl 103 y9, .lent)]), (6, [(.sl 3 y10, .lent)]), (7, [(I y11, .ro)]), (8, [(.sl 3 y12, .own), (I y13, .ro)]), (11, [(.sl 3 y14, .own), (I y15, .ro)])] }
theorem st82_7 (K : Nat) (k : Nat) (y1 : LA) (y2 : Int) (y3 : Int) (y4 : Int) (y5 : Int) (y6 : LA) (y7 : Int) (y8 : LA) (y9 : LA) (y10 : LA) (y11 : Int) (y12 : LA) (y13 : Int) (y14 : LA) (y15 : Int) : mlp 82 Tryd.f82 K 7 (fun i_ => fun _ => none) (k + 1) (fr82_7 y1 y2 y3 y4 y5 y6 y7 y8 y9 y10 y11 y12 y13 y14 y15) = tr82_7 K (fun y1 y2 y3 y4 y5 y6 y7 y8 y9 y10 y11 y12 y13 y14 y15 => mlp 82 Tryd.f82 K 7 (fun i_ => fun _ => none) k (fr82_7 y1 y2 y3 y4 y5 y6 y7 y8 y9 y10 y11 y12 y13 y14 y15)) y1 y2 y3 y4 y5 y6 y7 y8 y9 y10 y11 y12 y13 y14 y15 := by kernel_rfl
theorem lq82_7 (K : Nat) : ∀ (k : Nat) (y1 : LA) (y2 : Int) (y3 : Int) (y4 : Int) (y5 : Int) (y6 : LA) (y7 : Int) (y8 : LA) (y9 : LA) (y10 : LA) (y11 : Int) (y12 : LA) (y13 : Int) (y14 : LA) (y15 : Int), mlp 82 Tryd.f82 K 7 (fun i_ => fun _ => none) k (fr82_7 y1 y2 y3 y4 y5 y6 y7 y8 y9 y10 y11 y12 y13 y14 y15) = lp82_7 K k y1 y2 y3 y4 y5 y6 y7 y8 y9 y10 y11 y12 y13 y14 y15
  | 0, _, _, _, _, _, _, _, _, _, _, _, _, _, _, _ => rfl
  | k + 1, y1, y2, y3, y4, y5, y6, y7, y8, y9, y10, y11, y12, y13, y14, y15 => by
    rw [st82_7]
    have ih := lq82_7 K k
    try simp only [ih]
    try rfl
theorem eq82 (K : Nat) (a0_0 : Int) (a0_1 : Int) (a0_2 : LA) (a0_3 : Int) (a0_4 : LA) (a0_5 : LA) (a1_0 : Int) (a1_1 : Int) (a1_2 : Int) (a1_3 : LA) (a1_4 : LA) (a1_5 : Int) (a1_6 : Int) (a2 : LA) (a3 : Int) : run tab (K + 1) 82 [.agg [I a0_0, I a0_1, .sl 3 a0_2, I a0_3, .sl 105 a0_4, .sl 103 a0_5], .agg [I a1_0, I a1_1, I a1_2, .sl 141 a1_3, .sl 139 a1_4, I a1_5, I a1_6], .sl 3 a2, I a3] = sh82 K a0_0 a0_1 a0_2 a0_3 a0_4 a0_5 a1_0 a1_1 a1_2 a1_3 a1_4 a1_5 a1_6 a2 a3 := by
  have h : run tab (K + 1) 82 [.agg [I a0_0, I a0_1, .sl 3 a0_2, I a0_3, .sl 105 a0_4, .sl 103 a0_5], .agg [I a1_0, I a1_1, I a1_2, .sl 141 a1_3, .sl 139 a1_4, I a1_5, I a1_6], .sl 3 a2, I a3] = tr82 K (fun y1 y2 y3 y4 y5 y6 y7 y8 y9 y10 y11 y12 y13 y14 y15 => mlp 82 Tryd.f82 K 7 (fun i_ => fun _ => none) K (fr82_7 y1 y2 y3 y4 y5 y6 y7 y8 y9 y10 y11 y12 y13 y14 y15)) a0_0 a0_1 a0_2 a0_3 a0_4 a0_5 a1_0 a1_1 a1_2 a1_3 a1_4 a1_5 a1_6 a2 a3 := by kernel_rfl
  rw [h]
  simp only [lq82_7]
  rfl

/-! ### cmp.isNaN[int]: function 84 -/
def tr84 (K : Nat) (a0 : Int) : OA :=
  some (B (a0 != a0))
def sh84 (K : Nat) (a0 : Int) : OA := tr84 K a0
theorem eq84 (K : Nat) (a0 : Int) : run tab (K + 1) 84 [I a0] = sh84 K a0 := by kernel_rfl

/-! ### slices.ContainsFunc[[]examiner/api.ModelSet,examiner/api.ModelSet]: function 86 -/
def tr86 (K : Nat) (a0 : LA) (a1 : AV) : OA :=
  match run tab K 106 [.sl 139 a0, a1] with | some r1179 => (castI .i64 r1179 fun n1180 => some (B (decide (n1180 ≥ (0 : Int))))) | none => none
def sh86 (K : Nat) (a0 : LA) (a1 : AV) : OA := tr86 K a0 a1
theorem eq86 (K : Nat) (a0 : LA) (a1 : AV) : run tab (K + 1) 86 [.sl 139 a0, a1] = sh86 K a0 a1 := by kernel_rfl

/-! ### examiner/model.moveErr$1: function 87 -/
def tr87 (K : Nat) (a0_0 : Int) (a0_1 : Int) (a0_2 : Int) (a0_3 : Int) (a0_4 : Int) (a0_5 : Bool) (c0 : AV) : OA :=
  castRef c0 fun p1181 => castRef (.ref p1181) fun p1182 => castI .i64 (p1182.getD 0 .undef) fun n1183 => some (B (a0_0 == n1183))
def sh87 (K : Nat) (a0_0 : Int) (a0_1 : Int) (a0_2 : Int) (a0_3 : Int) (a0_4 : Int) (a0_5 : Bool) (c0 : AV) : OA := tr87 K a0_0 a0_1 a0_2 a0_3 a0_4 a0_5 c0
theorem eq87 (K : Nat) (a0_0 : Int) (a0_1 : Int) (a0_2 : Int) (a0_3 : Int) (a0_4 : Int) (a0_5 : Bool) (c0 : AV) : run tab (K + 1) 87 [.agg [I a0_0, I a0_1, I a0_2, I a0_3, I a0_4, B a0_5], c0] = sh87 K a0_0 a0_1 a0_2 a0_3 a0_4 a0_5 c0 := by kernel_rfl

/-! ### examiner/examinerref37.holds: function 88 -/
def tr88 (K : Nat) (a0_0 : Int) (a0_1 : Int) (a0_2 : Int) (a0_3 : Int) (a0_4 : Int) (a1 : LA) (a2 : Int) : OA :=
  match run tab K 89 [.agg [I a0_1, I a0_2], .sl 3 a1, I a2] with | some r1184 => (castI .i64 r1184 fun n1185 => match run tab K 89 [.agg [I a0_3, I a0_4], .sl 3 a1, I a2] with | some r1186 => (castI .i64 r1186 fun n1187 => match (a0_0 == (0 : Int)) with | true => (some (B (n1185 == n1187))) | false => (match (a0_0 == (1 : Int)) with | true => (some (B (n1185 != n1187))) | false => (match (a0_0 == (2 : Int)) with | true => (some (B (decide (n1185 < n1187)))) | false => (some (B (decide (n1185 ≤ n1187))))))) | none => none) | none => none
def sh88 (K : Nat) (a0_0 : Int) (a0_1 : Int) (a0_2 : Int) (a0_3 : Int) (a0_4 : Int) (a1 : LA) (a2 : Int) : OA := tr88 K a0_0 a0_1 a0_2 a0_3 a0_4 a1 a2
theorem eq88 (K : Nat) (a0_0 : Int) (a0_1 : Int) (a0_2 : Int) (a0_3 : Int) (a0_4 : Int) (a1 : LA) (a2 : Int) : run tab (K + 1) 88 [.agg [I a0_0, I a0_1, I a0_2, I a0_3, I a0_4], .sl 3 a1, I a2] = sh88 K a0_0 a0_1 a0_2 a0_3 a0_4 a1 a2 := by kernel_rfl

/-! ### examiner/examinerref37.value: function 89 -/
def tr89 (K : Nat) (a0_0 : Int) (a0_1 : Int) (a1 : LA) (a2 : Int) : OA :=
  match (a0_0 == (0 : Int)) with | true => (some (I a0_1)) | false => (match (a0_0 == (1 : Int)) with | true => (if 0 ≤ (IntKind.i64.wrap (a0_1 + 1)) then (match a1[(IntKind.i64.wrap (a0_1 + 1)).toNat]? with | some x1188 => (castI .i64 x1188 fun n1189 => some (I n1189)) | none => none) else none) | false => (some (I a2)))
def sh89 (K : Nat) (a0_0 : Int) (a0_1 : Int) (a1 : LA) (a2 : Int) : OA := tr89 K a0_0 a0_1 a1 a2
theorem eq89 (K : Nat) (a0_0 : Int) (a0_1 : Int) (a1 : LA) (a2 : Int) : run tab (K + 1) 89 [.agg [I a0_0, I a0_1], .sl 3 a1, I a2] = sh89 K a0_0 a0_1 a1 a2 := by kernel_rfl

/-! ### examiner/model.wordErr$1: function 90 -/
def tr90 (K : Nat) (a0 : Int) (c0 : AV) : OA :=
  castRef c0 fun p1190 => castI .i64 (p1190.getD 0 .undef) fun n1191 => match run tab K 57 [I a0, I 0, I (IntKind.i64.wrap (n1191 - 1))] with | some r1192 => (castB r1192 fun b1193 => some (B (!b1193))) | none => none
def sh90 (K : Nat) (a0 : Int) (c0 : AV) : OA := tr90 K a0 c0
theorem eq90 (K : Nat) (a0 : Int) (c0 : AV) : run tab (K + 1) 90 [I a0, c0] = sh90 K a0 c0 := by kernel_rfl

/-! ### slices.ContainsFunc[[]int,int]: function 91 -/
def tr91 (K : Nat) (a0 : LA) (a1 : AV) : OA :=
  match run tab K 107 [.sl 3 a0, a1] with | some r1194 => (castI .i64 r1194 fun n1195 => some (B (decide (n1195 ≥ (0 : Int))))) | none => none
def sh91 (K : Nat) (a0 : LA) (a1 : AV) : OA := tr91 K a0 a1
theorem eq91 (K : Nat) (a0 : LA) (a1 : AV) : run tab (K + 1) 91 [.sl 3 a0, a1] = sh91 K a0 a1 := by kernel_rfl

/-! ### slices.Index[[][2]int,[2]int]: function 92 -/
def tr92_2 (K : Nat) (q2 : LA → Int → Int → Int → Int → OA) (y1 : LA) (y2 : Int) (y3 : Int) (y4 : Int) (y5 : Int) : OA :=
  match decide (y3 < y2) with | true => (if 0 ≤ y3 then (match y1[y3.toNat]? with | some x1196 => (castI .i64 (cellN x1196 0) fun n1197 => castI .i64 (cellN x1196 1) fun n1198 => match ((y4 == n1197) && ((y5 == n1198) && true)) with | true => (some (I y3)) | false => (q2 y1 y2 (IntKind.i64.wrap (y3 + 1)) y4 y5)) | none => none) else none) | false => (some (I (-1)))
def tr92 (K : Nat) (q2 : LA → Int → Int → Int → Int → OA) (a0 : LA) (a1_0 : Int) (a1_1 : Int) : OA :=
  q2 a0 (a0.length : Int) (0 : Int) a1_0 a1_1
def lp92_2 (K : Nat) : Nat → LA → Int → Int → Int → Int → OA
  | 0, _, _, _, _, _ => none
  | k + 1, y1, y2, y3, y4, y5 => tr92_2 K (lp92_2 K k) y1 y2 y3 y4 y5
def sh92 (K : Nat) (a0 : LA) (a1_0 : Int) (a1_1 : Int) : OA := tr92 K (lp92_2 K K) a0 a1_0 a1_1
def fr92_2 (y1 : LA) (y2 : Int) (y3 : Int) (y4 : Int) (y5 : Int) : Fr := { slots := (.sl 52 y1, .uni .lent) :: gap 2 ((.undef, .loc 3 0) :: gap 3 ((I y2, .uni .ro) :: (I y3, .uni .ro) :: gap 10 [])), boxes := [(3, [(I y4, .ro), (I y5, .ro)])] }
theorem st92_2 (K : Nat) (k : Nat) (y1 : LA) (y2 : Int) (y3 : Int) (y4 : Int) (y5 : Int) : mlp 92 Tryd.f92 K 2 (fun i_ => fun _ => none) (k + 1) (fr92_2 y1 y2 y3 y4 y5) = tr92_2 K (fun y1 y2 y3 y4 y5 => mlp 92 Tryd.f92 K 2 (fun i_ => fun _ => none) k (fr92_2 y1 y2 y3 y4 y5)) y1 y2 y3 y4 y5 := by kernel_rfl
theorem lq92_2 (K : Nat) : ∀ (k : Nat) (y1 : LA) (y2 : Int) (y3 : Int) (y4 : Int) (y5 : Int), mlp 92 Tryd.f92 K 2 (fun i_ => fun _ => none) k (fr92_2 y1 y2 y3 y4 y5) = lp92_2 K k y1 y2 y3 y4 y5
  | 0, _, _, _, _, _ => rfl
  | k + 1, y1, y2, y3, y4, y5 => by
    rw [st92_2]
    have ih := lq92_2 K k
    try simp only [ih]
    try rfl
theorem eq92 (K : Nat) (a0 : LA) (a1_0 : Int) (a1_1 : Int) : run tab (K + 1) 92 [.sl 52 a0, .agg [I a1_0, I a1_1]] = sh92 K a0 a1_0 a1_1 := by
  have h : run tab (K + 1) 92 [.sl 52 a0, .agg [I a1_0, I a1_1]] = tr92 K (fun y1 y2 y3 y4 y5 => mlp 92 Tryd.f92 K 2 (fun i_ => fun _ => none) K (fr92_2 y1 y2 y3 y4 y5)) a0 a1_0 a1_1 := by kernel_rfl
  rw [h]
  simp only [lq92_2]
  rfl

/-! ### examiner/examinerref37.met: function 93 -/
def tr93_2 (K : Nat) (q2 : LA → Int → Int → Int → LA → OA) (y1 : LA) (y2 : Int) (y3 : Int) (y4 : Int) (y5 : LA) : OA :=
  match decide (y2 < (y1.length : Int)) with | true => (if 0 ≤ y2 then (match y1[y2.toNat]? with | some x1199 => (castI .i64 (cellN x1199 0) fun n1200 => match (n1200 == y3) with | true => (if 0 ≤ y2 then (match y1[y2.toNat]? with | some x1201 => (castI .i64 (cellN x1201 1) fun n1202 => match (n1202 == y4) with | true => (some (B true)) | false => (q2 y1 (IntKind.i64.wrap (y2 + 1)) y3 y4 y5)) | none => none) else none) | false => (q2 y1 (IntKind.i64.wrap (y2 + 1)) y3 y4 y5)) | none => none) else none) | false => (some (B false))
def tr93 (K : Nat) (q2 : LA → Int → Int → Int → LA → OA) (a0 : LA) (a1_0 : Int) (a1_1 : Int) (a1_2 : LA) : OA :=
  q2 a0 (0 : Int) a1_0 a1_1 a1_2
def lp93_2 (K : Nat) : Nat → LA → Int → Int → Int → LA → OA
  | 0, _, _, _, _, _ => none
  | k + 1, y1, y2, y3, y4, y5 => tr93_2 K (lp93_2 K k) y1 y2 y3 y4 y5
def sh93 (K : Nat) (a0 : LA) (a1_0 : Int) (a1_1 : Int) (a1_2 : LA) : OA := tr93 K (lp93_2 K K) a0 a1_0 a1_1 a1_2
def fr93_2 (y1 : LA) (y2 : Int) (y3 : Int) (y4 : Int) (y5 : LA) : Fr := { slots := (.sl 130 y1, .uni .lent) :: gap 2 ((.undef, .loc 3 0) :: gap 1 ((I y2, .uni .ro) :: gap 24 [])), boxes := [(3, [(I y3, .ro), (I y4, .ro), (.sl 3 y5, .lent)])] }
theorem st93_2 (K : Nat) (k : Nat) (y1 : LA) (y2 : Int) (y3 : Int) (y4 : Int) (y5 : LA) : mlp 93 Tryd.f93 K 2 (fun i_ => fun _ => none) (k + 1) (fr93_2 y1 y2 y3 y4 y5) = tr93_2 K (fun y1 y2 y3 y4 y5 => mlp 93 Tryd.f93 K 2 (fun i_ => fun _ => none) k (fr93_2 y1 y2 y3 y4 y5)) y1 y2 y3 y4 y5 := by kernel_rfl
theorem lq93_2 (K : Nat) : ∀ (k : Nat) (y1 : LA) (y2 : Int) (y3 : Int) (y4 : Int) (y5 : LA), mlp 93 Tryd.f93 K 2 (fun i_ => fun _ => none) k (fr93_2 y1 y2 y3 y4 y5) = lp93_2 K k y1 y2 y3 y4 y5
  | 0, _, _, _, _, _ => rfl
  | k + 1, y1, y2, y3, y4, y5 => by
    rw [st93_2]
    have ih := lq93_2 K k
    try simp only [ih]
    try rfl
theorem eq93 (K : Nat) (a0 : LA) (a1_0 : Int) (a1_1 : Int) (a1_2 : LA) : run tab (K + 1) 93 [.sl 130 a0, .agg [I a1_0, I a1_1, .sl 3 a1_2]] = sh93 K a0 a1_0 a1_1 a1_2 := by
  have h : run tab (K + 1) 93 [.sl 130 a0, .agg [I a1_0, I a1_1, .sl 3 a1_2]] = tr93 K (fun y1 y2 y3 y4 y5 => mlp 93 Tryd.f93 K 2 (fun i_ => fun _ => none) K (fr93_2 y1 y2 y3 y4 y5)) a0 a1_0 a1_1 a1_2 := by kernel_rfl
  rw [h]
  simp only [lq93_2]
  rfl

/-! ### examiner/model.move$1: function 102 -/
def tr102 (K : Nat) (a0_0 : Int) (a0_1 : Int) (a0_2 : Int) (a0_3 : Int) (a0_4 : Int) (c0 : AV) (c1 : AV) : OA :=
  castRef c0 fun p1203 => castL 3 (p1203.getD 0 .undef) fun l1204 => castRef c1 fun p1205 => castI .i64 (p1205.getD 0 .undef) fun n1206 => match run tab K 103 [.agg [I a0_0, I a0_1, I a0_2, I a0_3, I a0_4], .sl 3 l1204, I n1206] with | some r1207 => (castB r1207 fun b1208 => some (B (!b1208))) | none => none
def sh102 (K : Nat) (a0_0 : Int) (a0_1 : Int) (a0_2 : Int) (a0_3 : Int) (a0_4 : Int) (c0 : AV) (c1 : AV) : OA := tr102 K a0_0 a0_1 a0_2 a0_3 a0_4 c0 c1
theorem eq102 (K : Nat) (a0_0 : Int) (a0_1 : Int) (a0_2 : Int) (a0_3 : Int) (a0_4 : Int) (c0 : AV) (c1 : AV) : run tab (K + 1) 102 [.agg [I a0_0, I a0_1, I a0_2, I a0_3, I a0_4], c0, c1] = sh102 K a0_0 a0_1 a0_2 a0_3 a0_4 c0 c1 := by kernel_rfl

/-! ### examiner/model.holds: function 103 -/
def tr103 (K : Nat) (a0_0 : Int) (a0_1 : Int) (a0_2 : Int) (a0_3 : Int) (a0_4 : Int) (a1 : LA) (a2 : Int) : OA :=
  match run tab K 105 [.agg [I a0_1, I a0_2], .sl 3 a1, I a2] with | some r1209 => (castI .i64 r1209 fun n1210 => match run tab K 105 [.agg [I a0_3, I a0_4], .sl 3 a1, I a2] with | some r1211 => (castI .i64 r1211 fun n1212 => match (a0_0 == (0 : Int)) with | true => (some (B (n1210 == n1212))) | false => (match (a0_0 == (1 : Int)) with | true => (some (B (n1210 != n1212))) | false => (match (a0_0 == (2 : Int)) with | true => (some (B (decide (n1210 < n1212)))) | false => (some (B (decide (n1210 ≤ n1212))))))) | none => none) | none => none
def sh103 (K : Nat) (a0_0 : Int) (a0_1 : Int) (a0_2 : Int) (a0_3 : Int) (a0_4 : Int) (a1 : LA) (a2 : Int) : OA := tr103 K a0_0 a0_1 a0_2 a0_3 a0_4 a1 a2
theorem eq103 (K : Nat) (a0_0 : Int) (a0_1 : Int) (a0_2 : Int) (a0_3 : Int) (a0_4 : Int) (a1 : LA) (a2 : Int) : run tab (K + 1) 103 [.agg [I a0_0, I a0_1, I a0_2, I a0_3, I a0_4], .sl 3 a1, I a2] = sh103 K a0_0 a0_1 a0_2 a0_3 a0_4 a1 a2 := by kernel_rfl

/-! ### slices.ContainsFunc[[]examiner/api.ModelTest,examiner/api.ModelTest]: function 104 -/
def tr104 (K : Nat) (a0 : LA) (a1 : AV) : OA :=
  match run tab K 114 [.sl 141 a0, a1] with | some r1213 => (castI .i64 r1213 fun n1214 => some (B (decide (n1214 ≥ (0 : Int))))) | none => none
def sh104 (K : Nat) (a0 : LA) (a1 : AV) : OA := tr104 K a0 a1
theorem eq104 (K : Nat) (a0 : LA) (a1 : AV) : run tab (K + 1) 104 [.sl 141 a0, a1] = sh104 K a0 a1 := by kernel_rfl

/-! ### examiner/model.value: function 105 -/
def tr105 (K : Nat) (a0_0 : Int) (a0_1 : Int) (a1 : LA) (a2 : Int) : OA :=
  match (a0_0 == (1 : Int)) with | true => (if 0 ≤ (IntKind.i64.wrap (1 + a0_1)) then (match a1[(IntKind.i64.wrap (1 + a0_1)).toNat]? with | some x1215 => (castI .i64 x1215 fun n1216 => some (I n1216)) | none => none) else none) | false => (match (a0_0 == (2 : Int)) with | true => (some (I a2)) | false => (some (I a0_1)))
def sh105 (K : Nat) (a0_0 : Int) (a0_1 : Int) (a1 : LA) (a2 : Int) : OA := tr105 K a0_0 a0_1 a1 a2
theorem eq105 (K : Nat) (a0_0 : Int) (a0_1 : Int) (a1 : LA) (a2 : Int) : run tab (K + 1) 105 [.agg [I a0_0, I a0_1], .sl 3 a1, I a2] = sh105 K a0_0 a0_1 a1 a2 := by kernel_rfl

/-! ### slices.IndexFunc[[]examiner/api.ModelSet,examiner/api.ModelSet]: function 106 -/
def tr106_2 (K : Nat) (q2 : LA → AV → Int → Int → OA) (y1 : LA) (y2 : AV) (y3 : Int) (y4 : Int) : OA :=
  match decide (y4 < y3) with | true => (if 0 ≤ y4 then (match y1[y4.toNat]? with | some x1217 => (castI .i64 (cellN x1217 0) fun n1218 => castI .i64 (cellN x1217 1) fun n1219 => castI .i64 (cellN x1217 2) fun n1220 => castI .i64 (cellN x1217 3) fun n1221 => castI .i64 (cellN x1217 4) fun n1222 => castB (cellN x1217 5) fun b1223 => castFn y2 fun g1224 c1225 => match run tab K g1224 ([.agg [I n1218, I n1219, I n1220, I n1221, I n1222, B b1223]] ++ c1225) with | some r1226 => (castB r1226 fun b1227 => match b1227 with | true => (some (I y4)) | false => (q2 y1 y2 y3 (IntKind.i64.wrap (y4 + 1)))) | none => none) | none => none) else none) | false => (some (I (-1)))
def tr106 (K : Nat) (q2 : LA → AV → Int → Int → OA) (a0 : LA) (a1 : AV) : OA :=
  q2 a0 a1 (a0.length : Int) (0 : Int)
def lp106_2 (K : Nat) : Nat → LA → AV → Int → Int → OA
  | 0, _, _, _, _ => none
  | k + 1, y1, y2, y3, y4 => tr106_2 K (lp106_2 K k) y1 y2 y3 y4
def sh106 (K : Nat) (a0 : LA) (a1 : AV) : OA := tr106 K (lp106_2 K K) a0 a1
def fr106_2 (y1 : LA) (y2 : AV) (y3 : Int) (y4 : Int) : Fr := { slots := (.sl 139 y1, .uni .lent) :: (y2, .uni .lent) :: gap 5 ((I y3, .uni .ro) :: (I y4, .uni .ro) :: gap 10 []), boxes := [] }
theorem st106_2 (K : Nat) (k : Nat) (y1 : LA) (y2 : AV) (y3 : Int) (y4 : Int) : mlp 106 Tryd.f106 K 2 (fun i_ => fun _ => none) (k + 1) (fr106_2 y1 y2 y3 y4) = tr106_2 K (fun y1 y2 y3 y4 => mlp 106 Tryd.f106 K 2 (fun i_ => fun _ => none) k (fr106_2 y1 y2 y3 y4)) y1 y2 y3 y4 := by kernel_rfl
theorem lq106_2 (K : Nat) : ∀ (k : Nat) (y1 : LA) (y2 : AV) (y3 : Int) (y4 : Int), mlp 106 Tryd.f106 K 2 (fun i_ => fun _ => none) k (fr106_2 y1 y2 y3 y4) = lp106_2 K k y1 y2 y3 y4
  | 0, _, _, _, _ => rfl
  | k + 1, y1, y2, y3, y4 => by
    rw [st106_2]
    have ih := lq106_2 K k
    try simp only [ih]
    try rfl
theorem eq106 (K : Nat) (a0 : LA) (a1 : AV) : run tab (K + 1) 106 [.sl 139 a0, a1] = sh106 K a0 a1 := by
  have h : run tab (K + 1) 106 [.sl 139 a0, a1] = tr106 K (fun y1 y2 y3 y4 => mlp 106 Tryd.f106 K 2 (fun i_ => fun _ => none) K (fr106_2 y1 y2 y3 y4)) a0 a1 := by kernel_rfl
  rw [h]
  simp only [lq106_2]
  rfl

/-! ### slices.IndexFunc[[]int,int]: function 107 -/
def tr107_2 (K : Nat) (q2 : LA → AV → Int → Int → OA) (y1 : LA) (y2 : AV) (y3 : Int) (y4 : Int) : OA :=
  match decide (y4 < y3) with | true => (if 0 ≤ y4 then (match y1[y4.toNat]? with | some x1228 => (castI .i64 x1228 fun n1229 => castFn y2 fun g1230 c1231 => match run tab K g1230 ([I n1229] ++ c1231) with | some r1232 => (castB r1232 fun b1233 => match b1233 with | true => (some (I y4)) | false => (q2 y1 y2 y3 (IntKind.i64.wrap (y4 + 1)))) | none => none) | none => none) else none) | false => (some (I (-1)))
def tr107 (K : Nat) (q2 : LA → AV → Int → Int → OA) (a0 : LA) (a1 : AV) : OA :=
  q2 a0 a1 (a0.length : Int) (0 : Int)
def lp107_2 (K : Nat) : Nat → LA → AV → Int → Int → OA
  | 0, _, _, _, _ => none
  | k + 1, y1, y2, y3, y4 => tr107_2 K (lp107_2 K k) y1 y2 y3 y4
def sh107 (K : Nat) (a0 : LA) (a1 : AV) : OA := tr107 K (lp107_2 K K) a0 a1
def fr107_2 (y1 : LA) (y2 : AV) (y3 : Int) (y4 : Int) : Fr := { slots := (.sl 3 y1, .uni .lent) :: (y2, .uni .lent) :: gap 5 ((I y3, .uni .ro) :: (I y4, .uni .ro) :: gap 10 []), boxes := [] }
theorem st107_2 (K : Nat) (k : Nat) (y1 : LA) (y2 : AV) (y3 : Int) (y4 : Int) : mlp 107 Tryd.f107 K 2 (fun i_ => fun _ => none) (k + 1) (fr107_2 y1 y2 y3 y4) = tr107_2 K (fun y1 y2 y3 y4 => mlp 107 Tryd.f107 K 2 (fun i_ => fun _ => none) k (fr107_2 y1 y2 y3 y4)) y1 y2 y3 y4 := by kernel_rfl
theorem lq107_2 (K : Nat) : ∀ (k : Nat) (y1 : LA) (y2 : AV) (y3 : Int) (y4 : Int), mlp 107 Tryd.f107 K 2 (fun i_ => fun _ => none) k (fr107_2 y1 y2 y3 y4) = lp107_2 K k y1 y2 y3 y4
  | 0, _, _, _, _ => rfl
  | k + 1, y1, y2, y3, y4 => by
    rw [st107_2]
    have ih := lq107_2 K k
    try simp only [ih]
    try rfl
theorem eq107 (K : Nat) (a0 : LA) (a1 : AV) : run tab (K + 1) 107 [.sl 3 a0, a1] = sh107 K a0 a1 := by
  have h : run tab (K + 1) 107 [.sl 3 a0, a1] = tr107 K (fun y1 y2 y3 y4 => mlp 107 Tryd.f107 K 2 (fun i_ => fun _ => none) K (fr107_2 y1 y2 y3 y4)) a0 a1 := by kernel_rfl
  rw [h]
  simp only [lq107_2]
  rfl

/-! ### slices.IndexFunc[[]examiner/api.ModelTest,examiner/api.ModelTest]: function 114 -/
def tr114_2 (K : Nat) (q2 : LA → AV → Int → Int → OA) (y1 : LA) (y2 : AV) (y3 : Int) (y4 : Int) : OA :=
  match decide (y4 < y3) with | true => (if 0 ≤ y4 then (match y1[y4.toNat]? with | some x1234 => (castI .i64 (cellN x1234 0) fun n1235 => castI .i64 (cellN x1234 1) fun n1236 => castI .i64 (cellN x1234 2) fun n1237 => castI .i64 (cellN x1234 3) fun n1238 => castI .i64 (cellN x1234 4) fun n1239 => castFn y2 fun g1240 c1241 => match run tab K g1240 ([.agg [I n1235, I n1236, I n1237, I n1238, I n1239]] ++ c1241) with | some r1242 => (castB r1242 fun b1243 => match b1243 with | true => (some (I y4)) | false => (q2 y1 y2 y3 (IntKind.i64.wrap (y4 + 1)))) | none => none) | none => none) else none) | false => (some (I (-1)))
def tr114 (K : Nat) (q2 : LA → AV → Int → Int → OA) (a0 : LA) (a1 : AV) : OA :=
  q2 a0 a1 (a0.length : Int) (0 : Int)
def lp114_2 (K : Nat) : Nat → LA → AV → Int → Int → OA
  | 0, _, _, _, _ => none
  | k + 1, y1, y2, y3, y4 => tr114_2 K (lp114_2 K k) y1 y2 y3 y4
def sh114 (K : Nat) (a0 : LA) (a1 : AV) : OA := tr114 K (lp114_2 K K) a0 a1
def fr114_2 (y1 : LA) (y2 : AV) (y3 : Int) (y4 : Int) : Fr := { slots := (.sl 141 y1, .uni .lent) :: (y2, .uni .lent) :: gap 5 ((I y3, .uni .ro) :: (I y4, .uni .ro) :: gap 10 []), boxes := [] }
theorem st114_2 (K : Nat) (k : Nat) (y1 : LA) (y2 : AV) (y3 : Int) (y4 : Int) : mlp 114 Tryd.f114 K 2 (fun i_ => fun _ => none) (k + 1) (fr114_2 y1 y2 y3 y4) = tr114_2 K (fun y1 y2 y3 y4 => mlp 114 Tryd.f114 K 2 (fun i_ => fun _ => none) k (fr114_2 y1 y2 y3 y4)) y1 y2 y3 y4 := by kernel_rfl
theorem lq114_2 (K : Nat) : ∀ (k : Nat) (y1 : LA) (y2 : AV) (y3 : Int) (y4 : Int), mlp 114 Tryd.f114 K 2 (fun i_ => fun _ => none) k (fr114_2 y1 y2 y3 y4) = lp114_2 K k y1 y2 y3 y4
  | 0, _, _, _, _ => rfl
  | k + 1, y1, y2, y3, y4 => by
    rw [st114_2]
    have ih := lq114_2 K k
    try simp only [ih]
    try rfl
theorem eq114 (K : Nat) (a0 : LA) (a1 : AV) : run tab (K + 1) 114 [.sl 141 a0, a1] = sh114 K a0 a1 := by
  have h : run tab (K + 1) 114 [.sl 141 a0, a1] = tr114 K (fun y1 y2 y3 y4 => mlp 114 Tryd.f114 K 2 (fun i_ => fun _ => none) K (fr114_2 y1 y2 y3 y4)) a0 a1 := by kernel_rfl
  rw [h]
  simp only [lq114_2]
  rfl

end
end Go.Proofs.YtahifpeggdcamaaDoor
