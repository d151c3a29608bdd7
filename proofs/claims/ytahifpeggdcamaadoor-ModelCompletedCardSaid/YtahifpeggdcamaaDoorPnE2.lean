/- A part of an interpreter of the model's code that is proved sound, and of laws told by it: DamG7b. -/
import Derived.Test.YtahifpeggdcamaaDoorPnE1
set_option linter.unusedVariables false
set_option linter.unusedSimpArgs false
namespace Go.Proofs.YtahifpeggdcamaaDoor
open Go.Dam
set_option linter.unusedVariables false
set_option maxRecDepth 100000
noncomputable section


/-! ### examiner/model.Completed: function 32 -/
def tr32_9 (K : Nat) (q6 : LA → Int → Int → Int → Int → Int → Int → LA → Int → Int → Int → Int → LA → Int → Int → Int → Int → LA → OA) (q9 : Int → LA → Int → Int → LA → Int → Int → Int → Int → Int → Int → LA → Int → Int → Int → Int → LA → Int → Int → Int → Int → LA → OA) (y1 : Int) (y2 : LA) (y3 : Int) (y4 : Int) (y5 : LA) (y6 : Int) (y7 : Int) (y8 : Int) (y9 : Int) (y10 : Int) (y11 : Int) (y12 : LA) (y13 : Int) (y14 : Int) (y15 : Int) (y16 : Int) (y17 : LA) (y18 : Int) (y19 : Int) (y20 : Int) (y21 : Int) (y22 : LA) : OA :=
  match decide (y7 < y6) with | true => (if 0 ≤ y7 then (match y5[y7.toNat]? with | some x673 => (castP x673 fun q674 => castNil q674 fun b675 => match b675 with | true => (if (y22.length + ([.agg [I y1, I y7, I y10, I y1]] : LA).length) * 32 ≤ maxBytes then (q9 y1 y2 y3 y4 y5 y6 (IntKind.i64.wrap (y7 + 1)) y8 y9 y10 y11 y12 y13 y14 y15 y16 y17 y18 y19 y20 y21 (y22 ++ ([.agg [I y1, I y7, I y10, I y1]] : LA))) else none) | false => (castRef q674 fun p676 => castRef (.ref p676) fun p677 => castI .i64 (p677.getD 0 .undef) fun n678 => castI .i64 (p677.getD 1 .undef) fun n679 => castI .i64 (p677.getD 2 .undef) fun n680 => castI .i64 (p677.getD 3 .undef) fun n681 => if (y22.length + ([.agg [I n678, I n679, I n680, I n681]] : LA).length) * 32 ≤ maxBytes then (q9 y1 y2 y3 y4 y5 y6 (IntKind.i64.wrap (y7 + 1)) y8 y9 y10 y11 y12 y13 y14 y15 y16 y17 y18 y19 y20 y21 (y22 ++ ([.agg [I n678, I n679, I n680, I n681]] : LA))) else none)) | none => none) else none) | false => (q6 y2 y3 (IntKind.i64.wrap (y4 + 1)) y8 y9 y10 y11 y12 y13 y14 y15 y16 y17 y18 y19 y20 y21 y22)
def tr32_6 (K : Nat) (q9 : Int → LA → Int → Int → LA → Int → Int → Int → Int → Int → Int → LA → Int → Int → Int → Int → LA → Int → Int → Int → Int → LA → OA) (y1 : LA) (y2 : Int) (y3 : Int) (y4 : Int) (y5 : Int) (y6 : Int) (y7 : Int) (y8 : LA) (y9 : Int) (y10 : Int) (y11 : Int) (y12 : Int) (y13 : LA) (y14 : Int) (y15 : Int) (y16 : Int) (y17 : Int) (y18 : LA) : OA :=
  match decide (y3 < y2) with | true => (if 0 ≤ y3 then (match y1[y3.toNat]? with | some x671 => (castL 122 x671 fun l672 => q9 y3 y1 y2 y3 l672 (l672.length : Int) (0 : Int) y4 y5 y6 y7 y8 y9 y10 y11 y12 y13 y14 y15 y16 y17 y18) | none => none) else none) | false => (some (.tup [.agg [I y14, I y15, I y16, I y17, .sl 97 y18], I 0]))
def tr32 (K : Nat) (q6 : LA → Int → Int → Int → Int → Int → Int → LA → Int → Int → Int → Int → LA → Int → Int → Int → Int → LA → OA) (a0_0 : Int) (a0_1 : Int) (a0_2 : Int) (a0_3 : Int) (a0_4 : LA) : OA :=
  match run tab K 66 [.agg [I a0_0, I a0_1, I a0_2, I a0_3, .sl 97 a0_4]] with | some r663 => (castI .i64 r663 fun n664 => match run tab K 62 [B (decide (a0_2 < (8 : Int))), I 32] with | some r665 => (castI .i64 r665 fun n666 => match run tab K 61 [.sl 32 [I n664, I n666]] with | some r667 => (castI .i64 r667 fun n668 => match (n668 != (0 : Int)) with | true => (some (.tup [.agg [I 0, I 0, I 0, I 0, .sl 97 []], I n668])) | false => (match run tab K 67 [.agg [I a0_0, I a0_1, I a0_2, I a0_3, .sl 97 a0_4]] with | some r669 => (castL 121 r669 fun l670 => q6 l670 (l670.length : Int) (0 : Int) a0_0 a0_1 a0_2 a0_3 a0_4 (0 : Int) (0 : Int) (0 : Int) (0 : Int) ([] : LA) a0_0 a0_1 (IntKind.i64.wrap (a0_2 + 1)) a0_3 ([] : LA)) | none => none)) | none => none) | none => none) | none => none
def lp32_9 (K : Nat) (q6 : LA → Int → Int → Int → Int → Int → Int → LA → Int → Int → Int → Int → LA → Int → Int → Int → Int → LA → OA) : Nat → Int → LA → Int → Int → LA → Int → Int → Int → Int → Int → Int → LA → Int → Int → Int → Int → LA → Int → Int → Int → Int → LA → OA
  | 0, _, _, _, _, _, _, _, _, _, _, _, _, _, _, _, _, _, _, _, _, _, _ => none
  | k + 1, y1, y2, y3, y4, y5, y6, y7, y8, y9, y10, y11, y12, y13, y14, y15, y16, y17, y18, y19, y20, y21, y22 => tr32_9 K q6 (lp32_9 K q6 k) y1 y2 y3 y4 y5 y6 y7 y8 y9 y10 y11 y12 y13 y14 y15 y16 y17 y18 y19 y20 y21 y22
def lp32_6 (K : Nat) : Nat → LA → Int → Int → Int → Int → Int → Int → LA → Int → Int → Int → Int → LA → Int → Int → Int → Int → LA → OA
  | 0, _, _, _, _, _, _, _, _, _, _, _, _, _, _, _, _, _, _ => none
  | k + 1, y1, y2, y3, y4, y5, y6, y7, y8, y9, y10, y11, y12, y13, y14, y15, y16, y17, y18 => tr32_6 K (lp32_9 K (lp32_6 K k) K) y1 y2 y3 y4 y5 y6 y7 y8 y9 y10 y11 y12 y13 y14 y15 y16 y17 y18
def sh32 (K : Nat) (a0_0 : Int) (a0_1 : Int) (a0_2 : Int) (a0_3 : Int) (a0_4 : LA) : OA := tr32 K (lp32_6 K K) a0_0 a0_1 a0_2 a0_3 a0_4
def fr32_9 (y1 : Int) (y2 : LA) (y3 : Int) (y4 : Int) (y5 : LA) (y6 : Int) (y7 : Int) (y8 : Int) (y9 : Int) (y10 : Int) (y11 : Int) (y12 : LA) (y13 : Int) (y14 : Int) (y15 : Int) (y16 : Int) (y17 : LA) (y18 : Int) (y19 : Int) (y20 : Int) (y21 : Int) (y22 : LA) : Fr := { slots := gap 1 ((.undef, .loc 1 0) :: (.undef, .loc 2 0) :: gap 2 ((.undef, .loc 5 0) :: (I y1, .uni .ro) :: gap 26 ((.sl 121 y2, .uni .ro) :: (I y3, .uni .ro) :: (I y4, .uni .ro) :: gap 4 ((.sl 122 y5, .uni .ro) :: (I y6, .uni .ro) :: (I y7, .uni .ro) :: gap 24 [])))), boxes := [(1, [(I y8, .ro), (I y9, .ro), (I y10, .ro), (I y11, .ro), (.sl 97 y12, .lent)]), (2, [(I y13, .ro), (I y14, .ro), (I y15, .ro), (I y16, .ro), (.sl 97 y17, .own)]), (5, [(I y18, .ro), (I y19, .ro), (I y20, .ro), (I y21, .ro), (.sl 97 y22, .own)])] }
def fr32_6 (y1 : LA) (y2 : Int) (y3 : Int) (y4 : Int) (y5 : Int) (y6 : Int) (y7 : Int) (y8 : LA) (y9 : Int) (y10 : Int) (y11 : Int) (y12 : Int) (y13 : LA) (y14 : Int) (y15 : Int) (y16 : Int) (y17 : Int) (y18 : LA) : Fr := { slots := gap 1 ((.undef, .loc 1 0) :: (.undef, .loc 2 0) :: gap 2 ((.undef, .loc 5 0) :: gap 27 ((.sl 121 y1, .uni .ro) :: (I y2, .uni .ro) :: (I y3, .uni .ro) :: gap 31 []))), boxes := [(1, [(I y4, .ro), (I y5, .ro), (I y6, .ro), (I y7, .ro), (.sl 97 y8, .lent)]), (2, [(I y9, .ro), (I y10, .ro), (I y11, .ro), (I y12, .ro), (.sl 97 y13, .own)]), (5, [(I y14, .ro), (I y15, .ro), (I y16, .ro), (I y17, .ro), (.sl 97 y18, .own)])] }
theorem st32_9 (K : Nat) (RO6 : Fr → OA) (k : Nat) (y1 : Int) (y2 : LA) (y3 : Int) (y4 : Int) (y5 : LA) (y6 : Int) (y7 : Int) (y8 : Int) (y9 : Int) (y10 : Int) (y11 : Int) (y12 : LA) (y13 : Int) (y14 : Int) (y15 : Int) (y16 : Int) (y17 : LA) (y18 : Int) (y19 : Int) (y20 : Int) (y21 : Int) (y22 : LA) : mlp 32 Tryd.f32 K 9 (fun i_ => if i_ = 6 then RO6 else fun _ => none) (k + 1) (fr32_9 y1 y2 y3 y4 y5 y6 y7 y8 y9 y10 y11 y12 y13 y14 y15 y16 y17 y18 y19 y20 y21 y22) = tr32_9 K (fun y1 y2 y3 y4 y5 y6 y7 y8 y9 y10 y11 y12 y13 y14 y15 y16 y17 y18 => RO6 (fr32_6 y1 y2 y3 y4 y5 y6 y7 y8 y9 y10 y11 y12 y13 y14 y15 y16 y17 y18)) (fun y1 y2 y3 y4 y5 y6 y7 y8 y9 y10 y11 y12 y13 y14 y15 y16 y17 y18 y19 y20 y21 y22 => mlp 32 Tryd.f32 K 9 (fun i_ => if i_ = 6 then RO6 else fun _ => none) k (fr32_9 y1 y2 y3 y4 y5 y6 y7 y8 y9 y10 y11 y12 y13 y14 y15 y16 y17 y18 y19 y20 y21 y22)) y1 y2 y3 y4 y5 y6 y7 y8 y9 y10 y11 y12 y13 y14 y15 y16 y17 y18 y19 y20 y21 y22 := by kernel_rfl
theorem lq32_9 (K : Nat) (RO6 : Fr → OA) : ∀ (k : Nat) (y1 : Int) (y2 : LA) (y3 : Int) (y4 : Int) (y5 : LA) (y6 : Int) (y7 : Int) (y8 : Int) (y9 : Int) (y10 : Int) (y11 : Int) (y12 : LA) (y13 : Int) (y14 : Int) (y15 : Int) (y16 : Int) (y17 : LA) (y18 : Int) (y19 : Int) (y20 : Int) (y21 : Int) (y22 : LA), mlp 32 Tryd.f32 K 9 (fun i_ => if i_ = 6 then RO6 else fun _ => none) k (fr32_9 y1 y2 y3 y4 y5 y6 y7 y8 y9 y10 y11 y12 y13 y14 y15 y16 y17 y18 y19 y20 y21 y22) = lp32_9 K (fun y1 y2 y3 y4 y5 y6 y7 y8 y9 y10 y11 y12 y13 y14 y15 y16 y17 y18 => RO6 (fr32_6 y1 y2 y3 y4 y5 y6 y7 y8 y9 y10 y11 y12 y13 y14 y15 y16 y17 y18)) k y1 y2 y3 y4 y5 y6 y7 y8 y9 y10 y11 y12 y13 y14 y15 y16 y17 y18 y19 y20 y21 y22
  | 0, _, _, _, _, _, _, _, _, _, _, _, _, _, _, _, _, _, _, _, _, _, _ => rfl
  | k + 1, y1, y2, y3, y4, y5, y6, y7, y8, y9, y10, y11, y12, y13, y14, y15, y16, y17, y18, y19, y20, y21, y22 => by
    rw [st32_9]
    have ih := lq32_9 K RO6 k
    try simp only [ih]
    try rfl
theorem st32_6 (K : Nat) (k : Nat) (y1 : LA) (y2 : Int) (y3 : Int) (y4 : Int) (y5 : Int) (y6 : Int) (y7 : Int) (y8 : LA) (y9 : Int) (y10 : Int) (y11 : Int) (y12 : Int) (y13 : LA) (y14 : Int) (y15 : Int) (y16 : Int) (y17 : Int) (y18 : LA) : mlp 32 Tryd.f32 K 6 (fun i_ => fun _ => none) (k + 1) (fr32_6 y1 y2 y3 y4 y5 y6 y7 y8 y9 y10 y11 y12 y13 y14 y15 y16 y17 y18) = tr32_6 K (fun y1 y2 y3 y4 y5 y6 y7 y8 y9 y10 y11 y12 y13 y14 y15 y16 y17 y18 y19 y20 y21 y22 => mlp 32 Tryd.f32 K 9 (fun i_ => if i_ = 6 then (fun fr_ => mlp 32 Tryd.f32 K 6 (fun i_ => fun _ => none) k fr_) else fun _ => none) K (fr32_9 y1 y2 y3 y4 y5 y6 y7 y8 y9 y10 y11 y12 y13 y14 y15 y16 y17 y18 y19 y20 y21 y22)) y1 y2 y3 y4 y5 y6 y7 y8 y9 y10 y11 y12 y13 y14 y15 y16 y17 y18 := by kernel_rfl
theorem lq32_6 (K : Nat) : ∀ (k : Nat) (y1 : LA) (y2 : Int) (y3 : Int) (y4 : Int) (y5 : Int) (y6 : Int) (y7 : Int) (y8 : LA) (y9 : Int) (y10 : Int) (y11 : Int) (y12 : Int) (y13 : LA) (y14 : Int) (y15 : Int) (y16 : Int) (y17 : Int) (y18 : LA), mlp 32 Tryd.f32 K 6 (fun i_ => fun _ => none) k (fr32_6 y1 y2 y3 y4 y5 y6 y7 y8 y9 y10 y11 y12 y13 y14 y15 y16 y17 y18) = lp32_6 K k y1 y2 y3 y4 y5 y6 y7 y8 y9 y10 y11 y12 y13 y14 y15 y16 y17 y18
  | 0, _, _, _, _, _, _, _, _, _, _, _, _, _, _, _, _, _, _ => rfl
  | k + 1, y1, y2, y3, y4, y5, y6, y7, y8, y9, y10, y11, y12, y13, y14, y15, y16, y17, y18 => by
    rw [st32_6]
    have ih := lq32_6 K k
    have ih9 := lq32_9 K (fun fr_ => mlp 32 Tryd.f32 K 6 (fun i_ => fun _ => none) k fr_) K
    try simp only [ih, ih9]
    try rfl
theorem eq32 (K : Nat) (a0_0 : Int) (a0_1 : Int) (a0_2 : Int) (a0_3 : Int) (a0_4 : LA) : run tab (K + 1) 32 [.agg [I a0_0, I a0_1, I a0_2, I a0_3, .sl 97 a0_4]] = sh32 K a0_0 a0_1 a0_2 a0_3 a0_4 := by
  have h : run tab (K + 1) 32 [.agg [I a0_0, I a0_1, I a0_2, I a0_3, .sl 97 a0_4]] = tr32 K (fun y1 y2 y3 y4 y5 y6 y7 y8 y9 y10 y11 y12 y13 y14 y15 y16 y17 y18 => mlp 32 Tryd.f32 K 6 (fun i_ => fun _ => none) K (fr32_6 y1 y2 y3 y4 y5 y6 y7 y8 y9 y10 y11 y12 y13 y14 y15 y16 y17 y18)) a0_0 a0_1 a0_2 a0_3 a0_4 := by kernel_rfl
  rw [h]
  simp only [lq32_6]
  rfl

/-! ### examiner/examinerref37.Err: function 33 -/
def tr33 (K : Nat) (a0_0 : Int) (a0_1 : Int) (a0_2 : Int) (a0_3 : Int) (a0_4 : LA) : OA :=
  match run tab K 22 [.agg [I a0_0, I a0_1, I a0_2, I a0_3, .sl 97 a0_4]] with | some r682 => (castI .i64 (compN r682 0) fun n683 => castI .i64 (compN r682 1) fun n684 => some (I n684)) | none => none
def sh33 (K : Nat) (a0_0 : Int) (a0_1 : Int) (a0_2 : Int) (a0_3 : Int) (a0_4 : LA) : OA := tr33 K a0_0 a0_1 a0_2 a0_3 a0_4
theorem eq33 (K : Nat) (a0_0 : Int) (a0_1 : Int) (a0_2 : Int) (a0_3 : Int) (a0_4 : LA) : run tab (K + 1) 33 [.agg [I a0_0, I a0_1, I a0_2, I a0_3, .sl 97 a0_4]] = sh33 K a0_0 a0_1 a0_2 a0_3 a0_4 := by kernel_rfl

/-! ### examiner/examinerref37.Completed: function 34 -/
def tr34_6 (K : Nat) (q3 : Int → Int → Int → Int → Int → LA → Int → Int → Int → Int → LA → Int → Int → Int → Int → LA → OA) (q6 : Int → Int → Int → Int → Int → Int → LA → Int → Int → Int → Int → LA → Int → Int → Int → Int → LA → OA) (y1 : Int) (y2 : Int) (y3 : Int) (y4 : Int) (y5 : Int) (y6 : Int) (y7 : LA) (y8 : Int) (y9 : Int) (y10 : Int) (y11 : Int) (y12 : LA) (y13 : Int) (y14 : Int) (y15 : Int) (y16 : Int) (y17 : LA) : OA :=
  match decide (y2 < y4) with | true => (match run tab K 68 [.agg [I y3, I y4, I y5, I y6, .sl 97 y7], I y1, I y2] with | some r685 => (castI .i64 r685 fun n686 => match (n686 != (-1 : Int)) with | true => (if 0 ≤ n686 then (match y7[n686.toNat]? with | some x687 => (castI .i64 (cellN x687 0) fun n688 => castI .i64 (cellN x687 1) fun n689 => castI .i64 (cellN x687 2) fun n690 => castI .i64 (cellN x687 3) fun n691 => if (y17.length + ([.agg [I n688, I n689, I n690, I n691]] : LA).length) * 32 ≤ maxBytes then (q6 y1 (IntKind.i64.wrap (y2 + 1)) y3 y4 y5 y6 y7 y8 y9 y10 y11 y12 y13 y14 y15 y16 (y17 ++ ([.agg [I n688, I n689, I n690, I n691]] : LA))) else none) | none => none) else none) | false => (if (y17.length + ([.agg [I y1, I y2, I y5, I y1]] : LA).length) * 32 ≤ maxBytes then (q6 y1 (IntKind.i64.wrap (y2 + 1)) y3 y4 y5 y6 y7 y8 y9 y10 y11 y12 y13 y14 y15 y16 (y17 ++ ([.agg [I y1, I y2, I y5, I y1]] : LA))) else none)) | none => none) | false => (q3 (IntKind.i64.wrap (y1 + 1)) y3 y4 y5 y6 y7 y8 y9 y10 y11 y12 y13 y14 y15 y16 y17)
def tr34_3 (K : Nat) (q6 : Int → Int → Int → Int → Int → Int → LA → Int → Int → Int → Int → LA → Int → Int → Int → Int → LA → OA) (y1 : Int) (y2 : Int) (y3 : Int) (y4 : Int) (y5 : Int) (y6 : LA) (y7 : Int) (y8 : Int) (y9 : Int) (y10 : Int) (y11 : LA) (y12 : Int) (y13 : Int) (y14 : Int) (y15 : Int) (y16 : LA) : OA :=
  match decide (y1 < y2) with | true => (q6 y1 (0 : Int) y2 y3 y4 y5 y6 y7 y8 y9 y10 y11 y12 y13 y14 y15 y16) | false => (some (.agg [I y12, I y13, I y14, I y15, .sl 97 y16]))
def tr34 (K : Nat) (q3 : Int → Int → Int → Int → Int → LA → Int → Int → Int → Int → LA → Int → Int → Int → Int → LA → OA) (a0_0 : Int) (a0_1 : Int) (a0_2 : Int) (a0_3 : Int) (a0_4 : LA) : OA :=
  q3 (0 : Int) a0_0 a0_1 a0_2 a0_3 a0_4 (0 : Int) (0 : Int) (0 : Int) (0 : Int) ([] : LA) a0_0 a0_1 (IntKind.i64.wrap (a0_2 + 1)) a0_3 ([] : LA)
def lp34_6 (K : Nat) (q3 : Int → Int → Int → Int → Int → LA → Int → Int → Int → Int → LA → Int → Int → Int → Int → LA → OA) : Nat → Int → Int → Int → Int → Int → Int → LA → Int → Int → Int → Int → LA → Int → Int → Int → Int → LA → OA
  | 0, _, _, _, _, _, _, _, _, _, _, _, _, _, _, _, _, _ => none
  | k + 1, y1, y2, y3, y4, y5, y6, y7, y8, y9, y10, y11, y12, y13, y14, y15, y16, y17 => tr34_6 K q3 (lp34_6 K q3 k) y1 y2 y3 y4 y5 y6 y7 y8 y9 y10 y11 y12 y13 y14 y15 y16 y17
def lp34_3 (K : Nat) : Nat → Int → Int → Int → Int → Int → LA → Int → Int → Int → Int → LA → Int → Int → Int → Int → LA → OA
  | 0, _, _, _, _, _, _, _, _, _, _, _, _, _, _, _, _ => none
  | k + 1, y1, y2, y3, y4, y5, y6, y7, y8, y9, y10, y11, y12, y13, y14, y15, y16 => tr34_3 K (lp34_6 K (lp34_3 K k) K) y1 y2 y3 y4 y5 y6 y7 y8 y9 y10 y11 y12 y13 y14 y15 y16
def sh34 (K : Nat) (a0_0 : Int) (a0_1 : Int) (a0_2 : Int) (a0_3 : Int) (a0_4 : LA) : OA := tr34 K (lp34_3 K K) a0_0 a0_1 a0_2 a0_3 a0_4
def fr34_6 (y1 : Int) (y2 : Int) (y3 : Int) (y4 : Int) (y5 : Int) (y6 : Int) (y7 : LA) (y8 : Int) (y9 : Int) (y10 : Int) (y11 : Int) (y12 : LA) (y13 : Int) (y14 : Int) (y15 : Int) (y16 : Int) (y17 : LA) : Fr := { slots := gap 1 ((.undef, .loc 1 0) :: (.undef, .loc 2 0) :: (.undef, .loc 3 0) :: (I y1, .uni .ro) :: (I y2, .uni .ro) :: gap 51 []), boxes := [(1, [(I y3, .ro), (I y4, .ro), (I y5, .ro), (I y6, .ro), (.sl 97 y7, .lent)]), (2, [(I y8, .ro), (I y9, .ro), (I y10, .ro), (I y11, .ro), (.sl 97 y12, .own)]), (3, [(I y13, .ro), (I y14, .ro), (I y15, .ro), (I y16, .ro), (.sl 97 y17, .own)])] }
def fr34_3 (y1 : Int) (y2 : Int) (y3 : Int) (y4 : Int) (y5 : Int) (y6 : LA) (y7 : Int) (y8 : Int) (y9 : Int) (y10 : Int) (y11 : LA) (y12 : Int) (y13 : Int) (y14 : Int) (y15 : Int) (y16 : LA) : Fr := { slots := gap 1 ((.undef, .loc 1 0) :: (.undef, .loc 2 0) :: (.undef, .loc 3 0) :: (I y1, .uni .ro) :: gap 52 []), boxes := [(1, [(I y2, .ro), (I y3, .ro), (I y4, .ro), (I y5, .ro), (.sl 97 y6, .lent)]), (2, [(I y7, .ro), (I y8, .ro), (I y9, .ro), (I y10, .ro), (.sl 97 y11, .own)]), (3, [(I y12, .ro), (I y13, .ro), (I y14, .ro), (I y15, .ro), (.sl 97 y16, .own)])] }
theorem st34_6 (K : Nat) (RO3 : Fr → OA) (k : Nat) (y1 : Int) (y2 : Int) (y3 : Int) (y4 : Int) (y5 : Int) (y6 : Int) (y7 : LA) (y8 : Int) (y9 : Int) (y10 : Int) (y11 : Int) (y12 : LA) (y13 : Int) (y14 : Int) (y15 : Int) (y16 : Int) (y17 : LA) : mlp 34 Tryd.f34 K 6 (fun i_ => if i_ = 3 then RO3 else fun _ => none) (k + 1) (fr34_6 y1 y2 y3 y4 y5 y6 y7 y8 y9 y10 y11 y12 y13 y14 y15 y16 y17) = tr34_6 K (fun y1 y2 y3 y4 y5 y6 y7 y8 y9 y10 y11 y12 y13 y14 y15 y16 => RO3 (fr34_3 y1 y2 y3 y4 y5 y6 y7 y8 y9 y10 y11 y12 y13 y14 y15 y16)) (fun y1 y2 y3 y4 y5 y6 y7 y8 y9 y10 y11 y12 y13 y14 y15 y16 y17 => mlp 34 Tryd.f34 K 6 (fun i_ => if i_ = 3 then RO3 else fun _ => none) k (fr34_6 y1 y2 y3 y4 y5 y6 y7 y8 y9 y10 y11 y12 y13 y14 y15 y16 y17)) y1 y2 y3 y4 y5 y6 y7 y8 y9 y10 y11 y12 y13 y14 y15 y16 y17 := by kernel_rfl
theorem lq34_6 (K : Nat) (RO3 : Fr → OA) : ∀ (k : Nat) (y1 : Int) (y2 : Int) (y3 : Int) (y4 : Int) (y5 : Int) (y6 : Int) (y7 : LA) (y8 : Int) (y9 : Int) (y10 : Int) (y11 : Int) (y12 : LA) (y13 : Int) (y14 : Int) (y15 : Int) (y16 : Int) (y17 : LA), mlp 34 Tryd.f34 K 6 (fun i_ => if i_ = 3 then RO3 else fun _ => none) k (fr34_6 y1 y2 y3 y4 y5 y6 y7 y8 y9 y10 y11 y12 y13 y14 y15 y16 y17) = lp34_6 K (fun y1 y2 y3 y4 y5 y6 y7 y8 y9 y10 y11 y12 y13 y14 y15 y16 => RO3 (fr34_3 y1 y2 y3 y4 y5 y6 y7 y8 y9 y10 y11 y12 y13 y14 y15 y16)) k y1 y2 y3 y4 y5 y6 y7 y8 y9 y10 y11 y12 y13 y14 y15 y16 y17
  | 0, _, _, _, _, _, _, _, _, _, _, _, _, _, _, _, _, _ => rfl
  | k + 1, y1, y2, y3, y4, y5, y6, y7, y8, y9, y10, y11, y12, y13, y14, y15, y16, y17 => by
    rw [st34_6]
    have ih := lq34_6 K RO3 k
    try simp only [ih]
    try rfl
theorem st34_3 (K : Nat) (k : Nat) (y1 : Int) (y2 : Int) (y3 : Int) (y4 : Int) (y5 : Int) (y6 : LA) (y7 : Int) (y8 : Int) (y9 : Int) (y10 : Int) (y11 : LA) (y12 : Int) (y13 : Int) (y14 : Int) (y15 : Int) (y16 : LA) : mlp 34 Tryd.f34 K 3 (fun i_ => fun _ => none) (k + 1) (fr34_3 y1 y2 y3 y4 y5 y6 y7 y8 y9 y10 y11 y12 y13 y14 y15 y16) = tr34_3 K (fun y1 y2 y3 y4 y5 y6 y7 y8 y9 y10 y11 y12 y13 y14 y15 y16 y17 => mlp 34 Tryd.f34 K 6 (fun i_ => if i_ = 3 then (fun fr_ => mlp 34 Tryd.f34 K 3 (fun i_ => fun _ => none) k fr_) else fun _ => none) K (fr34_6 y1 y2 y3 y4 y5 y6 y7 y8 y9 y10 y11 y12 y13 y14 y15 y16 y17)) y1 y2 y3 y4 y5 y6 y7 y8 y9 y10 y11 y12 y13 y14 y15 y16 := by kernel_rfl
theorem lq34_3 (K : Nat) : ∀ (k : Nat) (y1 : Int) (y2 : Int) (y3 : Int) (y4 : Int) (y5 : Int) (y6 : LA) (y7 : Int) (y8 : Int) (y9 : Int) (y10 : Int) (y11 : LA) (y12 : Int) (y13 : Int) (y14 : Int) (y15 : Int) (y16 : LA), mlp 34 Tryd.f34 K 3 (fun i_ => fun _ => none) k (fr34_3 y1 y2 y3 y4 y5 y6 y7 y8 y9 y10 y11 y12 y13 y14 y15 y16) = lp34_3 K k y1 y2 y3 y4 y5 y6 y7 y8 y9 y10 y11 y12 y13 y14 y15 y16
  | 0, _, _, _, _, _, _, _, _, _, _, _, _, _, _, _, _ => rfl
  | k + 1, y1, y2, y3, y4, y5, y6, y7, y8, y9, y10, y11, y12, y13, y14, y15, y16 => by
    rw [st34_3]
    have ih := lq34_3 K k
    have ih6 := lq34_6 K (fun fr_ => mlp 34 Tryd.f34 K 3 (fun i_ => fun _ => none) k fr_) K
    try simp only [ih, ih6]
    try rfl
theorem eq34 (K : Nat) (a0_0 : Int) (a0_1 : Int) (a0_2 : Int) (a0_3 : Int) (a0_4 : LA) : run tab (K + 1) 34 [.agg [I a0_0, I a0_1, I a0_2, I a0_3, .sl 97 a0_4]] = sh34 K a0_0 a0_1 a0_2 a0_3 a0_4 := by
  have h : run tab (K + 1) 34 [.agg [I a0_0, I a0_1, I a0_2, I a0_3, .sl 97 a0_4]] = tr34 K (fun y1 y2 y3 y4 y5 y6 y7 y8 y9 y10 y11 y12 y13 y14 y15 y16 => mlp 34 Tryd.f34 K 3 (fun i_ => fun _ => none) K (fr34_3 y1 y2 y3 y4 y5 y6 y7 y8 y9 y10 y11 y12 y13 y14 y15 y16)) a0_0 a0_1 a0_2 a0_3 a0_4 := by kernel_rfl
  rw [h]
  simp only [lq34_3]
  rfl

/-! ### examiner/model.RunOf: function 35 -/
def tr35_11 (K : Nat) (q11 : LA → LA → LA → LA → Int → Int → Int → Int → LA → Int → LA → LA → OA) (y1 : LA) (y2 : LA) (y3 : LA) (y4 : LA) (y5 : Int) (y6 : Int) (y7 : Int) (y8 : Int) (y9 : LA) (y10 : Int) (y11 : LA) (y12 : LA) : OA :=
  match decide (y6 < y5) with | true => (if 0 ≤ y6 then (match y4[y6.toNat]? with | some x700 => (castI .i64 x700 fun n701 => if 0 ≤ n701 then (match y1[n701.toNat]? with | some x702 => (castI .i64 (cellN x702 0) fun n703 => castI .i64 (cellN x702 1) fun n704 => match run tab K 50 [.agg [I y7, I y8, .sl 3 y9, I y10, .sl 105 y11, .sl 103 y12], .sl 3 y3, .agg [I n703, I n704]] with | some r705 => (castL 3 (cellN (compN r705 0) 0) fun l706 => castI .i64 (cellN (compN r705 0) 1) fun n707 => castI .i64 (compN r705 1) fun n708 => match (n708 != (0 : Int)) with | true => (some (.tup [.sl 3 y2, I (y2.length : Int), I n708])) | false => (if (y2.length + ([I n707] : LA).length) * 8 ≤ maxBytes then (q11 y1 (y2 ++ ([I n707] : LA)) l706 y4 y5 (IntKind.i64.wrap (y6 + 1)) y7 y8 y9 y10 y11 y12) else none)) | none => none) | none => none) else none) | none => none) else none) | false => (some (.tup [.sl 3 y2, I (y2.length : Int), I 0]))
def tr35 (K : Nat) (q11 : LA → LA → LA → LA → Int → Int → Int → Int → LA → Int → LA → LA → OA) (a0_0 : Int) (a0_1 : Int) (a0_2 : LA) (a0_3 : Int) (a0_4 : LA) (a0_5 : LA) (a1 : LA) : OA :=
  match run tab K 47 [.agg [I a0_0, I a0_1, .sl 3 a0_2, I a0_3, .sl 105 a0_4, .sl 103 a0_5]] with | some r692 => (castI .i64 r692 fun n693 => match (n693 != (0 : Int)) with | true => (some (.tup [.sl 3 [], I 0, I n693])) | false => (match run tab K 48 [.agg [I a0_0, I a0_1, .sl 3 a0_2, I a0_3, .sl 105 a0_4, .sl 103 a0_5]] with | some r694 => (castL 52 r694 fun l695 => match run tab K 69 [.sl 3 a1, I (l695.length : Int)] with | some r696 => (castI .i64 r696 fun n697 => match (n697 != (0 : Int)) with | true => (some (.tup [.sl 3 [], I 0, I n697])) | false => (match run tab K 49 [.agg [I a0_0, I a0_1, .sl 3 a0_2, I a0_3, .sl 105 a0_4, .sl 103 a0_5]] with | some r698 => (castL 3 r698 fun l699 => q11 l695 ([] : LA) l699 a1 (a1.length : Int) (0 : Int) a0_0 a0_1 a0_2 a0_3 a0_4 a0_5) | none => none)) | none => none) | none => none)) | none => none
def lp35_11 (K : Nat) : Nat → LA → LA → LA → LA → Int → Int → Int → Int → LA → Int → LA → LA → OA
  | 0, _, _, _, _, _, _, _, _, _, _, _, _ => none
  | k + 1, y1, y2, y3, y4, y5, y6, y7, y8, y9, y10, y11, y12 => tr35_11 K (lp35_11 K k) y1 y2 y3 y4 y5 y6 y7 y8 y9 y10 y11 y12
def sh35 (K : Nat) (a0_0 : Int) (a0_1 : Int) (a0_2 : LA) (a0_3 : Int) (a0_4 : LA) (a0_5 : LA) (a1 : LA) : OA := tr35 K (lp35_11 K K) a0_0 a0_1 a0_2 a0_3 a0_4 a0_5 a1
def fr35_11 (y1 : LA) (y2 : LA) (y3 : LA) (y4 : LA) (y5 : Int) (y6 : Int) (y7 : Int) (y8 : Int) (y9 : LA) (y10 : Int) (y11 : LA) (y12 : LA) : Fr := { slots := gap 2 ((.undef, .loc 2 0) :: gap 5 ((.sl 52 y1, .uni .own) :: gap 1 ((.sl 3 y2, .uni .own) :: (.sl 3 y3, .uni .ro) :: gap 20 ((.sl 3 y4, .uni .lent) :: (I y5, .uni .ro) :: (I y6, .uni .ro) :: gap 30 [])))), boxes := [(2, [(I y7, .ro), (I y8, .ro), (.sl 3 y9, .lent), (I y10, .ro), (.sl 105 y11, .lent), (.sl 103 y12, .lent)])] }
theorem st35_11 (K : Nat) (k : Nat) (y1 : LA) (y2 : LA) (y3 : LA) (y4 : LA) (y5 : Int) (y6 : Int) (y7 : Int) (y8 : Int) (y9 : LA) (y10 : Int) (y11 : LA) (y12 : LA) : mlp 35 Tryd.f35 K 11 (fun i_ => fun _ => none) (k + 1) (fr35_11 y1 y2 y3 y4 y5 y6 y7 y8 y9 y10 y11 y12) = tr35_11 K (fun y1 y2 y3 y4 y5 y6 y7 y8 y9 y10 y11 y12 => mlp 35 Tryd.f35 K 11 (fun i_ => fun _ => none) k (fr35_11 y1 y2 y3 y4 y5 y6 y7 y8 y9 y10 y11 y12)) y1 y2 y3 y4 y5 y6 y7 y8 y9 y10 y11 y12 := by kernel_rfl
theorem lq35_11 (K : Nat) : ∀ (k : Nat) (y1 : LA) (y2 : LA) (y3 : LA) (y4 : LA) (y5 : Int) (y6 : Int) (y7 : Int) (y8 : Int) (y9 : LA) (y10 : Int) (y11 : LA) (y12 : LA), mlp 35 Tryd.f35 K 11 (fun i_ => fun _ => none) k (fr35_11 y1 y2 y3 y4 y5 y6 y7 y8 y9 y10 y11 y12) = lp35_11 K k y1 y2 y3 y4 y5 y6 y7 y8 y9 y10 y11 y12
  | 0, _, _, _, _, _, _, _, _, _, _, _, _ => rfl
  | k + 1, y1, y2, y3, y4, y5, y6, y7, y8, y9, y10, y11, y12 => by
    rw [st35_11]
    have ih := lq35_11 K k
    try simp only [ih]
    try rfl
theorem eq35 (K : Nat) (a0_0 : Int) (a0_1 : Int) (a0_2 : LA) (a0_3 : Int) (a0_4 : LA) (a0_5 : LA) (a1 : LA) : run tab (K + 1) 35 [.agg [I a0_0, I a0_1, .sl 3 a0_2, I a0_3, .sl 105 a0_4, .sl 103 a0_5], .sl 3 a1] = sh35 K a0_0 a0_1 a0_2 a0_3 a0_4 a0_5 a1 := by
  have h : run tab (K + 1) 35 [.agg [I a0_0, I a0_1, .sl 3 a0_2, I a0_3, .sl 105 a0_4, .sl 103 a0_5], .sl 3 a1] = tr35 K (fun y1 y2 y3 y4 y5 y6 y7 y8 y9 y10 y11 y12 => mlp 35 Tryd.f35 K 11 (fun i_ => fun _ => none) K (fr35_11 y1 y2 y3 y4 y5 y6 y7 y8 y9 y10 y11 y12)) a0_0 a0_1 a0_2 a0_3 a0_4 a0_5 a1 := by kernel_rfl
  rw [h]
  simp only [lq35_11]
  rfl

/-! ### examiner/examinerref37.WordErr: function 36 -/
def tr36_4 (K : Nat) (q4 : LA → Int → Int → OA) (y1 : LA) (y2 : Int) (y3 : Int) : OA :=
  match decide (y3 < (y1.length : Int)) with | true => (if 0 ≤ y3 then (match y1[y3.toNat]? with | some x709 => (castI .i64 x709 fun n710 => match run tab K 29 [I n710, I 0, I (IntKind.i64.wrap (y2 - 1))] with | some r711 => (castB r711 fun b712 => match (!b712) with | true => (some (I 3)) | false => (q4 y1 y2 (IntKind.i64.wrap (y3 + 1)))) | none => none) | none => none) else none) | false => (some (I 0))
def tr36 (K : Nat) (q4 : LA → Int → Int → OA) (a0 : LA) (a1 : Int) (a2 : Int) : OA :=
  match decide ((a0.length : Int) > a2) with | true => (some (I 2)) | false => (q4 a0 a1 (0 : Int))
def lp36_4 (K : Nat) : Nat → LA → Int → Int → OA
  | 0, _, _, _ => none
  | k + 1, y1, y2, y3 => tr36_4 K (lp36_4 K k) y1 y2 y3
def sh36 (K : Nat) (a0 : LA) (a1 : Int) (a2 : Int) : OA := tr36 K (lp36_4 K K) a0 a1 a2
def fr36_4 (y1 : LA) (y2 : Int) (y3 : Int) : Fr := { slots := (.sl 3 y1, .uni .lent) :: (I y2, .uni .ro) :: gap 5 ((I y3, .uni .ro) :: gap 18 []), boxes := [] }
theorem st36_4 (K : Nat) (k : Nat) (y1 : LA) (y2 : Int) (y3 : Int) : mlp 36 Tryd.f36 K 4 (fun i_ => fun _ => none) (k + 1) (fr36_4 y1 y2 y3) = tr36_4 K (fun y1 y2 y3 => mlp 36 Tryd.f36 K 4 (fun i_ => fun _ => none) k (fr36_4 y1 y2 y3)) y1 y2 y3 := by kernel_rfl
theorem lq36_4 (K : Nat) : ∀ (k : Nat) (y1 : LA) (y2 : Int) (y3 : Int), mlp 36 Tryd.f36 K 4 (fun i_ => fun _ => none) k (fr36_4 y1 y2 y3) = lp36_4 K k y1 y2 y3
  | 0, _, _, _ => rfl
  | k + 1, y1, y2, y3 => by
    rw [st36_4]
    have ih := lq36_4 K k
    try simp only [ih]
    try rfl
theorem eq36 (K : Nat) (a0 : LA) (a1 : Int) (a2 : Int) : run tab (K + 1) 36 [.sl 3 a0, I a1, I a2] = sh36 K a0 a1 a2 := by
  have h : run tab (K + 1) 36 [.sl 3 a0, I a1, I a2] = tr36 K (fun y1 y2 y3 => mlp 36 Tryd.f36 K 4 (fun i_ => fun _ => none) K (fr36_4 y1 y2 y3)) a0 a1 a2 := by kernel_rfl
  rw [h]
  simp only [lq36_4]
  rfl

/-! ### examiner/examinerref37.Run: function 37 -/
def tr37_4 (K : Nat) (q4 : LA → LA → LA → Int → Int → Int → LA → Int → LA → LA → OA) (y1 : LA) (y2 : LA) (y3 : LA) (y4 : Int) (y5 : Int) (y6 : Int) (y7 : LA) (y8 : Int) (y9 : LA) (y10 : LA) : OA :=
  match decide (y4 < (y1.length : Int)) with | true => (if 0 ≤ y4 then (match y1[y4.toNat]? with | some x715 => (castI .i64 x715 fun n716 => match run tab K 30 [.agg [I y5, I y6, .sl 3 y7, I y8, .sl 105 y9, .sl 103 y10], .sl 3 y2, I n716] with | some r717 => (castL 3 (compN r717 0) fun l718 => castI .i64 (compN r717 1) fun n719 => castI .i64 (compN r717 2) fun n720 => match (n720 != (0 : Int)) with | true => (some (.tup [.sl 3 y3, I n720])) | false => (if (y3.length + ([I n719] : LA).length) * 8 ≤ maxBytes then (q4 y1 l718 (y3 ++ ([I n719] : LA)) (IntKind.i64.wrap (y4 + 1)) y5 y6 y7 y8 y9 y10) else none)) | none => none) | none => none) else none) | false => (some (.tup [.sl 3 y3, I 0]))
def tr37 (K : Nat) (q4 : LA → LA → LA → Int → Int → Int → LA → Int → LA → LA → OA) (a0_0 : Int) (a0_1 : Int) (a0_2 : LA) (a0_3 : Int) (a0_4 : LA) (a0_5 : LA) (a1 : LA) : OA :=
  match run tab K 55 [.agg [I a0_0, I a0_1, .sl 3 a0_2, I a0_3, .sl 105 a0_4, .sl 103 a0_5]] with | some r713 => (castL 3 r713 fun l714 => q4 a1 l714 ([] : LA) (0 : Int) a0_0 a0_1 a0_2 a0_3 a0_4 a0_5) | none => none
def lp37_4 (K : Nat) : Nat → LA → LA → LA → Int → Int → Int → LA → Int → LA → LA → OA
  | 0, _, _, _, _, _, _, _, _, _, _ => none
  | k + 1, y1, y2, y3, y4, y5, y6, y7, y8, y9, y10 => tr37_4 K (lp37_4 K k) y1 y2 y3 y4 y5 y6 y7 y8 y9 y10
def sh37 (K : Nat) (a0_0 : Int) (a0_1 : Int) (a0_2 : LA) (a0_3 : Int) (a0_4 : LA) (a0_5 : LA) (a1 : LA) : OA := tr37 K (lp37_4 K K) a0_0 a0_1 a0_2 a0_3 a0_4 a0_5 a1
def fr37_4 (y1 : LA) (y2 : LA) (y3 : LA) (y4 : Int) (y5 : Int) (y6 : Int) (y7 : LA) (y8 : Int) (y9 : LA) (y10 : LA) : Fr := { slots := gap 1 ((.sl 3 y1, .uni .lent) :: (.undef, .loc 2 0) :: gap 3 ((.sl 3 y2, .uni .own) :: (.sl 3 y3, .uni .own) :: (I y4, .uni .ro) :: gap 32 [])), boxes := [(2, [(I y5, .ro), (I y6, .ro), (.sl 3 y7, .lent), (I y8, .ro), (.sl 105 y9, .lent), (.sl 103 y10, .lent)])] }
theorem st37_4 (K : Nat) (k : Nat) (y1 : LA) (y2 : LA) (y3 : LA) (y4 : Int) (y5 : Int) (y6 : Int) (y7 : LA) (y8 : Int) (y9 : LA) (y10 : LA) : mlp 37 Tryd.f37 K 4 (fun i_ => fun _ => none) (k + 1) (fr37_4 y1 y2 y3 y4 y5 y6 y7 y8 y9 y10) = tr37_4 K (fun y1 y2 y3 y4 y5 y6 y7 y8 y9 y10 => mlp 37 Tryd.f37 K 4 (fun i_ => fun _ => none) k (fr37_4 y1 y2 y3 y4 y5 y6 y7 y8 y9 y10)) y1 y2 y3 y4 y5 y6 y7 y8 y9 y10 := by kernel_rfl
theorem lq37_4 (K : Nat) : ∀ (k : Nat) (y1 : LA) (y2 : LA) (y3 : LA) (y4 : Int) (y5 : Int) (y6 : Int) (y7 : LA) (y8 : Int) (y9 : LA) (y10 : LA), mlp 37 Tryd.f37 K 4 (fun i_ => fun _ => none) k (fr37_4 y1 y2 y3 y4 y5 y6 y7 y8 y9 y10) = lp37_4 K k y1 y2 y3 y4 y5 y6 y7 y8 y9 y10
  | 0, _, _, _, _, _, _, _, _, _, _ => rfl
  | k + 1, y1, y2, y3, y4, y5, y6, y7, y8, y9, y10 => by
    rw [st37_4]
    have ih := lq37_4 K k
    try simp only [ih]
    try rfl
theorem eq37 (K : Nat) (a0_0 : Int) (a0_1 : Int) (a0_2 : LA) (a0_3 : Int) (a0_4 : LA) (a0_5 : LA) (a1 : LA) : run tab (K + 1) 37 [.agg [I a0_0, I a0_1, .sl 3 a0_2, I a0_3, .sl 105 a0_4, .sl 103 a0_5], .sl 3 a1] = sh37 K a0_0 a0_1 a0_2 a0_3 a0_4 a0_5 a1 := by
  have h : run tab (K + 1) 37 [.agg [I a0_0, I a0_1, .sl 3 a0_2, I a0_3, .sl 105 a0_4, .sl 103 a0_5], .sl 3 a1] = tr37 K (fun y1 y2 y3 y4 y5 y6 y7 y8 y9 y10 => mlp 37 Tryd.f37 K 4 (fun i_ => fun _ => none) K (fr37_4 y1 y2 y3 y4 y5 y6 y7 y8 y9 y10)) a0_0 a0_1 a0_2 a0_3 a0_4 a0_5 a1 := by kernel_rfl
  rw [h]
  simp only [lq37_4]
  rfl

/-! ### examiner/model.Difference: function 38 -/
def tr38_11 (K : Nat) (q7 : LA → LA → LA → LA → Int → Int → Int → Int → Int → LA → OA) (q11 : LA → LA → LA → LA → Int → Int → Int → Int → Int → Int → Int → LA → Int → Int → OA) (y1 : LA) (y2 : LA) (y3 : LA) (y4 : LA) (y5 : Int) (y6 : Int) (y7 : Int) (y8 : Int) (y9 : Int) (y10 : Int) (y11 : Int) (y12 : LA) (y13 : Int) (y14 : Int) : OA :=
  match decide (y7 < y6) with | true => (if 0 ≤ y5 then (match y4[y5.toNat]? with | some x736 => (castL 3 x736 fun l737 => match run tab K 70 [.sl 3 l737] with | some r738 => (castL 3 r738 fun l739 => if (l739.length + ([I y7] : LA).length) * 8 ≤ maxBytes then (if 0 ≤ y13 then (match y1[y13.toNat]? with | some x740 => (castL 122 x740 fun l741 => if 0 ≤ y7 then (match l741[y7.toNat]? with | some x742 => (castP x742 fun q743 => if 0 ≤ y14 then (match y2[y14.toNat]? with | some x744 => (castL 122 x744 fun l745 => if 0 ≤ y7 then (match l745[y7.toNat]? with | some x746 => (castP x746 fun q747 => castNil q743 fun b748 => match b748 with | true => (castNil q747 fun b749 => match b749 with | true => (q11 y1 y2 y3 y4 y5 y6 (IntKind.i64.wrap (y7 + 1)) y8 y9 y10 y11 y12 y13 y14) | false => (castNil q743 fun b750 => match b750 with | true => (some (.tup [.sl 3 (l739 ++ ([I y7] : LA)), I 0])) | false => (castNil q747 fun b751 => match b751 with | true => (some (.tup [.sl 3 (l739 ++ ([I y7] : LA)), I 0])) | false => (castRef q743 fun p752 => castRef (.ref p752) fun p753 => castI .i64 (p753.getD 2 .undef) fun n754 => castRef q747 fun p755 => castRef (.ref p755) fun p756 => castI .i64 (p756.getD 2 .undef) fun n757 => match (n754 != n757) with | true => (some (.tup [.sl 3 (l739 ++ ([I y7] : LA)), I 0])) | false => (castRef q743 fun p758 => castRef (.ref p758) fun p759 => castI .i64 (p759.getD 3 .undef) fun n760 => castRef q747 fun p761 => castRef (.ref p761) fun p762 => castI .i64 (p762.getD 3 .undef) fun n763 => match run tab K 71 [.sl 52 y3, .agg [I n760, I n763]] with | some r764 => (castB r764 fun b765 => match (!b765) with | true => (if (y3.length + ([.agg [I n760, I n763]] : LA).length) * 16 ≤ maxBytes then (if (y4.length + ([.sl 3 (l739 ++ ([I y7] : LA))] : LA).length) * 24 ≤ maxBytes then (q11 y1 y2 (y3 ++ ([.agg [I n760, I n763]] : LA)) (y4 ++ ([.sl 3 (l739 ++ ([I y7] : LA))] : LA)) y5 y6 (IntKind.i64.wrap (y7 + 1)) y8 y9 y10 y11 y12 y13 y14) else none) else none) | false => (q11 y1 y2 y3 y4 y5 y6 (IntKind.i64.wrap (y7 + 1)) y8 y9 y10 y11 y12 y13 y14)) | none => none))))) | false => (castNil q743 fun b766 => match b766 with | true => (some (.tup [.sl 3 (l739 ++ ([I y7] : LA)), I 0])) | false => (castNil q747 fun b767 => match b767 with | true => (some (.tup [.sl 3 (l739 ++ ([I y7] : LA)), I 0])) | false => (castRef q743 fun p768 => castRef (.ref p768) fun p769 => castI .i64 (p769.getD 2 .undef) fun n770 => castRef q747 fun p771 => castRef (.ref p771) fun p772 => castI .i64 (p772.getD 2 .undef) fun n773 => match (n770 != n773) with | true => (some (.tup [.sl 3 (l739 ++ ([I y7] : LA)), I 0])) | false => (castRef q743 fun p774 => castRef (.ref p774) fun p775 => castI .i64 (p775.getD 3 .undef) fun n776 => castRef q747 fun p777 => castRef (.ref p777) fun p778 => castI .i64 (p778.getD 3 .undef) fun n779 => match run tab K 71 [.sl 52 y3, .agg [I n776, I n779]] with | some r780 => (castB r780 fun b781 => match (!b781) with | true => (if (y3.length + ([.agg [I n776, I n779]] : LA).length) * 16 ≤ maxBytes then (if (y4.length + ([.sl 3 (l739 ++ ([I y7] : LA))] : LA).length) * 24 ≤ maxBytes then (q11 y1 y2 (y3 ++ ([.agg [I n776, I n779]] : LA)) (y4 ++ ([.sl 3 (l739 ++ ([I y7] : LA))] : LA)) y5 y6 (IntKind.i64.wrap (y7 + 1)) y8 y9 y10 y11 y12 y13 y14) else none) else none) | false => (q11 y1 y2 y3 y4 y5 y6 (IntKind.i64.wrap (y7 + 1)) y8 y9 y10 y11 y12 y13 y14)) | none => none))))) | none => none) else none) | none => none) else none) | none => none) else none) | none => none) else none) else none) | none => none) | none => none) else none) | false => (q7 y1 y2 y3 y4 (IntKind.i64.wrap (y5 + 1)) y8 y9 y10 y11 y12)
def tr38_7 (K : Nat) (q11 : LA → LA → LA → LA → Int → Int → Int → Int → Int → Int → Int → LA → Int → Int → OA) (y1 : LA) (y2 : LA) (y3 : LA) (y4 : LA) (y5 : Int) (y6 : Int) (y7 : Int) (y8 : Int) (y9 : Int) (y10 : LA) : OA :=
  match decide (y5 < (y3.length : Int)) with | true => (if 0 ≤ y5 then (match y3[y5.toNat]? with | some x733 => (castI .i64 (cellN x733 0) fun n734 => castI .i64 (cellN x733 1) fun n735 => q11 y1 y2 y3 y4 y5 y7 (0 : Int) y6 y7 y8 y9 y10 n734 n735) | none => none) else none) | false => (some (.tup [.sl 3 [], I 23]))
def tr38 (K : Nat) (q7 : LA → LA → LA → LA → Int → Int → Int → Int → Int → LA → OA) (a0_0 : Int) (a0_1 : Int) (a0_2 : Int) (a0_3 : Int) (a0_4 : LA) (a1_0 : Int) (a1_1 : Int) (a1_2 : Int) (a1_3 : Int) (a1_4 : LA) : OA :=
  match run tab K 66 [.agg [I a0_0, I a0_1, I a0_2, I a0_3, .sl 97 a0_4]] with | some r721 => (castI .i64 r721 fun n722 => match run tab K 66 [.agg [I a1_0, I a1_1, I a1_2, I a1_3, .sl 97 a1_4]] with | some r723 => (castI .i64 r723 fun n724 => match run tab K 62 [B (a0_1 == a1_1), I 6] with | some r725 => (castI .i64 r725 fun n726 => match run tab K 61 [.sl 32 [I n722, I n724, I n726]] with | some r727 => (castI .i64 r727 fun n728 => match (n728 != (0 : Int)) with | true => (some (.tup [.sl 3 [], I n728])) | false => (match run tab K 67 [.agg [I a0_0, I a0_1, I a0_2, I a0_3, .sl 97 a0_4]] with | some r729 => (castL 121 r729 fun l730 => match run tab K 67 [.agg [I a1_0, I a1_1, I a1_2, I a1_3, .sl 97 a1_4]] with | some r731 => (castL 121 r731 fun l732 => q7 l730 l732 ([.agg [I a0_3, I a1_3]] : LA) ([.sl 3 []] : LA) (0 : Int) a0_0 a0_1 a0_2 a0_3 a0_4) | none => none) | none => none)) | none => none) | none => none) | none => none) | none => none
def lp38_11 (K : Nat) (q7 : LA → LA → LA → LA → Int → Int → Int → Int → Int → LA → OA) : Nat → LA → LA → LA → LA → Int → Int → Int → Int → Int → Int → Int → LA → Int → Int → OA
  | 0, _, _, _, _, _, _, _, _, _, _, _, _, _, _ => none
  | k + 1, y1, y2, y3, y4, y5, y6, y7, y8, y9, y10, y11, y12, y13, y14 => tr38_11 K q7 (lp38_11 K q7 k) y1 y2 y3 y4 y5 y6 y7 y8 y9 y10 y11 y12 y13 y14
def lp38_7 (K : Nat) : Nat → LA → LA → LA → LA → Int → Int → Int → Int → Int → LA → OA
  | 0, _, _, _, _, _, _, _, _, _, _ => none
  | k + 1, y1, y2, y3, y4, y5, y6, y7, y8, y9, y10 => tr38_7 K (lp38_11 K (lp38_7 K k) K) y1 y2 y3 y4 y5 y6 y7 y8 y9 y10
def sh38 (K : Nat) (a0_0 : Int) (a0_1 : Int) (a0_2 : Int) (a0_3 : Int) (a0_4 : LA) (a1_0 : Int) (a1_1 : Int) (a1_2 : Int) (a1_3 : Int) (a1_4 : LA) : OA := tr38 K (lp38_7 K K) a0_0 a0_1 a0_2 a0_3 a0_4 a1_0 a1_1 a1_2 a1_3 a1_4
def fr38_11 (y1 : LA) (y2 : LA) (y3 : LA) (y4 : LA) (y5 : Int) (y6 : Int) (y7 : Int) (y8 : Int) (y9 : Int) (y10 : Int) (y11 : Int) (y12 : LA) (y13 : Int) (y14 : Int) : Fr := { slots := gap 2 ((.undef, .loc 2 0) :: gap 4 ((.sl 121 y1, .uni .ro) :: (.sl 121 y2, .uni .ro) :: (.sl 52 y3, .uni .own) :: (.sl 22 y4, .uni .own) :: (I y5, .uni .ro) :: (.undef, .loc 12 0) :: gap 42 ((I y6, .uni .ro) :: (I y7, .uni .ro) :: gap 72 []))), boxes := [(2, [(I y8, .ro), (I y9, .ro), (I y10, .ro), (I y11, .ro), (.sl 97 y12, .lent)]), (12, [(I y13, .ro), (I y14, .ro)])] }
def fr38_7 (y1 : LA) (y2 : LA) (y3 : LA) (y4 : LA) (y5 : Int) (y6 : Int) (y7 : Int) (y8 : Int) (y9 : Int) (y10 : LA) : Fr := { slots := gap 2 ((.undef, .loc 2 0) :: gap 4 ((.sl 121 y1, .uni .ro) :: (.sl 121 y2, .uni .ro) :: (.sl 52 y3, .uni .own) :: (.sl 22 y4, .uni .own) :: (I y5, .uni .ro) :: gap 117 [])), boxes := [(2, [(I y6, .ro), (I y7, .ro), (I y8, .ro), (I y9, .ro), (.sl 97 y10, .lent)])] }
theorem st38_11 (K : Nat) (RO7 : Fr → OA) (k : Nat) (y1 : LA) (y2 : LA) (y3 : LA) (y4 : LA) (y5 : Int) (y6 : Int) (y7 : Int) (y8 : Int) (y9 : Int) (y10 : Int) (y11 : Int) (y12 : LA) (y13 : Int) (y14 : Int) : mlp 38 Tryd.f38 K 11 (fun i_ => if i_ = 7 then RO7 else fun _ => none) (k + 1) (fr38_11 y1 y2 y3 y4 y5 y6 y7 y8 y9 y10 y11 y12 y13 y14) = tr38_11 K (fun y1 y2 y3 y4 y5 y6 y7 y8 y9 y10 => RO7 (fr38_7 y1 y2 y3 y4 y5 y6 y7 y8 y9 y10)) (fun y1 y2 y3 y4 y5 y6 y7 y8 y9 y10 y11 y12 y13 y14 => mlp 38 Tryd.f38 K 11 (fun i_ => if i_ = 7 then RO7 else fun _ => none) k (fr38_11 y1 y2 y3 y4 y5 y6 y7 y8 y9 y10 y11 y12 y13 y14)) y1 y2 y3 y4 y5 y6 y7 y8 y9 y10 y11 y12 y13 y14 := by kernel_rfl
theorem lq38_11 (K : Nat) (RO7 : Fr → OA) : ∀ (k : Nat) (y1 : LA) (y2 : LA) (y3 : LA) (y4 : LA) (y5 : Int) (y6 : Int) (y7 : Int) (y8 : Int) (y9 : Int) (y10 : Int) (y11 : Int) (y12 : LA) (y13 : Int) (y14 : Int), mlp 38 Tryd.f38 K 11 (fun i_ => if i_ = 7 then RO7 else fun _ => none) k (fr38_11 y1 y2 y3 y4 y5 y6 y7 y8 y9 y10 y11 y12 y13 y14) = lp38_11 K (fun y1 y2 y3 y4 y5 y6 y7 y8 y9 y10 => RO7 (fr38_7 y1 y2 y3 y4 y5 y6 y7 y8 y9 y10)) k y1 y2 y3 y4 y5 y6 y7 y8 y9 y10 y11 y12 y13 y14
  | 0, _, _, _, _, _, _, _, _, _, _, _, _, _, _ => rfl
  | k + 1, y1, y2, y3, y4, y5, y6, y7, y8, y9, y10, y11, y12, y13, y14 => by
    rw [st38_11]
    have ih := lq38_11 K RO7 k
    try simp only [ih]
    try rfl
theorem st38_7 (K : Nat) (k : Nat) (y1 : LA) (y2 : LA) (y3 : LA) (y4 : LA) (y5 : Int) (y6 : Int) (y7 : Int) (y8 : Int) (y9 : Int) (y10 : LA) : mlp 38 Tryd.f38 K 7 (fun i_ => fun _ => none) (k + 1) (fr38_7 y1 y2 y3 y4 y5 y6 y7 y8 y9 y10) = tr38_7 K (fun y1 y2 y3 y4 y5 y6 y7 y8 y9 y10 y11 y12 y13 y14 => mlp 38 Tryd.f38 K 11 (fun i_ => if i_ = 7 then (fun fr_ => mlp 38 Tryd.f38 K 7 (fun i_ => fun _ => none) k fr_) else fun _ => none) K (fr38_11 y1 y2 y3 y4 y5 y6 y7 y8 y9 y10 y11 y12 y13 y14)) y1 y2 y3 y4 y5 y6 y7 y8 y9 y10 := by kernel_rfl
theorem lq38_7 (K : Nat) : ∀ (k : Nat) (y1 : LA) (y2 : LA) (y3 : LA) (y4 : LA) (y5 : Int) (y6 : Int) (y7 : Int) (y8 : Int) (y9 : Int) (y10 : LA), mlp 38 Tryd.f38 K 7 (fun i_ => fun _ => none) k (fr38_7 y1 y2 y3 y4 y5 y6 y7 y8 y9 y10) = lp38_7 K k y1 y2 y3 y4 y5 y6 y7 y8 y9 y10
  | 0, _, _, _, _, _, _, _, _, _, _ => rfl
  | k + 1, y1, y2, y3, y4, y5, y6, y7, y8, y9, y10 => by
    rw [st38_7]
    have ih := lq38_7 K k
    have ih11 := lq38_11 K (fun fr_ => mlp 38 Tryd.f38 K 7 (fun i_ => fun _ => none) k fr_) K
    try simp only [ih, ih11]
    try rfl
theorem eq38 (K : Nat) (a0_0 : Int) (a0_1 : Int) (a0_2 : Int) (a0_3 : Int) (a0_4 : LA) (a1_0 : Int) (a1_1 : Int) (a1_2 : Int) (a1_3 : Int) (a1_4 : LA) : run tab (K + 1) 38 [.agg [I a0_0, I a0_1, I a0_2, I a0_3, .sl 97 a0_4], .agg [I a1_0, I a1_1, I a1_2, I a1_3, .sl 97 a1_4]] = sh38 K a0_0 a0_1 a0_2 a0_3 a0_4 a1_0 a1_1 a1_2 a1_3 a1_4 := by
  have h : run tab (K + 1) 38 [.agg [I a0_0, I a0_1, I a0_2, I a0_3, .sl 97 a0_4], .agg [I a1_0, I a1_1, I a1_2, I a1_3, .sl 97 a1_4]] = tr38 K (fun y1 y2 y3 y4 y5 y6 y7 y8 y9 y10 => mlp 38 Tryd.f38 K 7 (fun i_ => fun _ => none) K (fr38_7 y1 y2 y3 y4 y5 y6 y7 y8 y9 y10)) a0_0 a0_1 a0_2 a0_3 a0_4 a1_0 a1_1 a1_2 a1_3 a1_4 := by kernel_rfl
  rw [h]
  simp only [lq38_7]
  rfl

/-! ### examiner/examinerref37.Differ: function 39 -/
def tr39 (K : Nat) (a0_0 : Int) (a0_1 : Int) (a0_2 : Int) (a0_3 : Int) (a0_4 : LA) (a1_0 : Int) (a1_1 : Int) (a1_2 : Int) (a1_3 : Int) (a1_4 : LA) (a2 : Int) (a3 : Int) : OA :=
  match run tab K 72 [.agg [I a0_0, I a0_1, I a0_2, I a0_3, .sl 97 a0_4], .agg [I a1_0, I a1_1, I a1_2, I a1_3, .sl 97 a1_4], .agg [I a2, I a3, .sl 3 []]] with | some r782 => (castL 3 (compN r782 0) fun l783 => castB (compN r782 1) fun b784 => castL 130 (compN r782 2) fun l785 => some (.tup [.sl 3 l783, B b784])) | none => none
def sh39 (K : Nat) (a0_0 : Int) (a0_1 : Int) (a0_2 : Int) (a0_3 : Int) (a0_4 : LA) (a1_0 : Int) (a1_1 : Int) (a1_2 : Int) (a1_3 : Int) (a1_4 : LA) (a2 : Int) (a3 : Int) : OA := tr39 K a0_0 a0_1 a0_2 a0_3 a0_4 a1_0 a1_1 a1_2 a1_3 a1_4 a2 a3
theorem eq39 (K : Nat) (a0_0 : Int) (a0_1 : Int) (a0_2 : Int) (a0_3 : Int) (a0_4 : LA) (a1_0 : Int) (a1_1 : Int) (a1_2 : Int) (a1_3 : Int) (a1_4 : LA) (a2 : Int) (a3 : Int) : run tab (K + 1) 39 [.agg [I a0_0, I a0_1, I a0_2, I a0_3, .sl 97 a0_4], .agg [I a1_0, I a1_1, I a1_2, I a1_3, .sl 97 a1_4], I a2, I a3] = sh39 K a0_0 a0_1 a0_2 a0_3 a0_4 a1_0 a1_1 a1_2 a1_3 a1_4 a2 a3 := by kernel_rfl

/-! ### examiner/model.AnswerOf: function 40 -/
def tr40_7 (K : Nat) (q7 : Int → LA → LA → LA → LA → Int → Int → OA) (y1 : Int) (y2 : LA) (y3 : LA) (y4 : LA) (y5 : LA) (y6 : Int) (y7 : Int) : OA :=
  match decide (y7 < y6) with | true => (if 0 ≤ y7 then (match y5[y7.toNat]? with | some x798 => (castI .i64 x798 fun n799 => if 0 ≤ y1 then (match y2[y1.toNat]? with | some x800 => (castL 122 x800 fun l801 => if 0 ≤ n799 then (match l801[n799.toNat]? with | some x802 => (castP x802 fun q803 => castNil q803 fun b804 => match b804 with | true => (some (.tup [.sl 3 y3, .sl 3 y4, I 0])) | false => (castRef q803 fun p805 => castRef (.ref p805) fun p806 => castI .i64 (p806.getD 3 .undef) fun n807 => castRef q803 fun p808 => castRef (.ref p808) fun p809 => castI .i64 (p809.getD 2 .undef) fun n810 => if (y3.length + ([I n810] : LA).length) * 8 ≤ maxBytes then (if (y4.length + ([I n807] : LA).length) * 8 ≤ maxBytes then (q7 n807 y2 (y3 ++ ([I n810] : LA)) (y4 ++ ([I n807] : LA)) y5 y6 (IntKind.i64.wrap (y7 + 1))) else none) else none)) | none => none) else none) | none => none) else none) | none => none) else none) | false => (some (.tup [.sl 3 y3, .sl 3 y4, I 0]))
def tr40 (K : Nat) (q7 : Int → LA → LA → LA → LA → Int → Int → OA) (a0_0 : Int) (a0_1 : Int) (a0_2 : Int) (a0_3 : Int) (a0_4 : LA) (a1 : Int) (a2 : LA) : OA :=
  match run tab K 66 [.agg [I a0_0, I a0_1, I a0_2, I a0_3, .sl 97 a0_4]] with | some r786 => (castI .i64 r786 fun n787 => match run tab K 57 [I a1, I 0, I (IntKind.i64.wrap (a0_0 - 1))] with | some r788 => (castB r788 fun b789 => match run tab K 62 [B b789, I 3] with | some r790 => (castI .i64 r790 fun n791 => match run tab K 69 [.sl 3 a2, I a0_1] with | some r792 => (castI .i64 r792 fun n793 => match run tab K 61 [.sl 32 [I n787, I n791, I n793]] with | some r794 => (castI .i64 r794 fun n795 => match (n795 != (0 : Int)) with | true => (some (.tup [.sl 3 [], .sl 3 [], I n795])) | false => (match run tab K 67 [.agg [I a0_0, I a0_1, I a0_2, I a0_3, .sl 97 a0_4]] with | some r796 => (castL 121 r796 fun l797 => q7 a1 l797 ([] : LA) ([] : LA) a2 (a2.length : Int) (0 : Int)) | none => none)) | none => none) | none => none) | none => none) | none => none) | none => none
def lp40_7 (K : Nat) : Nat → Int → LA → LA → LA → LA → Int → Int → OA
  | 0, _, _, _, _, _, _, _ => none
  | k + 1, y1, y2, y3, y4, y5, y6, y7 => tr40_7 K (lp40_7 K k) y1 y2 y3 y4 y5 y6 y7
def sh40 (K : Nat) (a0_0 : Int) (a0_1 : Int) (a0_2 : Int) (a0_3 : Int) (a0_4 : LA) (a1 : Int) (a2 : LA) : OA := tr40 K (lp40_7 K K) a0_0 a0_1 a0_2 a0_3 a0_4 a1 a2
def fr40_7 (y1 : Int) (y2 : LA) (y3 : LA) (y4 : LA) (y5 : LA) (y6 : Int) (y7 : Int) : Fr := { slots := gap 1 ((I y1, .uni .ro) :: gap 8 ((.sl 121 y2, .uni .ro) :: (.sl 3 y3, .uni .own) :: (.sl 3 y4, .uni .own) :: gap 22 ((.sl 3 y5, .uni .lent) :: (I y6, .uni .ro) :: (I y7, .uni .ro) :: gap 30 []))), boxes := [] }
theorem st40_7 (K : Nat) (k : Nat) (y1 : Int) (y2 : LA) (y3 : LA) (y4 : LA) (y5 : LA) (y6 : Int) (y7 : Int) : mlp 40 Tryd.f40 K 7 (fun i_ => fun _ => none) (k + 1) (fr40_7 y1 y2 y3 y4 y5 y6 y7) = tr40_7 K (fun y1 y2 y3 y4 y5 y6 y7 => mlp 40 Tryd.f40 K 7 (fun i_ => fun _ => none) k (fr40_7 y1 y2 y3 y4 y5 y6 y7)) y1 y2 y3 y4 y5 y6 y7 := by kernel_rfl
theorem lq40_7 (K : Nat) : ∀ (k : Nat) (y1 : Int) (y2 : LA) (y3 : LA) (y4 : LA) (y5 : LA) (y6 : Int) (y7 : Int), mlp 40 Tryd.f40 K 7 (fun i_ => fun _ => none) k (fr40_7 y1 y2 y3 y4 y5 y6 y7) = lp40_7 K k y1 y2 y3 y4 y5 y6 y7
  | 0, _, _, _, _, _, _, _ => rfl
  | k + 1, y1, y2, y3, y4, y5, y6, y7 => by
    rw [st40_7]
    have ih := lq40_7 K k
    try simp only [ih]
    try rfl
theorem eq40 (K : Nat) (a0_0 : Int) (a0_1 : Int) (a0_2 : Int) (a0_3 : Int) (a0_4 : LA) (a1 : Int) (a2 : LA) : run tab (K + 1) 40 [.agg [I a0_0, I a0_1, I a0_2, I a0_3, .sl 97 a0_4], I a1, .sl 3 a2] = sh40 K a0_0 a0_1 a0_2 a0_3 a0_4 a1 a2 := by
  have h : run tab (K + 1) 40 [.agg [I a0_0, I a0_1, I a0_2, I a0_3, .sl 97 a0_4], I a1, .sl 3 a2] = tr40 K (fun y1 y2 y3 y4 y5 y6 y7 => mlp 40 Tryd.f40 K 7 (fun i_ => fun _ => none) K (fr40_7 y1 y2 y3 y4 y5 y6 y7)) a0_0 a0_1 a0_2 a0_3 a0_4 a1 a2 := by kernel_rfl
  rw [h]
  simp only [lq40_7]
  rfl

/-! ### examiner/examinerref37.Answer: function 43 -/
def tr43_4 (K : Nat) (q4 : LA → LA → LA → Int → Int → Int → Int → Int → LA → OA) (y1 : LA) (y2 : LA) (y3 : LA) (y4 : Int) (y5 : Int) (y6 : Int) (y7 : Int) (y8 : Int) (y9 : LA) : OA :=
  match decide (y4 < (y3.length : Int)) with | true => (if 0 ≤ y4 then (match y3[y4.toNat]? with | some x813 => (castI .i64 x813 fun n814 => if 0 ≤ n814 then (match y9[n814.toNat]? with | some x815 => (castI .i64 (cellN x815 2) fun n816 => if 0 ≤ y4 then (match y3[y4.toNat]? with | some x817 => (castI .i64 x817 fun n818 => if 0 ≤ n818 then (match y9[n818.toNat]? with | some x819 => (castI .i64 (cellN x819 3) fun n820 => if (y1.length + ([I n816] : LA).length) * 8 ≤ maxBytes then (if (y2.length + ([I n820] : LA).length) * 8 ≤ maxBytes then (q4 (y1 ++ ([I n816] : LA)) (y2 ++ ([I n820] : LA)) y3 (IntKind.i64.wrap (y4 + 1)) y5 y6 y7 y8 y9) else none) else none) | none => none) else none) | none => none) else none) | none => none) else none) | none => none) else none) | false => (some (.tup [.sl 3 y1, .sl 3 y2]))
def tr43 (K : Nat) (q4 : LA → LA → LA → Int → Int → Int → Int → Int → LA → OA) (a0_0 : Int) (a0_1 : Int) (a0_2 : Int) (a0_3 : Int) (a0_4 : LA) (a1 : Int) (a2 : LA) : OA :=
  match run tab K 77 [.agg [I a0_0, I a0_1, I a0_2, I a0_3, .sl 97 a0_4], I a1, .sl 3 a2] with | some r811 => (castL 3 r811 fun l812 => q4 ([] : LA) ([] : LA) l812 (0 : Int) a0_0 a0_1 a0_2 a0_3 a0_4) | none => none
def lp43_4 (K : Nat) : Nat → LA → LA → LA → Int → Int → Int → Int → Int → LA → OA
  | 0, _, _, _, _, _, _, _, _, _ => none
  | k + 1, y1, y2, y3, y4, y5, y6, y7, y8, y9 => tr43_4 K (lp43_4 K k) y1 y2 y3 y4 y5 y6 y7 y8 y9
def sh43 (K : Nat) (a0_0 : Int) (a0_1 : Int) (a0_2 : Int) (a0_3 : Int) (a0_4 : LA) (a1 : Int) (a2 : LA) : OA := tr43 K (lp43_4 K K) a0_0 a0_1 a0_2 a0_3 a0_4 a1 a2
def fr43_4 (y1 : LA) (y2 : LA) (y3 : LA) (y4 : Int) (y5 : Int) (y6 : Int) (y7 : Int) (y8 : Int) (y9 : LA) : Fr := { slots := gap 3 ((.undef, .loc 3 0) :: gap 4 ((.sl 3 y1, .uni .own) :: (.sl 3 y2, .uni .own) :: (.sl 3 y3, .uni .own) :: (I y4, .uni .ro) :: gap 36 [])), boxes := [(3, [(I y5, .ro), (I y6, .ro), (I y7, .ro), (I y8, .ro), (.sl 97 y9, .lent)])] }
theorem st43_4 (K : Nat) (k : Nat) (y1 : LA) (y2 : LA) (y3 : LA) (y4 : Int) (y5 : Int) (y6 : Int) (y7 : Int) (y8 : Int) (y9 : LA) : mlp 43 Tryd.f43 K 4 (fun i_ => fun _ => none) (k + 1) (fr43_4 y1 y2 y3 y4 y5 y6 y7 y8 y9) = tr43_4 K (fun y1 y2 y3 y4 y5 y6 y7 y8 y9 => mlp 43 Tryd.f43 K 4 (fun i_ => fun _ => none) k (fr43_4 y1 y2 y3 y4 y5 y6 y7 y8 y9)) y1 y2 y3 y4 y5 y6 y7 y8 y9 := by kernel_rfl
theorem lq43_4 (K : Nat) : ∀ (k : Nat) (y1 : LA) (y2 : LA) (y3 : LA) (y4 : Int) (y5 : Int) (y6 : Int) (y7 : Int) (y8 : Int) (y9 : LA), mlp 43 Tryd.f43 K 4 (fun i_ => fun _ => none) k (fr43_4 y1 y2 y3 y4 y5 y6 y7 y8 y9) = lp43_4 K k y1 y2 y3 y4 y5 y6 y7 y8 y9
  | 0, _, _, _, _, _, _, _, _, _ => rfl
  | k + 1, y1, y2, y3, y4, y5, y6, y7, y8, y9 => by
    rw [st43_4]
    have ih := lq43_4 K k
    try simp only [ih]
    try rfl
theorem eq43 (K : Nat) (a0_0 : Int) (a0_1 : Int) (a0_2 : Int) (a0_3 : Int) (a0_4 : LA) (a1 : Int) (a2 : LA) : run tab (K + 1) 43 [.agg [I a0_0, I a0_1, I a0_2, I a0_3, .sl 97 a0_4], I a1, .sl 3 a2] = sh43 K a0_0 a0_1 a0_2 a0_3 a0_4 a1 a2 := by
  have h : run tab (K + 1) 43 [.agg [I a0_0, I a0_1, I a0_2, I a0_3, .sl 97 a0_4], I a1, .sl 3 a2] = tr43 K (fun y1 y2 y3 y4 y5 y6 y7 y8 y9 => mlp 43 Tryd.f43 K 4 (fun i_ => fun _ => none) K (fr43_4 y1 y2 y3 y4 y5 y6 y7 y8 y9)) a0_0 a0_1 a0_2 a0_3 a0_4 a1 a2 := by kernel_rfl
  rw [h]
  simp only [lq43_4]
  rfl

/-! ### examiner/model.modelErr: function 47 -/
def tr47 (K : Nat) (a0_0 : Int) (a0_1 : Int) (a0_2 : LA) (a0_3 : Int) (a0_4 : LA) (a0_5 : LA) : OA :=
  match run tab K 23 [.agg [I a0_0, I a0_1, .sl 3 a0_2, I a0_3, .sl 105 a0_4, .sl 103 a0_5]] with | some r821 => (castI .i64 (compN r821 0) fun n822 => castI .i64 (compN r821 1) fun n823 => some (I n823)) | none => none
def sh47 (K : Nat) (a0_0 : Int) (a0_1 : Int) (a0_2 : LA) (a0_3 : Int) (a0_4 : LA) (a0_5 : LA) : OA := tr47 K a0_0 a0_1 a0_2 a0_3 a0_4 a0_5
theorem eq47 (K : Nat) (a0_0 : Int) (a0_1 : Int) (a0_2 : LA) (a0_3 : Int) (a0_4 : LA) (a0_5 : LA) : run tab (K + 1) 47 [.agg [I a0_0, I a0_1, .sl 3 a0_2, I a0_3, .sl 105 a0_4, .sl 103 a0_5]] = sh47 K a0_0 a0_1 a0_2 a0_3 a0_4 a0_5 := by kernel_rfl

/-! ### examiner/model.first: function 49 -/
def tr49_3 (K : Nat) (q3 : LA → LA → Int → Int → OA) (y1 : LA) (y2 : LA) (y3 : Int) (y4 : Int) : OA :=
  match decide (y4 < y3) with | true => (if 0 ≤ y4 then (match y2[y4.toNat]? with | some x824 => (castI .i64 (cellN x824 0) fun n825 => castI .i64 (cellN x824 1) fun n826 => castI .i64 (cellN x824 2) fun n827 => if (y1.length + ([I n827] : LA).length) * 8 ≤ maxBytes then (q3 (y1 ++ ([I n827] : LA)) y2 y3 (IntKind.i64.wrap (y4 + 1))) else none) | none => none) else none) | false => (some (.sl 3 y1))
def tr49 (K : Nat) (q3 : LA → LA → Int → Int → OA) (a0_0 : Int) (a0_1 : Int) (a0_2 : LA) (a0_3 : Int) (a0_4 : LA) (a0_5 : LA) : OA :=
  q3 ([I a0_1] : LA) a0_4 (a0_4.length : Int) (0 : Int)
def lp49_3 (K : Nat) : Nat → LA → LA → Int → Int → OA
  | 0, _, _, _, _ => none
  | k + 1, y1, y2, y3, y4 => tr49_3 K (lp49_3 K k) y1 y2 y3 y4
def sh49 (K : Nat) (a0_0 : Int) (a0_1 : Int) (a0_2 : LA) (a0_3 : Int) (a0_4 : LA) (a0_5 : LA) : OA := tr49 K (lp49_3 K K) a0_0 a0_1 a0_2 a0_3 a0_4 a0_5
def fr49_3 (y1 : LA) (y2 : LA) (y3 : Int) (y4 : Int) : Fr := { slots := gap 3 ((.sl 3 y1, .uni .own) :: gap 6 ((.sl 105 y2, .uni .lent) :: (I y3, .uni .ro) :: (I y4, .uni .ro) :: gap 10 [])), boxes := [] }
theorem st49_3 (K : Nat) (k : Nat) (y1 : LA) (y2 : LA) (y3 : Int) (y4 : Int) : mlp 49 Tryd.f49 K 3 (fun i_ => fun _ => none) (k + 1) (fr49_3 y1 y2 y3 y4) = tr49_3 K (fun y1 y2 y3 y4 => mlp 49 Tryd.f49 K 3 (fun i_ => fun _ => none) k (fr49_3 y1 y2 y3 y4)) y1 y2 y3 y4 := by kernel_rfl
theorem lq49_3 (K : Nat) : ∀ (k : Nat) (y1 : LA) (y2 : LA) (y3 : Int) (y4 : Int), mlp 49 Tryd.f49 K 3 (fun i_ => fun _ => none) k (fr49_3 y1 y2 y3 y4) = lp49_3 K k y1 y2 y3 y4
  | 0, _, _, _, _ => rfl
  | k + 1, y1, y2, y3, y4 => by
    rw [st49_3]
    have ih := lq49_3 K k
    try simp only [ih]
    try rfl
theorem eq49 (K : Nat) (a0_0 : Int) (a0_1 : Int) (a0_2 : LA) (a0_3 : Int) (a0_4 : LA) (a0_5 : LA) : run tab (K + 1) 49 [.agg [I a0_0, I a0_1, .sl 3 a0_2, I a0_3, .sl 105 a0_4, .sl 103 a0_5]] = sh49 K a0_0 a0_1 a0_2 a0_3 a0_4 a0_5 := by
  have h : run tab (K + 1) 49 [.agg [I a0_0, I a0_1, .sl 3 a0_2, I a0_3, .sl 105 a0_4, .sl 103 a0_5]] = tr49 K (fun y1 y2 y3 y4 => mlp 49 Tryd.f49 K 3 (fun i_ => fun _ => none) K (fr49_3 y1 y2 y3 y4)) a0_0 a0_1 a0_2 a0_3 a0_4 a0_5 := by kernel_rfl
  rw [h]
  simp only [lq49_3]
  rfl

/-! ### examiner/model.next: function 50 -/
def tr50_3 (K : Nat) (q3 : LA → LA → LA → Int → Int → Int → Int → LA → Int → LA → LA → Int → Int → LA → Int → OA) (y1 : LA) (y2 : LA) (y3 : LA) (y4 : Int) (y5 : Int) (y6 : Int) (y7 : Int) (y8 : LA) (y9 : Int) (y10 : LA) (y11 : LA) (y12 : Int) (y13 : Int) (y14 : LA) (y15 : Int) : OA :=
  match decide (y5 < y4) with | true => (if 0 ≤ y5 then (match y3[y5.toNat]? with | some x828 => (castI .i64 (cellN x828 0) fun n829 => castI .i64 (cellN x828 1) fun n830 => castI .i64 (cellN x828 2) fun n831 => castL 141 (cellN x828 3) fun l832 => castL 139 (cellN x828 4) fun l833 => castI .i64 (cellN x828 5) fun n834 => castI .i64 (cellN x828 6) fun n835 => match (n831 != y12) with | true => (q3 y1 y2 y3 y4 (IntKind.i64.wrap (y5 + 1)) y6 y7 y8 y9 y10 y11 y12 y13 y14 y15) | false => (match run tab K 82 [.agg [I y6, I y7, .sl 3 y8, I y9, .sl 105 y10, .sl 103 y11], .agg [I n829, I n830, I n831, .sl 141 l832, .sl 139 l833, I n834, I n835], .sl 3 y1, I y13] with | some r836 => (castL 3 (cellN (compN r836 0) 0) fun l837 => castI .i64 (cellN (compN r836 0) 1) fun n838 => castB (compN r836 1) fun b839 => match b839 with | true => (if (y2.length + ([.agg [.sl 3 l837, I n838]] : LA).length) * 32 ≤ maxBytes then (q3 y1 (y2 ++ ([.agg [.sl 3 l837, I n838]] : LA)) y3 y4 (IntKind.i64.wrap (y5 + 1)) y6 y7 y8 y9 y10 y11 y12 y13 y14 y15) else none) | false => (q3 y1 y2 y3 y4 (IntKind.i64.wrap (y5 + 1)) y6 y7 y8 y9 y10 y11 y12 y13 y14 y15)) | none => none)) | none => none) else none) | false => (match ((y2.length : Int) == (0 : Int)) with | true => (some (.tup [.agg [.sl 3 [], I 0], I 23])) | false => (match ((y2.length : Int) == (1 : Int)) with | true => (match y2[0]? with | some x840 => (castL 3 (cellN x840 0) fun l841 => castI .i64 (cellN x840 1) fun n842 => some (.tup [.agg [.sl 3 l841, I n842], I 0])) | none => none) | false => (some (.tup [.agg [.sl 3 [], I 0], I 35]))))
def tr50 (K : Nat) (q3 : LA → LA → LA → Int → Int → Int → Int → LA → Int → LA → LA → Int → Int → LA → Int → OA) (a0_0 : Int) (a0_1 : Int) (a0_2 : LA) (a0_3 : Int) (a0_4 : LA) (a0_5 : LA) (a1 : LA) (a2_0 : Int) (a2_1 : Int) : OA :=
  q3 a1 ([] : LA) a0_5 (a0_5.length : Int) (0 : Int) a0_0 a0_1 a0_2 a0_3 a0_4 a0_5 a2_0 a2_1 ([] : LA) (0 : Int)
def lp50_3 (K : Nat) : Nat → LA → LA → LA → Int → Int → Int → Int → LA → Int → LA → LA → Int → Int → LA → Int → OA
  | 0, _, _, _, _, _, _, _, _, _, _, _, _, _, _, _ => none
  | k + 1, y1, y2, y3, y4, y5, y6, y7, y8, y9, y10, y11, y12, y13, y14, y15 => tr50_3 K (lp50_3 K k) y1 y2 y3 y4 y5 y6 y7 y8 y9 y10 y11 y12 y13 y14 y15
def sh50 (K : Nat) (a0_0 : Int) (a0_1 : Int) (a0_2 : LA) (a0_3 : Int) (a0_4 : LA) (a0_5 : LA) (a1 : LA) (a2_0 : Int) (a2_1 : Int) : OA := tr50 K (lp50_3 K K) a0_0 a0_1 a0_2 a0_3 a0_4 a0_5 a1 a2_0 a2_1
def fr50_3 (y1 : LA) (y2 : LA) (y3 : LA) (y4 : Int) (y5 : Int) (y6 : Int) (y7 : Int) (y8 : LA) (y9 : Int) (y10 : LA) (y11 : LA) (y12 : Int) (y13 : Int) (y14 : LA) (y15 : Int) : Fr := { slots := gap 1 ((.sl 3 y1, .uni .lent) :: gap 1 ((.undef, .loc 3 0) :: gap 1 ((.undef, .loc 5 0) :: (.undef, .loc 6 0) :: gap 1 ((.sl 91 y2, .uni .own) :: gap 5 ((.sl 103 y3, .uni .lent) :: (I y4, .uni .ro) :: (I y5, .uni .ro) :: gap 34 []))))), boxes := [(3, [(I y6, .ro), (I y7, .ro), (.sl 3 y8, .lent), (I y9, .ro), (.sl 105 y10, .lent), (.sl 103 y11, .lent)]), (5, [(I y12, .ro), (I y13, .ro)]), (6, [(.sl 3 y14, .own), (I y15, .ro)])] }
theorem st50_3 (K : Nat) (k : Nat) (y1 : LA) (y2 : LA) (y3 : LA) (y4 : Int) (y5 : Int) (y6 : Int) (y7 : Int) (y8 : LA) (y9 : Int) (y10 : LA) (y11 : LA) (y12 : Int) (y13 : Int) (y14 : LA) (y15 : Int) : mlp 50 Tryd.f50 K 3 (fun i_ => fun _ => none) (k + 1) (fr50_3 y1 y2 y3 y4 y5 y6 y7 y8 y9 y10 y11 y12 y13 y14 y15) = tr50_3 K (fun y1 y2 y3 y4 y5 y6 y7 y8 y9 y10 y11 y12 y13 y14 y15 => mlp 50 Tryd.f50 K 3 (fun i_ => fun _ => none) k (fr50_3 y1 y2 y3 y4 y5 y6 y7 y8 y9 y10 y11 y12 y13 y14 y15)) y1 y2 y3 y4 y5 y6 y7 y8 y9 y10 y11 y12 y13 y14 y15 := by kernel_rfl
theorem lq50_3 (K : Nat) : ∀ (k : Nat) (y1 : LA) (y2 : LA) (y3 : LA) (y4 : Int) (y5 : Int) (y6 : Int) (y7 : Int) (y8 : LA) (y9 : Int) (y10 : LA) (y11 : LA) (y12 : Int) (y13 : Int) (y14 : LA) (y15 : Int), mlp 50 Tryd.f50 K 3 (fun i_ => fun _ => none) k (fr50_3 y1 y2 y3 y4 y5 y6 y7 y8 y9 y10 y11 y12 y13 y14 y15) = lp50_3 K k y1 y2 y3 y4 y5 y6 y7 y8 y9 y10 y11 y12 y13 y14 y15
  | 0, _, _, _, _, _, _, _, _, _, _, _, _, _, _, _ => rfl
  | k + 1, y1, y2, y3, y4, y5, y6, y7, y8, y9, y10, y11, y12, y13, y14, y15 => by
    rw [st50_3]
    have ih := lq50_3 K k
    try simp only [ih]
    try rfl
theorem eq50 (K : Nat) (a0_0 : Int) (a0_1 : Int) (a0_2 : LA) (a0_3 : Int) (a0_4 : LA) (a0_5 : LA) (a1 : LA) (a2_0 : Int) (a2_1 : Int) : run tab (K + 1) 50 [.agg [I a0_0, I a0_1, .sl 3 a0_2, I a0_3, .sl 105 a0_4, .sl 103 a0_5], .sl 3 a1, .agg [I a2_0, I a2_1]] = sh50 K a0_0 a0_1 a0_2 a0_3 a0_4 a0_5 a1 a2_0 a2_1 := by
  have h : run tab (K + 1) 50 [.agg [I a0_0, I a0_1, .sl 3 a0_2, I a0_3, .sl 105 a0_4, .sl 103 a0_5], .sl 3 a1, .agg [I a2_0, I a2_1]] = tr50 K (fun y1 y2 y3 y4 y5 y6 y7 y8 y9 y10 y11 y12 y13 y14 y15 => mlp 50 Tryd.f50 K 3 (fun i_ => fun _ => none) K (fr50_3 y1 y2 y3 y4 y5 y6 y7 y8 y9 y10 y11 y12 y13 y14 y15)) a0_0 a0_1 a0_2 a0_3 a0_4 a0_5 a1 a2_0 a2_1 := by kernel_rfl
  rw [h]
  simp only [lq50_3]
  rfl

/-! ### slices.IndexFunc[[][]int,[]int]: function 51 -/
def tr51_2 (K : Nat) (q2 : LA → AV → Int → Int → OA) (y1 : LA) (y2 : AV) (y3 : Int) (y4 : Int) : OA :=
  match decide (y4 < y3) with | true => (if 0 ≤ y4 then (match y1[y4.toNat]? with | some x843 => (castL 3 x843 fun l844 => castFn y2 fun g845 c846 => match run tab K g845 ([.sl 3 l844] ++ c846) with | some r847 => (castB r847 fun b848 => match b848 with | true => (some (I y4)) | false => (q2 y1 y2 y3 (IntKind.i64.wrap (y4 + 1)))) | none => none) | none => none) else none) | false => (some (I (-1)))
def tr51 (K : Nat) (q2 : LA → AV → Int → Int → OA) (a0 : LA) (a1 : AV) : OA :=
  q2 a0 a1 (a0.length : Int) (0 : Int)
def lp51_2 (K : Nat) : Nat → LA → AV → Int → Int → OA
  | 0, _, _, _, _ => none
  | k + 1, y1, y2, y3, y4 => tr51_2 K (lp51_2 K k) y1 y2 y3 y4
def sh51 (K : Nat) (a0 : LA) (a1 : AV) : OA := tr51 K (lp51_2 K K) a0 a1
def fr51_2 (y1 : LA) (y2 : AV) (y3 : Int) (y4 : Int) : Fr := { slots := (.sl 22 y1, .uni .lent) :: (y2, .uni .lent) :: gap 5 ((I y3, .uni .ro) :: (I y4, .uni .ro) :: gap 10 []), boxes := [] }
theorem st51_2 (K : Nat) (k : Nat) (y1 : LA) (y2 : AV) (y3 : Int) (y4 : Int) : mlp 51 Tryd.f51 K 2 (fun i_ => fun _ => none) (k + 1) (fr51_2 y1 y2 y3 y4) = tr51_2 K (fun y1 y2 y3 y4 => mlp 51 Tryd.f51 K 2 (fun i_ => fun _ => none) k (fr51_2 y1 y2 y3 y4)) y1 y2 y3 y4 := by kernel_rfl
theorem lq51_2 (K : Nat) : ∀ (k : Nat) (y1 : LA) (y2 : AV) (y3 : Int) (y4 : Int), mlp 51 Tryd.f51 K 2 (fun i_ => fun _ => none) k (fr51_2 y1 y2 y3 y4) = lp51_2 K k y1 y2 y3 y4
  | 0, _, _, _, _ => rfl
  | k + 1, y1, y2, y3, y4 => by
    rw [st51_2]
    have ih := lq51_2 K k
    try simp only [ih]
    try rfl
theorem eq51 (K : Nat) (a0 : LA) (a1 : AV) : run tab (K + 1) 51 [.sl 22 a0, a1] = sh51 K a0 a1 := by
  have h : run tab (K + 1) 51 [.sl 22 a0, a1] = tr51 K (fun y1 y2 y3 y4 => mlp 51 Tryd.f51 K 2 (fun i_ => fun _ => none) K (fr51_2 y1 y2 y3 y4)) a0 a1 := by kernel_rfl
  rw [h]
  simp only [lq51_2]
  rfl

/-! ### examiner/model.Unfolded$1: function 52 -/
def tr52 (K : Nat) (a0 : LA) (c0 : AV) : OA :=
  castRef c0 fun p849 => castRef (.ref p849) fun p850 => castL 3 (p850.getD 0 .undef) fun l851 => match run tab K 53 [.sl 3 a0, .sl 3 l851] with | some r852 => (castB r852 fun b853 => some (B b853)) | none => none
def sh52 (K : Nat) (a0 : LA) (c0 : AV) : OA := tr52 K a0 c0
theorem eq52 (K : Nat) (a0 : LA) (c0 : AV) : run tab (K + 1) 52 [.sl 3 a0, c0] = sh52 K a0 c0 := by kernel_rfl

/-! ### slices.Equal[[]int,int]: function 53 -/
def tr53_4 (K : Nat) (q4 : LA → LA → Int → Int → OA) (y1 : LA) (y2 : LA) (y3 : Int) (y4 : Int) : OA :=
  match decide (y4 < y3) with | true => (if 0 ≤ y4 then (match y1[y4.toNat]? with | some x854 => (castI .i64 x854 fun n855 => if 0 ≤ y4 then (match y2[y4.toNat]? with | some x856 => (castI .i64 x856 fun n857 => match (n855 != n857) with | true => (some (B false)) | false => (q4 y1 y2 y3 (IntKind.i64.wrap (y4 + 1)))) | none => none) else none) | none => none) else none) | false => (some (B true))
def tr53 (K : Nat) (q4 : LA → LA → Int → Int → OA) (a0 : LA) (a1 : LA) : OA :=
  match ((a0.length : Int) != (a1.length : Int)) with | true => (some (B false)) | false => (q4 a0 a1 (a0.length : Int) (0 : Int))
def lp53_4 (K : Nat) : Nat → LA → LA → Int → Int → OA
  | 0, _, _, _, _ => none
  | k + 1, y1, y2, y3, y4 => tr53_4 K (lp53_4 K k) y1 y2 y3 y4
def sh53 (K : Nat) (a0 : LA) (a1 : LA) : OA := tr53 K (lp53_4 K K) a0 a1
def fr53_4 (y1 : LA) (y2 : LA) (y3 : Int) (y4 : Int) : Fr := { slots := (.sl 3 y1, .uni .lent) :: (.sl 3 y2, .uni .lent) :: gap 10 ((I y3, .uni .ro) :: (I y4, .uni .ro) :: gap 12 []), boxes := [] }
theorem st53_4 (K : Nat) (k : Nat) (y1 : LA) (y2 : LA) (y3 : Int) (y4 : Int) : mlp 53 Tryd.f53 K 4 (fun i_ => fun _ => none) (k + 1) (fr53_4 y1 y2 y3 y4) = tr53_4 K (fun y1 y2 y3 y4 => mlp 53 Tryd.f53 K 4 (fun i_ => fun _ => none) k (fr53_4 y1 y2 y3 y4)) y1 y2 y3 y4 := by kernel_rfl
theorem lq53_4 (K : Nat) : ∀ (k : Nat) (y1 : LA) (y2 : LA) (y3 : Int) (y4 : Int), mlp 53 Tryd.f53 K 4 (fun i_ => fun _ => none) k (fr53_4 y1 y2 y3 y4) = lp53_4 K k y1 y2 y3 y4
  | 0, _, _, _, _ => rfl
  | k + 1, y1, y2, y3, y4 => by
    rw [st53_4]
    have ih := lq53_4 K k
    try simp only [ih]
    try rfl
theorem eq53 (K : Nat) (a0 : LA) (a1 : LA) : run tab (K + 1) 53 [.sl 3 a0, .sl 3 a1] = sh53 K a0 a1 := by
  have h : run tab (K + 1) 53 [.sl 3 a0, .sl 3 a1] = tr53 K (fun y1 y2 y3 y4 => mlp 53 Tryd.f53 K 4 (fun i_ => fun _ => none) K (fr53_4 y1 y2 y3 y4)) a0 a1 := by kernel_rfl
  rw [h]
  simp only [lq53_4]
  rfl

/-! ### examiner/examinerref37.moveErr: function 54 -/
def tr54_22 (K : Nat) (q17 : Int → Int → Int → LA → Int → LA → LA → Int → Int → Int → LA → LA → Int → Int → OA) (q22 : Int → Int → Int → Int → LA → Int → LA → LA → Int → Int → Int → LA → LA → Int → Int → OA) (y1 : Int) (y2 : Int) (y3 : Int) (y4 : Int) (y5 : LA) (y6 : Int) (y7 : LA) (y8 : LA) (y9 : Int) (y10 : Int) (y11 : Int) (y12 : LA) (y13 : LA) (y14 : Int) (y15 : Int) : OA :=
  match decide (y2 < y1) with | true => (if 0 ≤ y2 then (match y13[y2.toNat]? with | some x882 => (castI .i64 (cellN x882 0) fun n883 => if 0 ≤ y1 then (match y13[y1.toNat]? with | some x884 => (castI .i64 (cellN x884 0) fun n885 => match (n883 == n885) with | true => (some (I 13)) | false => (q22 y1 (IntKind.i64.wrap (y2 + 1)) y3 y4 y5 y6 y7 y8 y9 y10 y11 y12 y13 y14 y15)) | none => none) else none) | none => none) else none) | false => (if 0 ≤ y1 then (match y13[y1.toNat]? with | some x886 => (castI .i64 (cellN x886 1) fun n887 => castI .i64 (cellN x886 2) fun n888 => match run tab K 83 [.agg [I y3, I y4, .sl 3 y5, I y6, .sl 105 y7, .sl 103 y8], .agg [I n887, I n888]] with | some r889 => (castI .i64 r889 fun n890 => match (n890 != (0 : Int)) with | true => (some (I n890)) | false => (if 0 ≤ y1 then (match y13[y1.toNat]? with | some x891 => (castI .i64 (cellN x891 3) fun n892 => castI .i64 (cellN x891 4) fun n893 => match run tab K 83 [.agg [I y3, I y4, .sl 3 y5, I y6, .sl 105 y7, .sl 103 y8], .agg [I n892, I n893]] with | some r894 => (castI .i64 r894 fun n895 => match (n895 != (0 : Int)) with | true => (some (I n895)) | false => (q17 (IntKind.i64.wrap (y1 + 1)) y3 y4 y5 y6 y7 y8 y9 y10 y11 y12 y13 y14 y15)) | none => none) | none => none) else none)) | none => none) | none => none) else none)
def tr54_17 (K : Nat) (q22 : Int → Int → Int → Int → LA → Int → LA → LA → Int → Int → Int → LA → LA → Int → Int → OA) (y1 : Int) (y2 : Int) (y3 : Int) (y4 : LA) (y5 : Int) (y6 : LA) (y7 : LA) (y8 : Int) (y9 : Int) (y10 : Int) (y11 : LA) (y12 : LA) (y13 : Int) (y14 : Int) : OA :=
  match decide (y1 < (y12.length : Int)) with | true => (if 0 ≤ y1 then (match y12[y1.toNat]? with | some x878 => (castI .i64 (cellN x878 0) fun n879 => match run tab K 29 [I n879, I 0, I (IntKind.i64.wrap ((y6.length : Int) - 1))] with | some r880 => (castB r880 fun b881 => match (!b881) with | true => (some (I 3)) | false => (q22 y1 (0 : Int) y2 y3 y4 y5 y6 y7 y8 y9 y10 y11 y12 y13 y14)) | none => none) | none => none) else none) | false => (match run tab K 83 [.agg [I y2, I y3, .sl 3 y4, I y5, .sl 105 y6, .sl 103 y7], .agg [I y13, I y14]] with | some r896 => (castI .i64 r896 fun n897 => some (I n897)) | none => none)
def tr54_6 (K : Nat) (q6 : Int → Int → Int → LA → Int → LA → LA → Int → Int → Int → LA → LA → Int → Int → OA) (q17 : Int → Int → Int → LA → Int → LA → LA → Int → Int → Int → LA → LA → Int → Int → OA) (y1 : Int) (y2 : Int) (y3 : Int) (y4 : LA) (y5 : Int) (y6 : LA) (y7 : LA) (y8 : Int) (y9 : Int) (y10 : Int) (y11 : LA) (y12 : LA) (y13 : Int) (y14 : Int) : OA :=
  match decide (y1 < (y11.length : Int)) with | true => (if 0 ≤ y1 then (match y11[y1.toNat]? with | some x864 => (castI .i64 (cellN x864 0) fun n865 => match run tab K 29 [I n865, I 0, I 3] with | some r866 => (castB r866 fun b867 => match (!b867) with | true => (some (I 4)) | false => (if 0 ≤ y1 then (match y11[y1.toNat]? with | some x868 => (castI .i64 (cellN x868 1) fun n869 => castI .i64 (cellN x868 2) fun n870 => match run tab K 83 [.agg [I y2, I y3, .sl 3 y4, I y5, .sl 105 y6, .sl 103 y7], .agg [I n869, I n870]] with | some r871 => (castI .i64 r871 fun n872 => match (n872 != (0 : Int)) with | true => (some (I n872)) | false => (if 0 ≤ y1 then (match y11[y1.toNat]? with | some x873 => (castI .i64 (cellN x873 3) fun n874 => castI .i64 (cellN x873 4) fun n875 => match run tab K 83 [.agg [I y2, I y3, .sl 3 y4, I y5, .sl 105 y6, .sl 103 y7], .agg [I n874, I n875]] with | some r876 => (castI .i64 r876 fun n877 => match (n877 != (0 : Int)) with | true => (some (I n877)) | false => (q6 (IntKind.i64.wrap (y1 + 1)) y2 y3 y4 y5 y6 y7 y8 y9 y10 y11 y12 y13 y14)) | none => none) | none => none) else none)) | none => none) | none => none) else none)) | none => none) | none => none) else none) | false => (q17 (0 : Int) y2 y3 y4 y5 y6 y7 y8 y9 y10 y11 y12 y13 y14)
def tr54 (K : Nat) (q6 : Int → Int → Int → LA → Int → LA → LA → Int → Int → Int → LA → LA → Int → Int → OA) (a0_0 : Int) (a0_1 : Int) (a0_2 : LA) (a0_3 : Int) (a0_4 : LA) (a0_5 : LA) (a1_0 : Int) (a1_1 : Int) (a1_2 : Int) (a1_3 : LA) (a1_4 : LA) (a1_5 : Int) (a1_6 : Int) : OA :=
  match run tab K 29 [I a1_0, I 0, I (IntKind.i64.wrap (a0_0 - 1))] with | some r858 => (castB r858 fun b859 => match (!b859) with | true => (some (I 3)) | false => (match run tab K 29 [I a1_1, I 0, I (IntKind.i64.wrap (a0_0 - 1))] with | some r860 => (castB r860 fun b861 => match (!b861) with | true => (some (I 3)) | false => (match run tab K 29 [I a1_2, I 0, I (IntKind.i64.wrap ((a0_2.length : Int) - 1))] with | some r862 => (castB r862 fun b863 => match (!b863) with | true => (some (I 3)) | false => (match decide ((a1_3.length : Int) > (4 : Int)) with | true => (some (I 2)) | false => (match decide ((a1_4.length : Int) > (4 : Int)) with | true => (some (I 2)) | false => (q6 (0 : Int) a0_0 a0_1 a0_2 a0_3 a0_4 a0_5 a1_0 a1_1 a1_2 a1_3 a1_4 a1_5 a1_6)))) | none => none)) | none => none)) | none => none
def lp54_22 (K : Nat) (q6 : Int → Int → Int → LA → Int → LA → LA → Int → Int → Int → LA → LA → Int → Int → OA) (q17 : Int → Int → Int → LA → Int → LA → LA → Int → Int → Int → LA → LA → Int → Int → OA) : Nat → Int → Int → Int → Int → LA → Int → LA → LA → Int → Int → Int → LA → LA → Int → Int → OA
  | 0, _, _, _, _, _, _, _, _, _, _, _, _, _, _, _ => none
  | k + 1, y1, y2, y3, y4, y5, y6, y7, y8, y9, y10, y11, y12, y13, y14, y15 => tr54_22 K q17 (lp54_22 K q6 q17 k) y1 y2 y3 y4 y5 y6 y7 y8 y9 y10 y11 y12 y13 y14 y15
def lp54_17 (K : Nat) (q6 : Int → Int → Int → LA → Int → LA → LA → Int → Int → Int → LA → LA → Int → Int → OA) : Nat → Int → Int → Int → LA → Int → LA → LA → Int → Int → Int → LA → LA → Int → Int → OA
  | 0, _, _, _, _, _, _, _, _, _, _, _, _, _, _ => none
  | k + 1, y1, y2, y3, y4, y5, y6, y7, y8, y9, y10, y11, y12, y13, y14 => tr54_17 K (lp54_22 K q6 (lp54_17 K q6 k) K) y1 y2 y3 y4 y5 y6 y7 y8 y9 y10 y11 y12 y13 y14
def lp54_6 (K : Nat) : Nat → Int → Int → Int → LA → Int → LA → LA → Int → Int → Int → LA → LA → Int → Int → OA
  | 0, _, _, _, _, _, _, _, _, _, _, _, _, _, _ => none
  | k + 1, y1, y2, y3, y4, y5, y6, y7, y8, y9, y10, y11, y12, y13, y14 => tr54_6 K (lp54_6 K k) (lp54_17 K (lp54_6 K k) K) y1 y2 y3 y4 y5 y6 y7 y8 y9 y10 y11 y12 y13 y14
def sh54 (K : Nat) (a0_0 : Int) (a0_1 : Int) (a0_2 : LA) (a0_3 : Int) (a0_4 : LA) (a0_5 : LA) (a1_0 : Int) (a1_1 : Int) (a1_2 : Int) (a1_3 : LA) (a1_4 : LA) (a1_5 : Int) (a1_6 : Int) : OA := tr54 K (lp54_6 K K) a0_0 a0_1 a0_2 a0_3 a0_4 a0_5 a1_0 a1_1 a1_2 a1_3 a1_4 a1_5 a1_6
def fr54_22 (y1 : Int) (y2 : Int) (y3 : Int) (y4 : Int) (y5 : LA) (y6 : Int) (y7 : LA) (y8 : LA) (y9 : Int) (y10 : Int) (y11 : Int) (y12 : LA) (y13 : LA) (y14 : Int) (y15 : Int) : Fr := { slots := gap 2 ((.undef, .loc 2 0) :: (.undef, .loc 3 0) :: gap 4 ((I y1, .uni .ro) :: (I y2, .uni .ro) :: gap 138 [])), boxes := [(2, [(I y3, .ro), (I y4, .ro), (.sl 3 y5, .lent), (I y6, .ro), (.sl 105 y7, .lent), (.sl 103 y8, .lent)]), (3, [(I y9, .ro), (I y10, .ro), (I y11, .ro), (.sl 141 y12, .lent), (.sl 139 y13, .lent), (I y14, .ro), (I y15, .ro)])] }
def fr54_17 (y1 : Int) (y2 : Int) (y3 : Int) (y4 : LA) (y5 : Int) (y6 : LA) (y7 : LA) (y8 : Int) (y9 : Int) (y10 : Int) (y11 : LA) (y12 : LA) (y13 : Int) (y14 : Int) : Fr := { slots := gap 2 ((.undef, .loc 2 0) :: (.undef, .loc 3 0) :: gap 4 ((I y1, .uni .ro) :: gap 139 [])), boxes := [(2, [(I y2, .ro), (I y3, .ro), (.sl 3 y4, .lent), (I y5, .ro), (.sl 105 y6, .lent), (.sl 103 y7, .lent)]), (3, [(I y8, .ro), (I y9, .ro), (I y10, .ro), (.sl 141 y11, .lent), (.sl 139 y12, .lent), (I y13, .ro), (I y14, .ro)])] }
def fr54_6 (y1 : Int) (y2 : Int) (y3 : Int) (y4 : LA) (y5 : Int) (y6 : LA) (y7 : LA) (y8 : Int) (y9 : Int) (y10 : Int) (y11 : LA) (y12 : LA) (y13 : Int) (y14 : Int) : Fr := { slots := gap 2 ((.undef, .loc 2 0) :: (.undef, .loc 3 0) :: gap 1 ((I y1, .uni .ro) :: gap 142 [])), boxes := [(2, [(I y2, .ro), (I y3, .ro), (.sl 3 y4, .lent), (I y5, .ro), (.sl 105 y6, .lent), (.sl 103 y7, .lent)]), (3, [(I y8, .ro), (I y9, .ro), (I y10, .ro), (.sl 141 y11, .lent), (.sl 139 y12, .lent), (I y13, .ro), (I y14, .ro)])] }
theorem st54_22 (K : Nat) (RO6 : Fr → OA) (RO17 : Fr → OA) (k : Nat) (y1 : Int) (y2 : Int) (y3 : Int) (y4 : Int) (y5 : LA) (y6 : Int) (y7 : LA) (y8 : LA) (y9 : Int) (y10 : Int) (y11 : Int) (y12 : LA) (y13 : LA) (y14 : Int) (y15 : Int) : mlp 54 Tryd.f54 K 22 (fun i_ => if i_ = 6 then RO6 else if i_ = 17 then RO17 else fun _ => none) (k + 1) (fr54_22 y1 y2 y3 y4 y5 y6 y7 y8 y9 y10 y11 y12 y13 y14 y15) = tr54_22 K (fun y1 y2 y3 y4 y5 y6 y7 y8 y9 y10 y11 y12 y13 y14 => RO17 (fr54_17 y1 y2 y3 y4 y5 y6 y7 y8 y9 y10 y11 y12 y13 y14)) (fun y1 y2 y3 y4 y5 y6 y7 y8 y9 y10 y11 y12 y13 y14 y15 => mlp 54 Tryd.f54 K 22 (fun i_ => if i_ = 6 then RO6 else if i_ = 17 then RO17 else fun _ => none) k (fr54_22 y1 y2 y3 y4 y5 y6 y7 y8 y9 y10 y11 y12 y13 y14 y15)) y1 y2 y3 y4 y5 y6 y7 y8 y9 y10 y11 y12 y13 y14 y15 := by kernel_rfl
theorem lq54_22 (K : Nat) (RO6 : Fr → OA) (RO17 : Fr → OA) : ∀ (k : Nat) (y1 : Int) (y2 : Int) (y3 : Int) (y4 : Int) (y5 : LA) (y6 : Int) (y7 : LA) (y8 : LA) (y9 : Int) (y10 : Int) (y11 : Int) (y12 : LA) (y13 : LA) (y14 : Int) (y15 : Int), mlp 54 Tryd.f54 K 22 (fun i_ => if i_ = 6 then RO6 else if i_ = 17 then RO17 else fun _ => none) k (fr54_22 y1 y2 y3 y4 y5 y6 y7 y8 y9 y10 y11 y12 y13 y14 y15) = lp54_22 K (fun y1 y2 y3 y4 y5 y6 y7 y8 y9 y10 y11 y12 y13 y14 => RO6 (fr54_6 y1 y2 y3 y4 y5 y6 y7 y8 y9 y10 y11 y12 y13 y14)) (fun y1 y2 y3 y4 y5 y6 y7 y8 y9 y10 y11 y12 y13 y14 => RO17 (fr54_17 y1 y2 y3 y4 y5 y6 y7 y8 y9 y10 y11 y12 y13 y14)) k y1 y2 y3 y4 y5 y6 y7 y8 y9 y10 y11 y12 y13 y14 y15
  | 0, _, _, _, _, _, _, _, _, _, _, _, _, _, _, _ => rfl
  | k + 1, y1, y2, y3, y4, y5, y6, y7, y8, y9, y10, y11, y12, y13, y14, y15 => by
    rw [st54_22]
    have ih := lq54_22 K RO6 RO17 k
    try simp only [ih]
    try rfl
theorem st54_17 (K : Nat) (RO6 : Fr → OA) (k : Nat) (y1 : Int) (y2 : Int) (y3 : Int) (y4 : LA) (y5 : Int) (y6 : LA) (y7 : LA) (y8 : Int) (y9 : Int) (y10 : Int) (y11 : LA) (y12 : LA) (y13 : Int) (y14 : Int) : mlp 54 Tryd.f54 K 17 (fun i_ => if i_ = 6 then RO6 else fun _ => none) (k + 1) (fr54_17 y1 y2 y3 y4 y5 y6 y7 y8 y9 y10 y11 y12 y13 y14) = tr54_17 K (fun y1 y2 y3 y4 y5 y6 y7 y8 y9 y10 y11 y12 y13 y14 y15 => mlp 54 Tryd.f54 K 22 (fun i_ => if i_ = 6 then RO6 else if i_ = 17 then (fun fr_ => mlp 54 Tryd.f54 K 17 (fun i_ => if i_ = 6 then RO6 else fun _ => none) k fr_) else fun _ => none) K (fr54_22 y1 y2 y3 y4 y5 y6 y7 y8 y9 y10 y11 y12 y13 y14 y15)) y1 y2 y3 y4 y5 y6 y7 y8 y9 y10 y11 y12 y13 y14 := by kernel_rfl
theorem lq54_17 (K : Nat) (RO6 : Fr → OA) : ∀ (k : Nat) (y1 : Int) (y2 : Int) (y3 : Int) (y4 : LA) (y5 : Int) (y6 : LA) (y7 : LA) (y8 : Int) (y9 : Int) (y10 : Int) (y11 : LA) (y12 : LA) (y13 : Int) (y14 : Int), mlp 54 Tryd.f54 K 17 (fun i_ => if i_ = 6 then RO6 else fun _ => none) k (fr54_17 y1 y2 y3 y4 y5 y6 y7 y8 y9 y10 y11 y12 y13 y14) = lp54_17 K (fun y1 y2 y3 y4 y5 y6 y7 y8 y9 y10 y11 y12 y13 y14 => RO6 (fr54_6 y1 y2 y3 y4 y5 y6 y7 y8 y9 y10 y11 y12 y13 y14)) k y1 y2 y3 y4 y5 y6 y7 y8 y9 y10 y11 y12 y13 y14
  | 0, _, _, _, _, _, _, _, _, _, _, _, _, _, _ => rfl
  | k + 1, y1, y2, y3, y4, y5, y6, y7, y8, y9, y10, y11, y12, y13, y14 => by
    rw [st54_17]
    have ih := lq54_17 K RO6 k
    have ih22 := lq54_22 K RO6 (fun fr_ => mlp 54 Tryd.f54 K 17 (fun i_ => if i_ = 6 then RO6 else fun _ => none) k fr_) K
    try simp only [ih, ih22]
    try rfl
theorem st54_6 (K : Nat) (k : Nat) (y1 : Int) (y2 : Int) (y3 : Int) (y4 : LA) (y5 : Int) (y6 : LA) (y7 : LA) (y8 : Int) (y9 : Int) (y10 : Int) (y11 : LA) (y12 : LA) (y13 : Int) (y14 : Int) : mlp 54 Tryd.f54 K 6 (fun i_ => fun _ => none) (k + 1) (fr54_6 y1 y2 y3 y4 y5 y6 y7 y8 y9 y10 y11 y12 y13 y14) = tr54_6 K (fun y1 y2 y3 y4 y5 y6 y7 y8 y9 y10 y11 y12 y13 y14 => mlp 54 Tryd.f54 K 6 (fun i_ => fun _ => none) k (fr54_6 y1 y2 y3 y4 y5 y6 y7 y8 y9 y10 y11 y12 y13 y14)) (fun y1 y2 y3 y4 y5 y6 y7 y8 y9 y10 y11 y12 y13 y14 => mlp 54 Tryd.f54 K 17 (fun i_ => if i_ = 6 then (fun fr_ => mlp 54 Tryd.f54 K 6 (fun i_ => fun _ => none) k fr_) else fun _ => none) K (fr54_17 y1 y2 y3 y4 y5 y6 y7 y8 y9 y10 y11 y12 y13 y14)) y1 y2 y3 y4 y5 y6 y7 y8 y9 y10 y11 y12 y13 y14 := by kernel_rfl
theorem lq54_6 (K : Nat) : ∀ (k : Nat) (y1 : Int) (y2 : Int) (y3 : Int) (y4 : LA) (y5 : Int) (y6 : LA) (y7 : LA) (y8 : Int) (y9 : Int) (y10 : Int) (y11 : LA) (y12 : LA) (y13 : Int) (y14 : Int), mlp 54 Tryd.f54 K 6 (fun i_ => fun _ => none) k (fr54_6 y1 y2 y3 y4 y5 y6 y7 y8 y9 y10 y11 y12 y13 y14) = lp54_6 K k y1 y2 y3 y4 y5 y6 y7 y8 y9 y10 y11 y12 y13 y14
  | 0, _, _, _, _, _, _, _, _, _, _, _, _, _, _ => rfl
  | k + 1, y1, y2, y3, y4, y5, y6, y7, y8, y9, y10, y11, y12, y13, y14 => by
    rw [st54_6]
    have ih := lq54_6 K k
    have ih17 := lq54_17 K (fun fr_ => mlp 54 Tryd.f54 K 6 (fun i_ => fun _ => none) k fr_) K
    try simp only [ih, ih17]
    try rfl
theorem eq54 (K : Nat) (a0_0 : Int) (a0_1 : Int) (a0_2 : LA) (a0_3 : Int) (a0_4 : LA) (a0_5 : LA) (a1_0 : Int) (a1_1 : Int) (a1_2 : Int) (a1_3 : LA) (a1_4 : LA) (a1_5 : Int) (a1_6 : Int) : run tab (K + 1) 54 [.agg [I a0_0, I a0_1, .sl 3 a0_2, I a0_3, .sl 105 a0_4, .sl 103 a0_5], .agg [I a1_0, I a1_1, I a1_2, .sl 141 a1_3, .sl 139 a1_4, I a1_5, I a1_6]] = sh54 K a0_0 a0_1 a0_2 a0_3 a0_4 a0_5 a1_0 a1_1 a1_2 a1_3 a1_4 a1_5 a1_6 := by
  have h : run tab (K + 1) 54 [.agg [I a0_0, I a0_1, .sl 3 a0_2, I a0_3, .sl 105 a0_4, .sl 103 a0_5], .agg [I a1_0, I a1_1, I a1_2, .sl 141 a1_3, .sl 139 a1_4, I a1_5, I a1_6]] = tr54 K (fun y1 y2 y3 y4 y5 y6 y7 y8 y9 y10 y11 y12 y13 y14 => mlp 54 Tryd.f54 K 6 (fun i_ => fun _ => none) K (fr54_6 y1 y2 y3 y4 y5 y6 y7 y8 y9 y10 y11 y12 y13 y14)) a0_0 a0_1 a0_2 a0_3 a0_4 a0_5 a1_0 a1_1 a1_2 a1_3 a1_4 a1_5 a1_6 := by kernel_rfl
  rw [h]
  simp only [lq54_6]
  rfl

/-! ### examiner/examinerref37.First: function 55 -/
def tr55_3 (K : Nat) (q3 : LA → Int → Int → Int → LA → Int → LA → LA → OA) (y1 : LA) (y2 : Int) (y3 : Int) (y4 : Int) (y5 : LA) (y6 : Int) (y7 : LA) (y8 : LA) : OA :=
  match decide (y2 < (y7.length : Int)) with | true => (if 0 ≤ y2 then (match y7[y2.toNat]? with | some x898 => (castI .i64 (cellN x898 2) fun n899 => if (y1.length + ([I n899] : LA).length) * 8 ≤ maxBytes then (q3 (y1 ++ ([I n899] : LA)) (IntKind.i64.wrap (y2 + 1)) y3 y4 y5 y6 y7 y8) else none) | none => none) else none) | false => (some (.sl 3 y1))
def tr55 (K : Nat) (q3 : LA → Int → Int → Int → LA → Int → LA → LA → OA) (a0_0 : Int) (a0_1 : Int) (a0_2 : LA) (a0_3 : Int) (a0_4 : LA) (a0_5 : LA) : OA :=
  q3 ([I a0_1] : LA) (0 : Int) a0_0 a0_1 a0_2 a0_3 a0_4 a0_5
def lp55_3 (K : Nat) : Nat → LA → Int → Int → Int → LA → Int → LA → LA → OA
  | 0, _, _, _, _, _, _, _, _ => none
  | k + 1, y1, y2, y3, y4, y5, y6, y7, y8 => tr55_3 K (lp55_3 K k) y1 y2 y3 y4 y5 y6 y7 y8
def sh55 (K : Nat) (a0_0 : Int) (a0_1 : Int) (a0_2 : LA) (a0_3 : Int) (a0_4 : LA) (a0_5 : LA) : OA := tr55 K (lp55_3 K K) a0_0 a0_1 a0_2 a0_3 a0_4 a0_5
def fr55_3 (y1 : LA) (y2 : Int) (y3 : Int) (y4 : Int) (y5 : LA) (y6 : Int) (y7 : LA) (y8 : LA) : Fr := { slots := gap 1 ((.undef, .loc 1 0) :: gap 1 ((.sl 3 y1, .uni .own) :: (I y2, .uni .ro) :: gap 20 [])), boxes := [(1, [(I y3, .ro), (I y4, .ro), (.sl 3 y5, .lent), (I y6, .ro), (.sl 105 y7, .lent), (.sl 103 y8, .lent)])] }
theorem st55_3 (K : Nat) (k : Nat) (y1 : LA) (y2 : Int) (y3 : Int) (y4 : Int) (y5 : LA) (y6 : Int) (y7 : LA) (y8 : LA) : mlp 55 Tryd.f55 K 3 (fun i_ => fun _ => none) (k + 1) (fr55_3 y1 y2 y3 y4 y5 y6 y7 y8) = tr55_3 K (fun y1 y2 y3 y4 y5 y6 y7 y8 => mlp 55 Tryd.f55 K 3 (fun i_ => fun _ => none) k (fr55_3 y1 y2 y3 y4 y5 y6 y7 y8)) y1 y2 y3 y4 y5 y6 y7 y8 := by kernel_rfl
theorem lq55_3 (K : Nat) : ∀ (k : Nat) (y1 : LA) (y2 : Int) (y3 : Int) (y4 : Int) (y5 : LA) (y6 : Int) (y7 : LA) (y8 : LA), mlp 55 Tryd.f55 K 3 (fun i_ => fun _ => none) k (fr55_3 y1 y2 y3 y4 y5 y6 y7 y8) = lp55_3 K k y1 y2 y3 y4 y5 y6 y7 y8
  | 0, _, _, _, _, _, _, _, _ => rfl
  | k + 1, y1, y2, y3, y4, y5, y6, y7, y8 => by
    rw [st55_3]
    have ih := lq55_3 K k
    try simp only [ih]
    try rfl
theorem eq55 (K : Nat) (a0_0 : Int) (a0_1 : Int) (a0_2 : LA) (a0_3 : Int) (a0_4 : LA) (a0_5 : LA) : run tab (K + 1) 55 [.agg [I a0_0, I a0_1, .sl 3 a0_2, I a0_3, .sl 105 a0_4, .sl 103 a0_5]] = sh55 K a0_0 a0_1 a0_2 a0_3 a0_4 a0_5 := by
  have h : run tab (K + 1) 55 [.agg [I a0_0, I a0_1, .sl 3 a0_2, I a0_3, .sl 105 a0_4, .sl 103 a0_5]] = tr55 K (fun y1 y2 y3 y4 y5 y6 y7 y8 => mlp 55 Tryd.f55 K 3 (fun i_ => fun _ => none) K (fr55_3 y1 y2 y3 y4 y5 y6 y7 y8)) a0_0 a0_1 a0_2 a0_3 a0_4 a0_5 := by kernel_rfl
  rw [h]
  simp only [lq55_3]
  rfl

/-! ### examiner/examinerref37.place: function 56 -/
def tr56_2 (K : Nat) (q2 : LA → LA → Int → OA) (y1 : LA) (y2 : LA) (y3 : Int) : OA :=
  match decide (y3 < (y1.length : Int)) with | true => (if 0 ≤ y3 then (match y1[y3.toNat]? with | some x900 => (castL 3 x900 fun l901 => match run tab K 31 [.sl 3 l901, .sl 3 y2] with | some r902 => (castB r902 fun b903 => match b903 with | true => (some (I y3)) | false => (q2 y1 y2 (IntKind.i64.wrap (y3 + 1)))) | none => none) | none => none) else none) | false => (some (I (-1)))
def tr56 (K : Nat) (q2 : LA → LA → Int → OA) (a0 : LA) (a1 : LA) : OA :=
  q2 a0 a1 (0 : Int)
def lp56_2 (K : Nat) : Nat → LA → LA → Int → OA
  | 0, _, _, _ => none
  | k + 1, y1, y2, y3 => tr56_2 K (lp56_2 K k) y1 y2 y3
def sh56 (K : Nat) (a0 : LA) (a1 : LA) : OA := tr56 K (lp56_2 K K) a0 a1
def fr56_2 (y1 : LA) (y2 : LA) (y3 : Int) : Fr := { slots := (.sl 22 y1, .uni .lent) :: (.sl 3 y2, .uni .lent) :: gap 3 ((I y3, .uni .ro) :: gap 13 []), boxes := [] }
theorem st56_2 (K : Nat) (k : Nat) (y1 : LA) (y2 : LA) (y3 : Int) : mlp 56 Tryd.f56 K 2 (fun i_ => fun _ => none) (k + 1) (fr56_2 y1 y2 y3) = tr56_2 K (fun y1 y2 y3 => mlp 56 Tryd.f56 K 2 (fun i_ => fun _ => none) k (fr56_2 y1 y2 y3)) y1 y2 y3 := by kernel_rfl
theorem lq56_2 (K : Nat) : ∀ (k : Nat) (y1 : LA) (y2 : LA) (y3 : Int), mlp 56 Tryd.f56 K 2 (fun i_ => fun _ => none) k (fr56_2 y1 y2 y3) = lp56_2 K k y1 y2 y3
  | 0, _, _, _ => rfl
  | k + 1, y1, y2, y3 => by
    rw [st56_2]
    have ih := lq56_2 K k
    try simp only [ih]
    try rfl
theorem eq56 (K : Nat) (a0 : LA) (a1 : LA) : run tab (K + 1) 56 [.sl 22 a0, .sl 3 a1] = sh56 K a0 a1 := by
  have h : run tab (K + 1) 56 [.sl 22 a0, .sl 3 a1] = tr56 K (fun y1 y2 y3 => mlp 56 Tryd.f56 K 2 (fun i_ => fun _ => none) K (fr56_2 y1 y2 y3)) a0 a1 := by kernel_rfl
  rw [h]
  simp only [lq56_2]
  rfl

/-! ### examiner/examinerbase.CompareInts: function 60 -/
def tr60_2 (K : Nat) (q2 : LA → LA → Int → OA) (y1 : LA) (y2 : LA) (y3 : Int) : OA :=
  match decide (y3 < (y1.length : Int)) with | true => (match decide (y3 < (y2.length : Int)) with | true => (if 0 ≤ y3 then (match y1[y3.toNat]? with | some x904 => (castI .i64 x904 fun n905 => if 0 ≤ y3 then (match y2[y3.toNat]? with | some x906 => (castI .i64 x906 fun n907 => match (n905 != n907) with | true => (if 0 ≤ y3 then (match y1[y3.toNat]? with | some x908 => (castI .i64 x908 fun n909 => if 0 ≤ y3 then (match y2[y3.toNat]? with | some x910 => (castI .i64 x910 fun n911 => match run tab K 81 [B (decide (n909 > n911))] with | some r912 => (castI .i64 r912 fun n913 => some (I (IntKind.i64.wrap ((IntKind.i64.wrap (2 * n913)) - 1)))) | none => none) | none => none) else none) | none => none) else none) | false => (q2 y1 y2 (IntKind.i64.wrap (y3 + 1)))) | none => none) else none) | none => none) else none) | false => (match run tab K 81 [B (decide ((y1.length : Int) > (y2.length : Int)))] with | some r914 => (castI .i64 r914 fun n915 => match run tab K 81 [B (decide ((y1.length : Int) < (y2.length : Int)))] with | some r916 => (castI .i64 r916 fun n917 => some (I (IntKind.i64.wrap (n915 - n917)))) | none => none) | none => none)) | false => (match run tab K 81 [B (decide ((y1.length : Int) > (y2.length : Int)))] with | some r918 => (castI .i64 r918 fun n919 => match run tab K 81 [B (decide ((y1.length : Int) < (y2.length : Int)))] with | some r920 => (castI .i64 r920 fun n921 => some (I (IntKind.i64.wrap (n919 - n921)))) | none => none) | none => none)
def tr60 (K : Nat) (q2 : LA → LA → Int → OA) (a0 : LA) (a1 : LA) : OA :=
  q2 a0 a1 (0 : Int)
def lp60_2 (K : Nat) : Nat → LA → LA → Int → OA
  | 0, _, _, _ => none
  | k + 1, y1, y2, y3 => tr60_2 K (lp60_2 K k) y1 y2 y3
def sh60 (K : Nat) (a0 : LA) (a1 : LA) : OA := tr60 K (lp60_2 K K) a0 a1
def fr60_2 (y1 : LA) (y2 : LA) (y3 : Int) : Fr := { slots := (.sl 3 y1, .uni .lent) :: (.sl 3 y2, .uni .lent) :: gap 3 ((I y3, .uni .ro) :: gap 46 []), boxes := [] }
theorem st60_2 (K : Nat) (k : Nat) (y1 : LA) (y2 : LA) (y3 : Int) : mlp 60 Tryd.f60 K 2 (fun i_ => fun _ => none) (k + 1) (fr60_2 y1 y2 y3) = tr60_2 K (fun y1 y2 y3 => mlp 60 Tryd.f60 K 2 (fun i_ => fun _ => none) k (fr60_2 y1 y2 y3)) y1 y2 y3 := by kernel_rfl
theorem lq60_2 (K : Nat) : ∀ (k : Nat) (y1 : LA) (y2 : LA) (y3 : Int), mlp 60 Tryd.f60 K 2 (fun i_ => fun _ => none) k (fr60_2 y1 y2 y3) = lp60_2 K k y1 y2 y3
  | 0, _, _, _ => rfl
  | k + 1, y1, y2, y3 => by
    rw [st60_2]
    have ih := lq60_2 K k
    try simp only [ih]
    try rfl
theorem eq60 (K : Nat) (a0 : LA) (a1 : LA) : run tab (K + 1) 60 [.sl 3 a0, .sl 3 a1] = sh60 K a0 a1 := by
  have h : run tab (K + 1) 60 [.sl 3 a0, .sl 3 a1] = tr60 K (fun y1 y2 y3 => mlp 60 Tryd.f60 K 2 (fun i_ => fun _ => none) K (fr60_2 y1 y2 y3)) a0 a1 := by kernel_rfl
  rw [h]
  simp only [lq60_2]
  rfl

/-! ### examiner/model.CheckModel$1: function 63 -/
def tr63 (K : Nat) (a0 : Int) : OA :=
  match run tab K 57 [I a0, I 0, I 100] with | some r922 => (castB r922 fun b923 => some (B b923)) | none => none
def sh63 (K : Nat) (a0 : Int) : OA := tr63 K a0
theorem eq63 (K : Nat) (a0 : Int) : run tab (K + 1) 63 [I a0] = sh63 K a0 := by kernel_rfl

/-! ### examiner/model.moveErr: function 64 -/
def tr64_12 (K : Nat) (q12 : LA → Int → Int → Int → Int → LA → Int → LA → LA → Int → Int → Int → LA → LA → Int → Int → OA) (y1 : LA) (y2 : Int) (y3 : Int) (y4 : Int) (y5 : Int) (y6 : LA) (y7 : Int) (y8 : LA) (y9 : LA) (y10 : Int) (y11 : Int) (y12 : Int) (y13 : LA) (y14 : LA) (y15 : Int) (y16 : Int) : OA :=
  match decide (y3 < y2) with | true => (if 0 ≤ y3 then (match y1[y3.toNat]? with | some x952 => (castI .i64 (cellN x952 0) fun n953 => castI .i64 (cellN x952 1) fun n954 => castI .i64 (cellN x952 2) fun n955 => castI .i64 (cellN x952 3) fun n956 => castI .i64 (cellN x952 4) fun n957 => castB (cellN x952 5) fun b958 => if 0 ≤ (0 : Int) ∧ (0 : Int) ≤ y3 ∧ y3 ≤ y14.length then (match run tab K 86 [.sl 139 ((y14.take y3.toNat).drop (0 : Int).toNat), .fn 87 [.ref [I n953, I n954, I n955, I n956, I n957, B b958]]] with | some r959 => (castB r959 fun b960 => match run tab K 57 [I n953, I 0, I (IntKind.i64.wrap ((y8.length : Int) - 1))] with | some r961 => (castB r961 fun b962 => match run tab K 62 [B b962, I 3] with | some r963 => (castI .i64 r963 fun n964 => match run tab K 62 [B (!b960), I 13] with | some r965 => (castI .i64 r965 fun n966 => match run tab K 85 [.agg [I y4, I y5, .sl 3 y6, I y7, .sl 105 y8, .sl 103 y9], .agg [I n954, I n955]] with | some r967 => (castI .i64 r967 fun n968 => match run tab K 85 [.agg [I y4, I y5, .sl 3 y6, I y7, .sl 105 y8, .sl 103 y9], .agg [I n956, I n957]] with | some r969 => (castI .i64 r969 fun n970 => match run tab K 61 [.sl 32 [I n964, I n966, I n968, I n970]] with | some r971 => (castI .i64 r971 fun n972 => match (n972 != (0 : Int)) with | true => (some (I n972)) | false => (q12 y1 y2 (IntKind.i64.wrap (y3 + 1)) y4 y5 y6 y7 y8 y9 y10 y11 y12 y13 y14 y15 y16)) | none => none) | none => none) | none => none) | none => none) | none => none) | none => none) | none => none) else none) | none => none) else none) | false => (match run tab K 85 [.agg [I y4, I y5, .sl 3 y6, I y7, .sl 105 y8, .sl 103 y9], .agg [I y15, I y16]] with | some r973 => (castI .i64 r973 fun n974 => some (I n974)) | none => none)
def tr64_5 (K : Nat) (q5 : LA → Int → Int → Int → Int → LA → Int → LA → LA → Int → Int → Int → LA → LA → Int → Int → OA) (q12 : LA → Int → Int → Int → Int → LA → Int → LA → LA → Int → Int → Int → LA → LA → Int → Int → OA) (y1 : LA) (y2 : Int) (y3 : Int) (y4 : Int) (y5 : Int) (y6 : LA) (y7 : Int) (y8 : LA) (y9 : LA) (y10 : Int) (y11 : Int) (y12 : Int) (y13 : LA) (y14 : LA) (y15 : Int) (y16 : Int) : OA :=
  match decide (y3 < y2) with | true => (if 0 ≤ y3 then (match y1[y3.toNat]? with | some x936 => (castI .i64 (cellN x936 0) fun n937 => castI .i64 (cellN x936 1) fun n938 => castI .i64 (cellN x936 2) fun n939 => castI .i64 (cellN x936 3) fun n940 => castI .i64 (cellN x936 4) fun n941 => match run tab K 57 [I n937, I 0, I 3] with | some r942 => (castB r942 fun b943 => match run tab K 62 [B b943, I 4] with | some r944 => (castI .i64 r944 fun n945 => match run tab K 85 [.agg [I y4, I y5, .sl 3 y6, I y7, .sl 105 y8, .sl 103 y9], .agg [I n938, I n939]] with | some r946 => (castI .i64 r946 fun n947 => match run tab K 85 [.agg [I y4, I y5, .sl 3 y6, I y7, .sl 105 y8, .sl 103 y9], .agg [I n940, I n941]] with | some r948 => (castI .i64 r948 fun n949 => match run tab K 61 [.sl 32 [I n945, I n947, I n949]] with | some r950 => (castI .i64 r950 fun n951 => match (n951 != (0 : Int)) with | true => (some (I n951)) | false => (q5 y1 y2 (IntKind.i64.wrap (y3 + 1)) y4 y5 y6 y7 y8 y9 y10 y11 y12 y13 y14 y15 y16)) | none => none) | none => none) | none => none) | none => none) | none => none) | none => none) else none) | false => (q12 y14 (y14.length : Int) (0 : Int) y4 y5 y6 y7 y8 y9 y10 y11 y12 y13 y14 y15 y16)
def tr64 (K : Nat) (q5 : LA → Int → Int → Int → Int → LA → Int → LA → LA → Int → Int → Int → LA → LA → Int → Int → OA) (a0_0 : Int) (a0_1 : Int) (a0_2 : LA) (a0_3 : Int) (a0_4 : LA) (a0_5 : LA) (a1_0 : Int) (a1_1 : Int) (a1_2 : Int) (a1_3 : LA) (a1_4 : LA) (a1_5 : Int) (a1_6 : Int) : OA :=
  match run tab K 57 [I a1_0, I 0, I (IntKind.i64.wrap (a0_0 - 1))] with | some r924 => (castB r924 fun b925 => match b925 with | true => (match run tab K 57 [I a1_1, I 0, I (IntKind.i64.wrap (a0_0 - 1))] with | some r926 => (castB r926 fun b927 => match b927 with | true => (match run tab K 57 [I a1_2, I 0, I (IntKind.i64.wrap ((a0_2.length : Int) - 1))] with | some r928 => (castB r928 fun b929 => match run tab K 62 [B b929, I 3] with | some r930 => (castI .i64 r930 fun n931 => match decide ((a1_3.length : Int) ≤ (4 : Int)) with | true => (match run tab K 62 [B (decide ((a1_4.length : Int) ≤ (4 : Int))), I 2] with | some r932 => (castI .i64 r932 fun n933 => match run tab K 61 [.sl 32 [I n931, I n933]] with | some r934 => (castI .i64 r934 fun n935 => match (n935 != (0 : Int)) with | true => (some (I n935)) | false => (q5 a1_3 (a1_3.length : Int) (0 : Int) a0_0 a0_1 a0_2 a0_3 a0_4 a0_5 a1_0 a1_1 a1_2 a1_3 a1_4 a1_5 a1_6)) | none => none) | none => none) | false => (match run tab K 62 [B false, I 2] with | some r975 => (castI .i64 r975 fun n976 => match run tab K 61 [.sl 32 [I n931, I n976]] with | some r977 => (castI .i64 r977 fun n978 => match (n978 != (0 : Int)) with | true => (some (I n978)) | false => (q5 a1_3 (a1_3.length : Int) (0 : Int) a0_0 a0_1 a0_2 a0_3 a0_4 a0_5 a1_0 a1_1 a1_2 a1_3 a1_4 a1_5 a1_6)) | none => none) | none => none)) | none => none) | none => none) | false => (match run tab K 62 [B false, I 3] with | some r979 => (castI .i64 r979 fun n980 => match decide ((a1_3.length : Int) ≤ (4 : Int)) with | true => (match run tab K 62 [B (decide ((a1_4.length : Int) ≤ (4 : Int))), I 2] with | some r981 => (castI .i64 r981 fun n982 => match run tab K 61 [.sl 32 [I n980, I n982]] with | some r983 => (castI .i64 r983 fun n984 => match (n984 != (0 : Int)) with | true => (some (I n984)) | false => (q5 a1_3 (a1_3.length : Int) (0 : Int) a0_0 a0_1 a0_2 a0_3 a0_4 a0_5 a1_0 a1_1 a1_2 a1_3 a1_4 a1_5 a1_6)) | none => none) | none => none) | false => (match run tab K 62 [B false, I 2] with | some r985 => (castI .i64 r985 fun n986 => match run tab K 61 [.sl 32 [I n980, I n986]] with | some r987 => (castI .i64 r987 fun n988 => match (n988 != (0 : Int)) with | true => (some (I n988)) | false => (q5 a1_3 (a1_3.length : Int) (0 : Int) a0_0 a0_1 a0_2 a0_3 a0_4 a0_5 a1_0 a1_1 a1_2 a1_3 a1_4 a1_5 a1_6)) | none => none) | none => none)) | none => none)) | none => none) | false => (match run tab K 62 [B false, I 3] with | some r989 => (castI .i64 r989 fun n990 => match decide ((a1_3.length : Int) ≤ (4 : Int)) with | true => (match run tab K 62 [B (decide ((a1_4.length : Int) ≤ (4 : Int))), I 2] with | some r991 => (castI .i64 r991 fun n992 => match run tab K 61 [.sl 32 [I n990, I n992]] with | some r993 => (castI .i64 r993 fun n994 => match (n994 != (0 : Int)) with | true => (some (I n994)) | false => (q5 a1_3 (a1_3.length : Int) (0 : Int) a0_0 a0_1 a0_2 a0_3 a0_4 a0_5 a1_0 a1_1 a1_2 a1_3 a1_4 a1_5 a1_6)) | none => none) | none => none) | false => (match run tab K 62 [B false, I 2] with | some r995 => (castI .i64 r995 fun n996 => match run tab K 61 [.sl 32 [I n990, I n996]] with | some r997 => (castI .i64 r997 fun n998 => match (n998 != (0 : Int)) with | true => (some (I n998)) | false => (q5 a1_3 (a1_3.length : Int) (0 : Int) a0_0 a0_1 a0_2 a0_3 a0_4 a0_5 a1_0 a1_1 a1_2 a1_3 a1_4 a1_5 a1_6)) | none => none) | none => none)) | none => none)) | none => none
def lp64_12 (K : Nat) (q5 : LA → Int → Int → Int → Int → LA → Int → LA → LA → Int → Int → Int → LA → LA → Int → Int → OA) : Nat → LA → Int → Int → Int → Int → LA → Int → LA → LA → Int → Int → Int → LA → LA → Int → Int → OA
  | 0, _, _, _, _, _, _, _, _, _, _, _, _, _, _, _, _ => none
  | k + 1, y1, y2, y3, y4, y5, y6, y7, y8, y9, y10, y11, y12, y13, y14, y15, y16 => tr64_12 K (lp64_12 K q5 k) y1 y2 y3 y4 y5 y6 y7 y8 y9 y10 y11 y12 y13 y14 y15 y16
def lp64_5 (K : Nat) : Nat → LA → Int → Int → Int → Int → LA → Int → LA → LA → Int → Int → Int → LA → LA → Int → Int → OA
  | 0, _, _, _, _, _, _, _, _, _, _, _, _, _, _, _, _ => none
  | k + 1, y1, y2, y3, y4, y5, y6, y7, y8, y9, y10, y11, y12, y13, y14, y15, y16 => tr64_5 K (lp64_5 K k) (lp64_12 K (lp64_5 K k) K) y1 y2 y3 y4 y5 y6 y7 y8 y9 y10 y11 y12 y13 y14 y15 y16
def sh64 (K : Nat) (a0_0 : Int) (a0_1 : Int) (a0_2 : LA) (a0_3 : Int) (a0_4 : LA) (a0_5 : LA) (a1_0 : Int) (a1_1 : Int) (a1_2 : Int) (a1_3 : LA) (a1_4 : LA) (a1_5 : Int) (a1_6 : Int) : OA := tr64 K (lp64_5 K K) a0_0 a0_1 a0_2 a0_3 a0_4 a0_5 a1_0 a1_1 a1_2 a1_3 a1_4 a1_5 a1_6
def fr64_12 (y1 : LA) (y2 : Int) (y3 : Int) (y4 : Int) (y5 : Int) (y6 : LA) (y7 : Int) (y8 : LA) (y9 : LA) (y10 : Int) (y11 : Int) (y12 : Int) (y13 : LA) (y14 : LA) (y15 : Int) (y16 : Int) : Fr := { slots := gap 2 ((.undef, .loc 2 0) :: (.undef, .loc 3 0) :: gap 75 ((.sl 139 y1, .uni .lent) :: (I y2, .uni .ro) :: (I y3, .uni .ro) :: gap 39 [])), boxes := [(2, [(I y4, .ro), (I y5, .ro), (.sl 3 y6, .lent), (I y7, .ro), (.sl 105 y8, .lent), (.sl 103 y9, .lent)]), (3, [(I y10, .ro), (I y11, .ro), (I y12, .ro), (.sl 141 y13, .lent), (.sl 139 y14, .lent), (I y15, .ro), (I y16, .ro)])] }
def fr64_5 (y1 : LA) (y2 : Int) (y3 : Int) (y4 : Int) (y5 : Int) (y6 : LA) (y7 : Int) (y8 : LA) (y9 : LA) (y10 : Int) (y11 : Int) (y12 : Int) (y13 : LA) (y14 : LA) (y15 : Int) (y16 : Int) : Fr := { slots := gap 2 ((.undef, .loc 2 0) :: (.undef, .loc 3 0) :: gap 50 ((.sl 141 y1, .uni .lent) :: (I y2, .uni .ro) :: (I y3, .uni .ro) :: gap 64 [])), boxes := [(2, [(I y4, .ro), (I y5, .ro), (.sl 3 y6, .lent), (I y7, .ro), (.sl 105 y8, .lent), (.sl 103 y9, .lent)]), (3, [(I y10, .ro), (I y11, .ro), (I y12, .ro), (.sl 141 y13, .lent), (.sl 139 y14, .lent), (I y15, .ro), (I y16, .ro)])] }
theorem st64_12 (K : Nat) (RO5 : Fr → OA) (k : Nat) (y1 : LA) (y2 : Int) (y3 : Int) (y4 : Int) (y5 : Int) (y6 : LA) (y7 : Int) (y8 : LA) (y9 : LA) (y10 : Int) (y11 : Int) (y12 : Int) (y13 : LA) (y14 : LA) (y15 : Int) (y16 : Int) : mlp 64 Tryd.f64 K 12 (fun i_ => if i_ = 5 then RO5 else fun _ => none) (k + 1) (fr64_12 y1 y2 y3 y4 y5 y6 y7 y8 y9 y10 y11 y12 y13 y14 y15 y16) = tr64_12 K (fun y1 y2 y3 y4 y5 y6 y7 y8 y9 y10 y11 y12 y13 y14 y15 y16 => mlp 64 Tryd.f64 K 12 (fun i_ => if i_ = 5 then RO5 else fun _ => none) k (fr64_12 y1 y2 y3 y4 y5 y6 y7 y8 y9 y10 y11 y12 y13 y14 y15 y16)) y1 y2 y3 y4 y5 y6 y7 y8 y9 y10 y11 y12 y13 y14 y15 y16 := by kernel_rfl
theorem lq64_12 (K : Nat) (RO5 : Fr → OA) : ∀ (k : Nat) (y1 : LA) (y2 : Int) (y3 : Int) (y4 : Int) (y5 : Int) (y6 : LA) (y7 : Int) (y8 : LA) (y9 : LA) (y10 : Int) (y11 : Int) (y12 : Int) (y13 : LA) (y14 : LA) (y15 : Int) (y16 : Int), mlp 64 Tryd.f64 K 12 (fun i_ => if i_ = 5 then RO5 else fun _ => none) k (fr64_12 y1 y2 y3 y4 y5 y6 y7 y8 y9 y10 y11 y12 y13 y14 y15 y16) = lp64_12 K (fun y1 y2 y3 y4 y5 y6 y7 y8 y9 y10 y11 y12 y13 y14 y15 y16 => RO5 (fr64_5 y1 y2 y3 y4 y5 y6 y7 y8 y9 y10 y11 y12 y13 y14 y15 y16)) k y1 y2 y3 y4 y5 y6 y7 y8 y9 y10 y11 y12 y13 y14 y15 y16
  | 0, _, _, _, _, _, _, _, _, _, _, _, _, _, _, _, _ => rfl
  | k + 1, y1, y2, y3, y4, y5, y6, y7, y8, y9, y10, y11, y12, y13, y14, y15, y16 => by
    rw [st64_12]
    have ih := lq64_12 K RO5 k
    try simp only [ih]
    try rfl
theorem st64_5 (K : Nat) (k : Nat) (y1 : LA) (y2 : Int) (y3 : Int) (y4 : Int) (y5 : Int) (y6 : LA) (y7 : Int) (y8 : LA) (y9 : LA) (y10 : Int) (y11 : Int) (y12 : Int) (y13 : LA) (y14 : LA) (y15 : Int) (y16 : Int) : mlp 64 Tryd.f64 K 5 (fun i_ => fun _ => none) (k + 1) (fr64_5 y1 y2 y3 y4 y5 y6 y7 y8 y9 y10 y11 y12 y13 y14 y15 y16) = tr64_5 K (fun y1 y2 y3 y4 y5 y6 y7 y8 y9 y10 y11 y12 y13 y14 y15 y16 => mlp 64 Tryd.f64 K 5 (fun i_ => fun _ => none) k (fr64_5 y1 y2 y3 y4 y5 y6 y7 y8 y9 y10 y11 y12 y13 y14 y15 y16)) (fun y1 y2 y3 y4 y5 y6 y7 y8 y9 y10 y11 y12 y13 y14 y15 y16 => mlp 64 Tryd.f64 K 12 (fun i_ => if i_ = 5 then (fun fr_ => mlp 64 Tryd.f64 K 5 (fun i_ => fun _ => none) k fr_) else fun _ => none) K (fr64_12 y1 y2 y3 y4 y5 y6 y7 y8 y9 y10 y11 y12 y13 y14 y15 y16)) y1 y2 y3 y4 y5 y6 y7 y8 y9 y10 y11 y12 y13 y14 y15 y16 := by kernel_rfl
theorem lq64_5 (K : Nat) : ∀ (k : Nat) (y1 : LA) (y2 : Int) (y3 : Int) (y4 : Int) (y5 : Int) (y6 : LA) (y7 : Int) (y8 : LA) (y9 : LA) (y10 : Int) (y11 : Int) (y12 : Int) (y13 : LA) (y14 : LA) (y15 : Int) (y16 : Int), mlp 64 Tryd.f64 K 5 (fun i_ => fun _ => none) k (fr64_5 y1 y2 y3 y4 y5 y6 y7 y8 y9 y10 y11 y12 y13 y14 y15 y16) = lp64_5 K k y1 y2 y3 y4 y5 y6 y7 y8 y9 y10 y11 y12 y13 y14 y15 y16
  | 0, _, _, _, _, _, _, _, _, _, _, _, _, _, _, _, _ => rfl
  | k + 1, y1, y2, y3, y4, y5, y6, y7, y8, y9, y10, y11, y12, y13, y14, y15, y16 => by
    rw [st64_5]
    have ih := lq64_5 K k
    have ih12 := lq64_12 K (fun fr_ => mlp 64 Tryd.f64 K 5 (fun i_ => fun _ => none) k fr_) K
    try simp only [ih, ih12]
    try rfl
theorem eq64 (K : Nat) (a0_0 : Int) (a0_1 : Int) (a0_2 : LA) (a0_3 : Int) (a0_4 : LA) (a0_5 : LA) (a1_0 : Int) (a1_1 : Int) (a1_2 : Int) (a1_3 : LA) (a1_4 : LA) (a1_5 : Int) (a1_6 : Int) : run tab (K + 1) 64 [.agg [I a0_0, I a0_1, .sl 3 a0_2, I a0_3, .sl 105 a0_4, .sl 103 a0_5], .agg [I a1_0, I a1_1, I a1_2, .sl 141 a1_3, .sl 139 a1_4, I a1_5, I a1_6]] = sh64 K a0_0 a0_1 a0_2 a0_3 a0_4 a0_5 a1_0 a1_1 a1_2 a1_3 a1_4 a1_5 a1_6 := by
  have h : run tab (K + 1) 64 [.agg [I a0_0, I a0_1, .sl 3 a0_2, I a0_3, .sl 105 a0_4, .sl 103 a0_5], .agg [I a1_0, I a1_1, I a1_2, .sl 141 a1_3, .sl 139 a1_4, I a1_5, I a1_6]] = tr64 K (fun y1 y2 y3 y4 y5 y6 y7 y8 y9 y10 y11 y12 y13 y14 y15 y16 => mlp 64 Tryd.f64 K 5 (fun i_ => fun _ => none) K (fr64_5 y1 y2 y3 y4 y5 y6 y7 y8 y9 y10 y11 y12 y13 y14 y15 y16)) a0_0 a0_1 a0_2 a0_3 a0_4 a0_5 a1_0 a1_1 a1_2 a1_3 a1_4 a1_5 a1_6 := by kernel_rfl
  rw [h]
  simp only [lq64_5]
  rfl

/-! ### examiner/examinerref37.move: function 65 -/
def tr65_11 (K : Nat) (q11 : LA → LA → Int → Int → Int → LA → Int → LA → LA → Int → Int → Int → LA → LA → Int → Int → Int → Int → OA) (y1 : LA) (y2 : LA) (y3 : Int) (y4 : Int) (y5 : Int) (y6 : LA) (y7 : Int) (y8 : LA) (y9 : LA) (y10 : Int) (y11 : Int) (y12 : Int) (y13 : LA) (y14 : LA) (y15 : Int) (y16 : Int) (y17 : Int) (y18 : Int) : OA :=
  match decide (y3 < (y14.length : Int)) with | true => (if 0 ≤ y3 then (match y14[y3.toNat]? with | some x1012 => (castI .i64 (cellN x1012 1) fun n1013 => castI .i64 (cellN x1012 2) fun n1014 => match run tab K 89 [.agg [I n1013, I n1014], .sl 3 y1, I y18] with | some r1015 => (castI .i64 r1015 fun n1016 => if 0 ≤ y3 then (match y14[y3.toNat]? with | some x1017 => (castB (cellN x1017 5) fun b1018 => match b1018 with | true => (if 0 ≤ y3 then (match y14[y3.toNat]? with | some x1019 => (castI .i64 (cellN x1019 3) fun n1020 => castI .i64 (cellN x1019 4) fun n1021 => match run tab K 89 [.agg [I n1020, I n1021], .sl 3 y1, I y18] with | some r1022 => (castI .i64 r1022 fun n1023 => if 0 ≤ y3 then (match y14[y3.toNat]? with | some x1024 => (castI .i64 (cellN x1024 0) fun n1025 => if 0 ≤ n1025 then (match y8[n1025.toNat]? with | some x1026 => (castI .i64 (cellN x1026 0) fun n1027 => castI .i64 (cellN x1026 1) fun n1028 => castI .i64 (cellN x1026 2) fun n1029 => match run tab K 29 [I (IntKind.i64.wrap (n1016 - n1023)), I n1027, I n1028] with | some r1030 => (castB r1030 fun b1031 => match (!b1031) with | true => (some (.tup [.sl 3 [], I 0, B false])) | false => (if 0 ≤ y3 then (match y14[y3.toNat]? with | some x1032 => (castI .i64 (cellN x1032 0) fun n1033 => if 0 ≤ (IntKind.i64.wrap (n1033 + 1)) then (match y2[(IntKind.i64.wrap (n1033 + 1)).toNat]? with | some x1034 => (if (IntKind.i64.wrap (n1033 + 1)).toNat < y2.length then (q11 y1 (y2.set ((IntKind.i64.wrap (n1033 + 1)).toNat) (I (IntKind.i64.wrap (n1016 - n1023)) : AV)) (IntKind.i64.wrap (y3 + 1)) y4 y5 y6 y7 y8 y9 y10 y11 y12 y13 y14 y15 y16 y17 y18) else none) | none => none) else none) | none => none) else none)) | none => none) | none => none) else none) | none => none) else none) | none => none) | none => none) else none) | false => (if 0 ≤ y3 then (match y14[y3.toNat]? with | some x1035 => (castI .i64 (cellN x1035 3) fun n1036 => castI .i64 (cellN x1035 4) fun n1037 => match run tab K 89 [.agg [I n1036, I n1037], .sl 3 y1, I y18] with | some r1038 => (castI .i64 r1038 fun n1039 => if 0 ≤ y3 then (match y14[y3.toNat]? with | some x1040 => (castI .i64 (cellN x1040 0) fun n1041 => if 0 ≤ n1041 then (match y8[n1041.toNat]? with | some x1042 => (castI .i64 (cellN x1042 0) fun n1043 => castI .i64 (cellN x1042 1) fun n1044 => castI .i64 (cellN x1042 2) fun n1045 => match run tab K 29 [I (IntKind.i64.wrap (n1016 + n1039)), I n1043, I n1044] with | some r1046 => (castB r1046 fun b1047 => match (!b1047) with | true => (some (.tup [.sl 3 [], I 0, B false])) | false => (if 0 ≤ y3 then (match y14[y3.toNat]? with | some x1048 => (castI .i64 (cellN x1048 0) fun n1049 => if 0 ≤ (IntKind.i64.wrap (n1049 + 1)) then (match y2[(IntKind.i64.wrap (n1049 + 1)).toNat]? with | some x1050 => (if (IntKind.i64.wrap (n1049 + 1)).toNat < y2.length then (q11 y1 (y2.set ((IntKind.i64.wrap (n1049 + 1)).toNat) (I (IntKind.i64.wrap (n1016 + n1039)) : AV)) (IntKind.i64.wrap (y3 + 1)) y4 y5 y6 y7 y8 y9 y10 y11 y12 y13 y14 y15 y16 y17 y18) else none) | none => none) else none) | none => none) else none)) | none => none) | none => none) else none) | none => none) else none) | none => none) | none => none) else none)) | none => none) else none) | none => none) | none => none) else none) | false => (match run tab K 89 [.agg [I y15, I y16], .sl 3 y1, I y18] with | some r1051 => (castI .i64 r1051 fun n1052 => match run tab K 29 [I n1052, I 0, I (IntKind.i64.wrap (y7 - 1))] with | some r1053 => (castB r1053 fun b1054 => some (.tup [.sl 3 y2, I n1052, B b1054])) | none => none) | none => none)
def tr65_4 (K : Nat) (q4 : LA → Int → Int → Int → LA → Int → LA → LA → Int → Int → Int → LA → LA → Int → Int → Int → Int → OA) (q11 : LA → LA → Int → Int → Int → LA → Int → LA → LA → Int → Int → Int → LA → LA → Int → Int → Int → Int → OA) (y1 : LA) (y2 : Int) (y3 : Int) (y4 : Int) (y5 : LA) (y6 : Int) (y7 : LA) (y8 : LA) (y9 : Int) (y10 : Int) (y11 : Int) (y12 : LA) (y13 : LA) (y14 : Int) (y15 : Int) (y16 : Int) (y17 : Int) : OA :=
  match decide (y2 < (y12.length : Int)) with | true => (if 0 ≤ y2 then (match y12[y2.toNat]? with | some x1001 => (castI .i64 (cellN x1001 0) fun n1002 => castI .i64 (cellN x1001 1) fun n1003 => castI .i64 (cellN x1001 2) fun n1004 => castI .i64 (cellN x1001 3) fun n1005 => castI .i64 (cellN x1001 4) fun n1006 => match run tab K 88 [.agg [I n1002, I n1003, I n1004, I n1005, I n1006], .sl 3 y1, I y17] with | some r1007 => (castB r1007 fun b1008 => match (!b1008) with | true => (some (.tup [.sl 3 [], I 0, B false])) | false => (q4 y1 (IntKind.i64.wrap (y2 + 1)) y3 y4 y5 y6 y7 y8 y9 y10 y11 y12 y13 y14 y15 y16 y17)) | none => none) | none => none) else none) | false => (match run tab K 27 [.sl 3 y1] with | some r1009 => (castL 3 r1009 fun l1010 => match l1010[0]? with | some x1011 => (if 0 < l1010.length then (q11 y1 (l1010.set 0 (I y10 : AV)) (0 : Int) y3 y4 y5 y6 y7 y8 y9 y10 y11 y12 y13 y14 y15 y16 y17) else none) | none => none) | none => none)
def tr65 (K : Nat) (q4 : LA → Int → Int → Int → LA → Int → LA → LA → Int → Int → Int → LA → LA → Int → Int → Int → Int → OA) (a0_0 : Int) (a0_1 : Int) (a0_2 : LA) (a0_3 : Int) (a0_4 : LA) (a0_5 : LA) (a1_0 : Int) (a1_1 : Int) (a1_2 : Int) (a1_3 : LA) (a1_4 : LA) (a1_5 : Int) (a1_6 : Int) (a2 : LA) (a3_0 : Int) (a3_1 : Int) : OA :=
  match a2[0]? with | some x999 => (castI .i64 x999 fun n1000 => match (a1_0 != n1000) with | true => (some (.tup [.sl 3 [], I 0, B false])) | false => (match (a1_2 != a3_0) with | true => (some (.tup [.sl 3 [], I 0, B false])) | false => (q4 a2 (0 : Int) a0_0 a0_1 a0_2 a0_3 a0_4 a0_5 a1_0 a1_1 a1_2 a1_3 a1_4 a1_5 a1_6 a3_0 a3_1))) | none => none
def lp65_11 (K : Nat) (q4 : LA → Int → Int → Int → LA → Int → LA → LA → Int → Int → Int → LA → LA → Int → Int → Int → Int → OA) : Nat → LA → LA → Int → Int → Int → LA → Int → LA → LA → Int → Int → Int → LA → LA → Int → Int → Int → Int → OA
  | 0, _, _, _, _, _, _, _, _, _, _, _, _, _, _, _, _, _, _ => none
  | k + 1, y1, y2, y3, y4, y5, y6, y7, y8, y9, y10, y11, y12, y13, y14, y15, y16, y17, y18 => tr65_11 K (lp65_11 K q4 k) y1 y2 y3 y4 y5 y6 y7 y8 y9 y10 y11 y12 y13 y14 y15 y16 y17 y18
def lp65_4 (K : Nat) : Nat → LA → Int → Int → Int → LA → Int → LA → LA → Int → Int → Int → LA → LA → Int → Int → Int → Int → OA
  | 0, _, _, _, _, _, _, _, _, _, _, _, _, _, _, _, _, _ => none
  | k + 1, y1, y2, y3, y4, y5, y6, y7, y8, y9, y10, y11, y12, y13, y14, y15, y16, y17 => tr65_4 K (lp65_4 K k) (lp65_11 K (lp65_4 K k) K) y1 y2 y3 y4 y5 y6 y7 y8 y9 y10 y11 y12 y13 y14 y15 y16 y17
def sh65 (K : Nat) (a0_0 : Int) (a0_1 : Int) (a0_2 : LA) (a0_3 : Int) (a0_4 : LA) (a0_5 : LA) (a1_0 : Int) (a1_1 : Int) (a1_2 : Int) (a1_3 : LA) (a1_4 : LA) (a1_5 : Int) (a1_6 : Int) (a2 : LA) (a3_0 : Int) (a3_1 : Int) : OA := tr65 K (lp65_4 K K) a0_0 a0_1 a0_2 a0_3 a0_4 a0_5 a1_0 a1_1 a1_2 a1_3 a1_4 a1_5 a1_6 a2 a3_0 a3_1
def fr65_11 (y1 : LA) (y2 : LA) (y3 : Int) (y4 : Int) (y5 : Int) (y6 : LA) (y7 : Int) (y8 : LA) (y9 : LA) (y10 : Int) (y11 : Int) (y12 : Int) (y13 : LA) (y14 : LA) (y15 : Int) (y16 : Int) (y17 : Int) (y18 : Int) : Fr := { slots := gap 2 ((.sl 3 y1, .uni .lent) :: gap 1 ((.undef, .loc 4 0) :: (.undef, .loc 5 0) :: gap 1 ((.undef, .loc 7 0) :: gap 4 ((.sl 3 y2, .uni .own) :: (I y3, .uni .ro) :: gap 126 [])))), boxes := [(4, [(I y4, .ro), (I y5, .ro), (.sl 3 y6, .lent), (I y7, .ro), (.sl 105 y8, .lent), (.sl 103 y9, .lent)]), (5, [(I y10, .ro), (I y11, .ro), (I y12, .ro), (.sl 141 y13, .lent), (.sl 139 y14, .lent), (I y15, .ro), (I y16, .ro)]), (7, [(I y17, .ro), (I y18, .ro)])] }
def fr65_4 (y1 : LA) (y2 : Int) (y3 : Int) (y4 : Int) (y5 : LA) (y6 : Int) (y7 : LA) (y8 : LA) (y9 : Int) (y10 : Int) (y11 : Int) (y12 : LA) (y13 : LA) (y14 : Int) (y15 : Int) (y16 : Int) (y17 : Int) : Fr := { slots := gap 2 ((.sl 3 y1, .uni .lent) :: gap 1 ((.undef, .loc 4 0) :: (.undef, .loc 5 0) :: gap 1 ((.undef, .loc 7 0) :: gap 3 ((I y2, .uni .ro) :: gap 128 [])))), boxes := [(4, [(I y3, .ro), (I y4, .ro), (.sl 3 y5, .lent), (I y6, .ro), (.sl 105 y7, .lent), (.sl 103 y8, .lent)]), (5, [(I y9, .ro), (I y10, .ro), (I y11, .ro), (.sl 141 y12, .lent), (.sl 139 y13, .lent), (I y14, .ro), (I y15, .ro)]), (7, [(I y16, .ro), (I y17, .ro)])] }
theorem st65_11 (K : Nat) (RO4 : Fr → OA) (k : Nat) (y1 : LA) (y2 : LA) (y3 : Int) (y4 : Int) (y5 : Int) (y6 : LA) (y7 : Int) (y8 : LA) (y9 : LA) (y10 : Int) (y11 : Int) (y12 : Int) (y13 : LA) (y14 : LA) (y15 : Int) (y16 : Int) (y17 : Int) (y18 : Int) : mlp 65 Tryd.f65 K 11 (fun i_ => if i_ = 4 then RO4 else fun _ => none) (k + 1) (fr65_11 y1 y2 y3 y4 y5 y6 y7 y8 y9 y10 y11 y12 y13 y14 y15 y16 y17 y18) = tr65_11 K (fun y1 y2 y3 y4 y5 y6 y7 y8 y9 y10 y11 y12 y13 y14 y15 y16 y17 y18 => mlp 65 Tryd.f65 K 11 (fun i_ => if i_ = 4 then RO4 else fun _ => none) k (fr65_11 y1 y2 y3 y4 y5 y6 y7 y8 y9 y10 y11 y12 y13 y14 y15 y16 y17 y18)) y1 y2 y3 y4 y5 y6 y7 y8 y9 y10 y11 y12 y13 y14 y15 y16 y17 y18 := by kernel_rfl
theorem lq65_11 (K : Nat) (RO4 : Fr → OA) : ∀ (k : Nat) (y1 : LA) (y2 : LA) (y3 : Int) (y4 : Int) (y5 : Int) (y6 : LA) (y7 : Int) (y8 : LA) (y9 : LA) (y10 : Int) (y11 : Int) (y12 : Int) (y13 : LA) (y14 : LA) (y15 : Int) (y16 : Int) (y17 : Int) (y18 : Int), mlp 65 Tryd.f65 K 11 (fun i_ => if i_ = 4 then RO4 else fun _ => none) k (fr65_11 y1 y2 y3 y4 y5 y6 y7 y8 y9 y10 y11 y12 y13 y14 y15 y16 y17 y18) = lp65_11 K (fun y1 y2 y3 y4 y5 y6 y7 y8 y9 y10 y11 y12 y13 y14 y15 y16 y17 => RO4 (fr65_4 y1 y2 y3 y4 y5 y6 y7 y8 y9 y10 y11 y12 y13 y14 y15 y16 y17)) k y1 y2 y3 y4 y5 y6 y7 y8 y9 y10 y11 y12 y13 y14 y15 y16 y17 y18
  | 0, _, _, _, _, _, _, _, _, _, _, _, _, _, _, _, _, _, _ => rfl
  | k + 1, y1, y2, y3, y4, y5, y6, y7, y8, y9, y10, y11, y12, y13, y14, y15, y16, y17, y18 => by
    rw [st65_11]
    have ih := lq65_11 K RO4 k
    try simp only [ih]
    try rfl
theorem st65_4 (K : Nat) (k : Nat) (y1 : LA) (y2 : Int) (y3 : Int) (y4 : Int) (y5 : LA) (y6 : Int) (y7 : LA) (y8 : LA) (y9 : Int) (y10 : Int) (y11 : Int) (y12 : LA) (y13 : LA) (y14 : Int) (y15 : Int) (y16 : Int) (y17 : Int) : mlp 65 Tryd.f65 K 4 (fun i_ => fun _ => none) (k + 1) (fr65_4 y1 y2 y3 y4 y5 y6 y7 y8 y9 y10 y11 y12 y13 y14 y15 y16 y17) = tr65_4 K (fun y1 y2 y3 y4 y5 y6 y7 y8 y9 y10 y11 y12 y13 y14 y15 y16 y17 => mlp 65 Tryd.f65 K 4 (fun i_ => fun _ => none) k (fr65_4 y1 y2 y3 y4 y5 y6 y7 y8 y9 y10 y11 y12 y13 y14 y15 y16 y17)) (fun y1 y2 y3 y4 y5 y6 y7 y8 y9 y10 y11 y12 y13 y14 y15 y16 y17 y18 => mlp 65 Tryd.f65 K 11 (fun i_ => if i_ = 4 then (fun fr_ => mlp 65 Tryd.f65 K 4 (fun i_ => fun _ => none) k fr_) else fun _ => none) K (fr65_11 y1 y2 y3 y4 y5 y6 y7 y8 y9 y10 y11 y12 y13 y14 y15 y16 y17 y18)) y1 y2 y3 y4 y5 y6 y7 y8 y9 y10 y11 y12 y13 y14 y15 y16 y17 := by kernel_rfl
theorem lq65_4 (K : Nat) : ∀ (k : Nat) (y1 : LA) (y2 : Int) (y3 : Int) (y4 : Int) (y5 : LA) (y6 : Int) (y7 : LA) (y8 : LA) (y9 : Int) (y10 : Int) (y11 : Int) (y12 : LA) (y13 : LA) (y14 : Int) (y15 : Int) (y16 : Int) (y17 : Int), mlp 65 Tryd.f65 K 4 (fun i_ => fun _ => none) k (fr65_4 y1 y2 y3 y4 y5 y6 y7 y8 y9 y10 y11 y12 y13 y14 y15 y16 y17) = lp65_4 K k y1 y2 y3 y4 y5 y6 y7 y8 y9 y10 y11 y12 y13 y14 y15 y16 y17
  | 0, _, _, _, _, _, _, _, _, _, _, _, _, _, _, _, _, _ => rfl
  | k + 1, y1, y2, y3, y4, y5, y6, y7, y8, y9, y10, y11, y12, y13, y14, y15, y16, y17 => by
    rw [st65_4]
    have ih := lq65_4 K k
    have ih11 := lq65_11 K (fun fr_ => mlp 65 Tryd.f65 K 4 (fun i_ => fun _ => none) k fr_) K
    try simp only [ih, ih11]
    try rfl
theorem eq65 (K : Nat) (a0_0 : Int) (a0_1 : Int) (a0_2 : LA) (a0_3 : Int) (a0_4 : LA) (a0_5 : LA) (a1_0 : Int) (a1_1 : Int) (a1_2 : Int) (a1_3 : LA) (a1_4 : LA) (a1_5 : Int) (a1_6 : Int) (a2 : LA) (a3_0 : Int) (a3_1 : Int) : run tab (K + 1) 65 [.agg [I a0_0, I a0_1, .sl 3 a0_2, I a0_3, .sl 105 a0_4, .sl 103 a0_5], .agg [I a1_0, I a1_1, I a1_2, .sl 141 a1_3, .sl 139 a1_4, I a1_5, I a1_6], .sl 3 a2, .agg [I a3_0, I a3_1]] = sh65 K a0_0 a0_1 a0_2 a0_3 a0_4 a0_5 a1_0 a1_1 a1_2 a1_3 a1_4 a1_5 a1_6 a2 a3_0 a3_1 := by
  have h : run tab (K + 1) 65 [.agg [I a0_0, I a0_1, .sl 3 a0_2, I a0_3, .sl 105 a0_4, .sl 103 a0_5], .agg [I a1_0, I a1_1, I a1_2, .sl 141 a1_3, .sl 139 a1_4, I a1_5, I a1_6], .sl 3 a2, .agg [I a3_0, I a3_1]] = tr65 K (fun y1 y2 y3 y4 y5 y6 y7 y8 y9 y10 y11 y12 y13 y14 y15 y16 y17 => mlp 65 Tryd.f65 K 4 (fun i_ => fun _ => none) K (fr65_4 y1 y2 y3 y4 y5 y6 y7 y8 y9 y10 y11 y12 y13 y14 y15 y16 y17)) a0_0 a0_1 a0_2 a0_3 a0_4 a0_5 a1_0 a1_1 a1_2 a1_3 a1_4 a1_5 a1_6 a2 a3_0 a3_1 := by kernel_rfl
  rw [h]
  simp only [lq65_4]
  rfl

/-! ### examiner/model.machineErr: function 66 -/
def tr66 (K : Nat) (a0_0 : Int) (a0_1 : Int) (a0_2 : Int) (a0_3 : Int) (a0_4 : LA) : OA :=
  match run tab K 20 [.agg [I a0_0, I a0_1, I a0_2, I a0_3, .sl 97 a0_4]] with | some r1055 => (castI .i64 (compN r1055 0) fun n1056 => castI .i64 (compN r1055 1) fun n1057 => some (I n1057)) | none => none
def sh66 (K : Nat) (a0_0 : Int) (a0_1 : Int) (a0_2 : Int) (a0_3 : Int) (a0_4 : LA) : OA := tr66 K a0_0 a0_1 a0_2 a0_3 a0_4
theorem eq66 (K : Nat) (a0_0 : Int) (a0_1 : Int) (a0_2 : Int) (a0_3 : Int) (a0_4 : LA) : run tab (K + 1) 66 [.agg [I a0_0, I a0_1, I a0_2, I a0_3, .sl 97 a0_4]] = sh66 K a0_0 a0_1 a0_2 a0_3 a0_4 := by kernel_rfl

/-! ### examiner/examinerref37.StepAt: function 68 -/
def tr68_2 (K : Nat) (q2 : Int → Int → Int → Int → Int → Int → Int → LA → OA) (y1 : Int) (y2 : Int) (y3 : Int) (y4 : Int) (y5 : Int) (y6 : Int) (y7 : Int) (y8 : LA) : OA :=
  match decide (y3 < (y8.length : Int)) with | true => (if 0 ≤ y3 then (match y8[y3.toNat]? with | some x1058 => (castI .i64 (cellN x1058 0) fun n1059 => match (n1059 == y1) with | true => (if 0 ≤ y3 then (match y8[y3.toNat]? with | some x1060 => (castI .i64 (cellN x1060 1) fun n1061 => match (n1061 == y2) with | true => (some (I y3)) | false => (q2 y1 y2 (IntKind.i64.wrap (y3 + 1)) y4 y5 y6 y7 y8)) | none => none) else none) | false => (q2 y1 y2 (IntKind.i64.wrap (y3 + 1)) y4 y5 y6 y7 y8)) | none => none) else none) | false => (some (I (-1)))
def tr68 (K : Nat) (q2 : Int → Int → Int → Int → Int → Int → Int → LA → OA) (a0_0 : Int) (a0_1 : Int) (a0_2 : Int) (a0_3 : Int) (a0_4 : LA) (a1 : Int) (a2 : Int) : OA :=
  q2 a1 a2 (0 : Int) a0_0 a0_1 a0_2 a0_3 a0_4
def lp68_2 (K : Nat) : Nat → Int → Int → Int → Int → Int → Int → Int → LA → OA
  | 0, _, _, _, _, _, _, _, _ => none
  | k + 1, y1, y2, y3, y4, y5, y6, y7, y8 => tr68_2 K (lp68_2 K k) y1 y2 y3 y4 y5 y6 y7 y8
def sh68 (K : Nat) (a0_0 : Int) (a0_1 : Int) (a0_2 : Int) (a0_3 : Int) (a0_4 : LA) (a1 : Int) (a2 : Int) : OA := tr68 K (lp68_2 K K) a0_0 a0_1 a0_2 a0_3 a0_4 a1 a2
def fr68_2 (y1 : Int) (y2 : Int) (y3 : Int) (y4 : Int) (y5 : Int) (y6 : Int) (y7 : Int) (y8 : LA) : Fr := { slots := gap 1 ((I y1, .uni .ro) :: (I y2, .uni .ro) :: (.undef, .loc 3 0) :: gap 3 ((I y3, .uni .ro) :: gap 26 [])), boxes := [(3, [(I y4, .ro), (I y5, .ro), (I y6, .ro), (I y7, .ro), (.sl 97 y8, .lent)])] }
theorem st68_2 (K : Nat) (k : Nat) (y1 : Int) (y2 : Int) (y3 : Int) (y4 : Int) (y5 : Int) (y6 : Int) (y7 : Int) (y8 : LA) : mlp 68 Tryd.f68 K 2 (fun i_ => fun _ => none) (k + 1) (fr68_2 y1 y2 y3 y4 y5 y6 y7 y8) = tr68_2 K (fun y1 y2 y3 y4 y5 y6 y7 y8 => mlp 68 Tryd.f68 K 2 (fun i_ => fun _ => none) k (fr68_2 y1 y2 y3 y4 y5 y6 y7 y8)) y1 y2 y3 y4 y5 y6 y7 y8 := by kernel_rfl
theorem lq68_2 (K : Nat) : ∀ (k : Nat) (y1 : Int) (y2 : Int) (y3 : Int) (y4 : Int) (y5 : Int) (y6 : Int) (y7 : Int) (y8 : LA), mlp 68 Tryd.f68 K 2 (fun i_ => fun _ => none) k (fr68_2 y1 y2 y3 y4 y5 y6 y7 y8) = lp68_2 K k y1 y2 y3 y4 y5 y6 y7 y8
  | 0, _, _, _, _, _, _, _, _ => rfl
  | k + 1, y1, y2, y3, y4, y5, y6, y7, y8 => by
    rw [st68_2]
    have ih := lq68_2 K k
    try simp only [ih]
    try rfl
theorem eq68 (K : Nat) (a0_0 : Int) (a0_1 : Int) (a0_2 : Int) (a0_3 : Int) (a0_4 : LA) (a1 : Int) (a2 : Int) : run tab (K + 1) 68 [.agg [I a0_0, I a0_1, I a0_2, I a0_3, .sl 97 a0_4], I a1, I a2] = sh68 K a0_0 a0_1 a0_2 a0_3 a0_4 a1 a2 := by
  have h : run tab (K + 1) 68 [.agg [I a0_0, I a0_1, I a0_2, I a0_3, .sl 97 a0_4], I a1, I a2] = tr68 K (fun y1 y2 y3 y4 y5 y6 y7 y8 => mlp 68 Tryd.f68 K 2 (fun i_ => fun _ => none) K (fr68_2 y1 y2 y3 y4 y5 y6 y7 y8)) a0_0 a0_1 a0_2 a0_3 a0_4 a1 a2 := by kernel_rfl
  rw [h]
  simp only [lq68_2]
  rfl

/-! ### examiner/model.wordErr: function 69 -/
def tr69 (K : Nat) (a0 : LA) (a1 : Int) : OA :=
  match decide ((a0.length : Int) > (60 : Int)) with | true => (some (I 2)) | false => (match run tab K 91 [.sl 3 a0, .fn 90 [.ref [I a1]]] with | some r1062 => (castB r1062 fun b1063 => match run tab K 62 [B (!b1063), I 3] with | some r1064 => (castI .i64 r1064 fun n1065 => some (I n1065)) | none => none) | none => none)
def sh69 (K : Nat) (a0 : LA) (a1 : Int) : OA := tr69 K a0 a1
theorem eq69 (K : Nat) (a0 : LA) (a1 : Int) : run tab (K + 1) 69 [.sl 3 a0, I a1] = sh69 K a0 a1 := by kernel_rfl

/-! ### slices.Contains[[][2]int,[2]int]: function 71 -/
def tr71 (K : Nat) (a0 : LA) (a1_0 : Int) (a1_1 : Int) : OA :=
  match run tab K 92 [.sl 52 a0, .agg [I a1_0, I a1_1]] with | some r1066 => (castI .i64 r1066 fun n1067 => some (B (decide (n1067 ≥ (0 : Int))))) | none => none
def sh71 (K : Nat) (a0 : LA) (a1_0 : Int) (a1_1 : Int) : OA := tr71 K a0 a1_0 a1_1
theorem eq71 (K : Nat) (a0 : LA) (a1_0 : Int) (a1_1 : Int) : run tab (K + 1) 71 [.sl 52 a0, .agg [I a1_0, I a1_1]] = sh71 K a0 a1_0 a1_1 := by kernel_rfl

/-! ### examiner/examinerref37.Search: function 72 -/
def tr72_6 (K : Nat) (q3 : LA → Int → Int → Int → Int → Int → LA → Int → Int → Int → Int → LA → OA) (q6 : LA → Int → Int → Int → Int → Int → Int → LA → Int → Int → Int → Int → LA → OA) (y1 : LA) (y2 : Int) (y3 : Int) (y4 : Int) (y5 : Int) (y6 : Int) (y7 : Int) (y8 : LA) (y9 : Int) (y10 : Int) (y11 : Int) (y12 : Int) (y13 : LA) : OA :=
  match decide (y3 < y5) with | true => (if 0 ≤ y2 then (match y1[y2.toNat]? with | some x1068 => (castL 3 (cellN x1068 2) fun l1069 => match run tab K 27 [.sl 3 l1069] with | some r1070 => (castL 3 r1070 fun l1071 => if (l1071.length + ([I y3] : LA).length) * 8 ≤ maxBytes then (if 0 ≤ y2 then (match y1[y2.toNat]? with | some x1072 => (castI .i64 (cellN x1072 0) fun n1073 => if 0 ≤ y2 then (match y1[y2.toNat]? with | some x1074 => (castI .i64 (cellN x1074 1) fun n1075 => match run tab K 68 [.agg [I y4, I y5, I y6, I y7, .sl 97 y8], I n1073, I y3] with | some r1076 => (castI .i64 r1076 fun n1077 => match run tab K 68 [.agg [I y9, I y10, I y11, I y12, .sl 97 y13], I n1075, I y3] with | some r1078 => (castI .i64 r1078 fun n1079 => match (n1077 == (-1 : Int)) with | true => (match (n1079 == (-1 : Int)) with | true => (q6 y1 y2 (IntKind.i64.wrap (y3 + 1)) y4 y5 y6 y7 y8 y9 y10 y11 y12 y13) | false => (match (n1077 == (-1 : Int)) with | true => (some (.tup [.sl 3 (l1071 ++ ([I y3] : LA)), B true, .sl 130 y1])) | false => (match (n1079 == (-1 : Int)) with | true => (some (.tup [.sl 3 (l1071 ++ ([I y3] : LA)), B true, .sl 130 y1])) | false => (if 0 ≤ n1077 then (match y8[n1077.toNat]? with | some x1080 => (castI .i64 (cellN x1080 2) fun n1081 => if 0 ≤ n1079 then (match y13[n1079.toNat]? with | some x1082 => (castI .i64 (cellN x1082 2) fun n1083 => match (n1081 != n1083) with | true => (some (.tup [.sl 3 (l1071 ++ ([I y3] : LA)), B true, .sl 130 y1])) | false => (if 0 ≤ n1077 then (match y8[n1077.toNat]? with | some x1084 => (castI .i64 (cellN x1084 3) fun n1085 => if 0 ≤ n1079 then (match y13[n1079.toNat]? with | some x1086 => (castI .i64 (cellN x1086 3) fun n1087 => match run tab K 93 [.sl 130 y1, .agg [I n1085, I n1087, .sl 3 (l1071 ++ ([I y3] : LA))]] with | some r1088 => (castB r1088 fun b1089 => match (!b1089) with | true => (if (y1.length + ([.agg [I n1085, I n1087, .sl 3 (l1071 ++ ([I y3] : LA))]] : LA).length) * 40 ≤ maxBytes then (q6 (y1 ++ ([.agg [I n1085, I n1087, .sl 3 (l1071 ++ ([I y3] : LA))]] : LA)) y2 (IntKind.i64.wrap (y3 + 1)) y4 y5 y6 y7 y8 y9 y10 y11 y12 y13) else none) | false => (q6 y1 y2 (IntKind.i64.wrap (y3 + 1)) y4 y5 y6 y7 y8 y9 y10 y11 y12 y13)) | none => none) | none => none) else none) | none => none) else none)) | none => none) else none) | none => none) else none)))) | false => (match (n1077 == (-1 : Int)) with | true => (some (.tup [.sl 3 (l1071 ++ ([I y3] : LA)), B true, .sl 130 y1])) | false => (match (n1079 == (-1 : Int)) with | true => (some (.tup [.sl 3 (l1071 ++ ([I y3] : LA)), B true, .sl 130 y1])) | false => (if 0 ≤ n1077 then (match y8[n1077.toNat]? with | some x1090 => (castI .i64 (cellN x1090 2) fun n1091 => if 0 ≤ n1079 then (match y13[n1079.toNat]? with | some x1092 => (castI .i64 (cellN x1092 2) fun n1093 => match (n1091 != n1093) with | true => (some (.tup [.sl 3 (l1071 ++ ([I y3] : LA)), B true, .sl 130 y1])) | false => (if 0 ≤ n1077 then (match y8[n1077.toNat]? with | some x1094 => (castI .i64 (cellN x1094 3) fun n1095 => if 0 ≤ n1079 then (match y13[n1079.toNat]? with | some x1096 => (castI .i64 (cellN x1096 3) fun n1097 => match run tab K 93 [.sl 130 y1, .agg [I n1095, I n1097, .sl 3 (l1071 ++ ([I y3] : LA))]] with | some r1098 => (castB r1098 fun b1099 => match (!b1099) with | true => (if (y1.length + ([.agg [I n1095, I n1097, .sl 3 (l1071 ++ ([I y3] : LA))]] : LA).length) * 40 ≤ maxBytes then (q6 (y1 ++ ([.agg [I n1095, I n1097, .sl 3 (l1071 ++ ([I y3] : LA))]] : LA)) y2 (IntKind.i64.wrap (y3 + 1)) y4 y5 y6 y7 y8 y9 y10 y11 y12 y13) else none) | false => (q6 y1 y2 (IntKind.i64.wrap (y3 + 1)) y4 y5 y6 y7 y8 y9 y10 y11 y12 y13)) | none => none) | none => none) else none) | none => none) else none)) | none => none) else none) | none => none) else none)))) | none => none) | none => none) | none => none) else none) | none => none) else none) else none) | none => none) | none => none) else none) | false => (q3 y1 (IntKind.i64.wrap (y2 + 1)) y4 y5 y6 y7 y8 y9 y10 y11 y12 y13)
def tr72_3 (K : Nat) (q6 : LA → Int → Int → Int → Int → Int → Int → LA → Int → Int → Int → Int → LA → OA) (y1 : LA) (y2 : Int) (y3 : Int) (y4 : Int) (y5 : Int) (y6 : Int) (y7 : LA) (y8 : Int) (y9 : Int) (y10 : Int) (y11 : Int) (y12 : LA) : OA :=
  match decide (y2 < (y1.length : Int)) with | true => (q6 y1 y2 (0 : Int) y3 y4 y5 y6 y7 y8 y9 y10 y11 y12) | false => (some (.tup [.sl 3 [], B false, .sl 130 y1]))
def tr72 (K : Nat) (q3 : LA → Int → Int → Int → Int → Int → LA → Int → Int → Int → Int → LA → OA) (a0_0 : Int) (a0_1 : Int) (a0_2 : Int) (a0_3 : Int) (a0_4 : LA) (a1_0 : Int) (a1_1 : Int) (a1_2 : Int) (a1_3 : Int) (a1_4 : LA) (a2_0 : Int) (a2_1 : Int) (a2_2 : LA) : OA :=
  q3 ([.agg [I a2_0, I a2_1, .sl 3 a2_2]] : LA) (0 : Int) a0_0 a0_1 a0_2 a0_3 a0_4 a1_0 a1_1 a1_2 a1_3 a1_4
def lp72_6 (K : Nat) (q3 : LA → Int → Int → Int → Int → Int → LA → Int → Int → Int → Int → LA → OA) : Nat → LA → Int → Int → Int → Int → Int → Int → LA → Int → Int → Int → Int → LA → OA
  | 0, _, _, _, _, _, _, _, _, _, _, _, _, _ => none
  | k + 1, y1, y2, y3, y4, y5, y6, y7, y8, y9, y10, y11, y12, y13 => tr72_6 K q3 (lp72_6 K q3 k) y1 y2 y3 y4 y5 y6 y7 y8 y9 y10 y11 y12 y13
def lp72_3 (K : Nat) : Nat → LA → Int → Int → Int → Int → Int → LA → Int → Int → Int → Int → LA → OA
  | 0, _, _, _, _, _, _, _, _, _, _, _, _ => none
  | k + 1, y1, y2, y3, y4, y5, y6, y7, y8, y9, y10, y11, y12 => tr72_3 K (lp72_6 K (lp72_3 K k) K) y1 y2 y3 y4 y5 y6 y7 y8 y9 y10 y11 y12
def sh72 (K : Nat) (a0_0 : Int) (a0_1 : Int) (a0_2 : Int) (a0_3 : Int) (a0_4 : LA) (a1_0 : Int) (a1_1 : Int) (a1_2 : Int) (a1_3 : Int) (a1_4 : LA) (a2_0 : Int) (a2_1 : Int) (a2_2 : LA) : OA := tr72 K (lp72_3 K K) a0_0 a0_1 a0_2 a0_3 a0_4 a1_0 a1_1 a1_2 a1_3 a1_4 a2_0 a2_1 a2_2
def fr72_6 (y1 : LA) (y2 : Int) (y3 : Int) (y4 : Int) (y5 : Int) (y6 : Int) (y7 : Int) (y8 : LA) (y9 : Int) (y10 : Int) (y11 : Int) (y12 : Int) (y13 : LA) : Fr := { slots := gap 3 ((.undef, .loc 3 0) :: (.undef, .loc 4 0) :: gap 4 ((.sl 130 y1, .uni .own) :: (I y2, .uni .ro) :: (I y3, .uni .ro) :: gap 95 [])), boxes := [(3, [(I y4, .ro), (I y5, .ro), (I y6, .ro), (I y7, .ro), (.sl 97 y8, .lent)]), (4, [(I y9, .ro), (I y10, .ro), (I y11, .ro), (I y12, .ro), (.sl 97 y13, .lent)])] }
def fr72_3 (y1 : LA) (y2 : Int) (y3 : Int) (y4 : Int) (y5 : Int) (y6 : Int) (y7 : LA) (y8 : Int) (y9 : Int) (y10 : Int) (y11 : Int) (y12 : LA) : Fr := { slots := gap 3 ((.undef, .loc 3 0) :: (.undef, .loc 4 0) :: gap 4 ((.sl 130 y1, .uni .own) :: (I y2, .uni .ro) :: gap 96 [])), boxes := [(3, [(I y3, .ro), (I y4, .ro), (I y5, .ro), (I y6, .ro), (.sl 97 y7, .lent)]), (4, [(I y8, .ro), (I y9, .ro), (I y10, .ro), (I y11, .ro), (.sl 97 y12, .lent)])] }
theorem st72_6 (K : Nat) (RO3 : Fr → OA) (k : Nat) (y1 : LA) (y2 : Int) (y3 : Int) (y4 : Int) (y5 : Int) (y6 : Int) (y7 : Int) (y8 : LA) (y9 : Int) (y10 : Int) (y11 : Int) (y12 : Int) (y13 : LA) : mlp 72 Tryd.f72 K 6 (fun i_ => if i_ = 3 then RO3 else fun _ => none) (k + 1) (fr72_6 y1 y2 y3 y4 y5 y6 y7 y8 y9 y10 y11 y12 y13) = tr72_6 K (fun y1 y2 y3 y4 y5 y6 y7 y8 y9 y10 y11 y12 => RO3 (fr72_3 y1 y2 y3 y4 y5 y6 y7 y8 y9 y10 y11 y12)) (fun y1 y2 y3 y4 y5 y6 y7 y8 y9 y10 y11 y12 y13 => mlp 72 Tryd.f72 K 6 (fun i_ => if i_ = 3 then RO3 else fun _ => none) k (fr72_6 y1 y2 y3 y4 y5 y6 y7 y8 y9 y10 y11 y12 y13)) y1 y2 y3 y4 y5 y6 y7 y8 y9 y10 y11 y12 y13 := by kernel_rfl
theorem lq72_6 (K : Nat) (RO3 : Fr → OA) : ∀ (k : Nat) (y1 : LA) (y2 : Int) (y3 : Int) (y4 : Int) (y5 : Int) (y6 : Int) (y7 : Int) (y8 : LA) (y9 : Int) (y10 : Int) (y11 : Int) (y12 : Int) (y13 : LA), mlp 72 Tryd.f72 K 6 (fun i_ => if i_ = 3 then RO3 else fun _ => none) k (fr72_6 y1 y2 y3 y4 y5 y6 y7 y8 y9 y10 y11 y12 y13) = lp72_6 K (fun y1 y2 y3 y4 y5 y6 y7 y8 y9 y10 y11 y12 => RO3 (fr72_3 y1 y2 y3 y4 y5 y6 y7 y8 y9 y10 y11 y12)) k y1 y2 y3 y4 y5 y6 y7 y8 y9 y10 y11 y12 y13
  | 0, _, _, _, _, _, _, _, _, _, _, _, _, _ => rfl
  | k + 1, y1, y2, y3, y4, y5, y6, y7, y8, y9, y10, y11, y12, y13 => by
    rw [st72_6]
    have ih := lq72_6 K RO3 k
    try simp only [ih]
    try rfl
theorem st72_3 (K : Nat) (k : Nat) (y1 : LA) (y2 : Int) (y3 : Int) (y4 : Int) (y5 : Int) (y6 : Int) (y7 : LA) (y8 : Int) (y9 : Int) (y10 : Int) (y11 : Int) (y12 : LA) : mlp 72 Tryd.f72 K 3 (fun i_ => fun _ => none) (k + 1) (fr72_3 y1 y2 y3 y4 y5 y6 y7 y8 y9 y10 y11 y12) = tr72_3 K (fun y1 y2 y3 y4 y5 y6 y7 y8 y9 y10 y11 y12 y13 => mlp 72 Tryd.f72 K 6 (fun i_ => if i_ = 3 then (fun fr_ => mlp 72 Tryd.f72 K 3 (fun i_ => fun _ => none) k fr_) else fun _ => none) K (fr72_6 y1 y2 y3 y4 y5 y6 y7 y8 y9 y10 y11 y12 y13)) y1 y2 y3 y4 y5 y6 y7 y8 y9 y10 y11 y12 := by kernel_rfl
theorem lq72_3 (K : Nat) : ∀ (k : Nat) (y1 : LA) (y2 : Int) (y3 : Int) (y4 : Int) (y5 : Int) (y6 : Int) (y7 : LA) (y8 : Int) (y9 : Int) (y10 : Int) (y11 : Int) (y12 : LA), mlp 72 Tryd.f72 K 3 (fun i_ => fun _ => none) k (fr72_3 y1 y2 y3 y4 y5 y6 y7 y8 y9 y10 y11 y12) = lp72_3 K k y1 y2 y3 y4 y5 y6 y7 y8 y9 y10 y11 y12
  | 0, _, _, _, _, _, _, _, _, _, _, _, _ => rfl
  | k + 1, y1, y2, y3, y4, y5, y6, y7, y8, y9, y10, y11, y12 => by
    rw [st72_3]
    have ih := lq72_3 K k
    have ih6 := lq72_6 K (fun fr_ => mlp 72 Tryd.f72 K 3 (fun i_ => fun _ => none) k fr_) K
    try simp only [ih, ih6]
    try rfl
theorem eq72 (K : Nat) (a0_0 : Int) (a0_1 : Int) (a0_2 : Int) (a0_3 : Int) (a0_4 : LA) (a1_0 : Int) (a1_1 : Int) (a1_2 : Int) (a1_3 : Int) (a1_4 : LA) (a2_0 : Int) (a2_1 : Int) (a2_2 : LA) : run tab (K + 1) 72 [.agg [I a0_0, I a0_1, I a0_2, I a0_3, .sl 97 a0_4], .agg [I a1_0, I a1_1, I a1_2, I a1_3, .sl 97 a1_4], .agg [I a2_0, I a2_1, .sl 3 a2_2]] = sh72 K a0_0 a0_1 a0_2 a0_3 a0_4 a1_0 a1_1 a1_2 a1_3 a1_4 a2_0 a2_1 a2_2 := by
  have h : run tab (K + 1) 72 [.agg [I a0_0, I a0_1, I a0_2, I a0_3, .sl 97 a0_4], .agg [I a1_0, I a1_1, I a1_2, I a1_3, .sl 97 a1_4], .agg [I a2_0, I a2_1, .sl 3 a2_2]] = tr72 K (fun y1 y2 y3 y4 y5 y6 y7 y8 y9 y10 y11 y12 => mlp 72 Tryd.f72 K 3 (fun i_ => fun _ => none) K (fr72_3 y1 y2 y3 y4 y5 y6 y7 y8 y9 y10 y11 y12)) a0_0 a0_1 a0_2 a0_3 a0_4 a1_0 a1_1 a1_2 a1_3 a1_4 a2_0 a2_1 a2_2 := by kernel_rfl
  rw [h]
  simp only [lq72_3]
  rfl

/-! ### examiner/examinerref37.Taken: function 77 -/
def tr77_3 (K : Nat) (q3 : Int → LA → LA → Int → Int → Int → Int → Int → LA → OA) (y1 : Int) (y2 : LA) (y3 : LA) (y4 : Int) (y5 : Int) (y6 : Int) (y7 : Int) (y8 : Int) (y9 : LA) : OA :=
  match decide (y4 < (y2.length : Int)) with | true => (if 0 ≤ y4 then (match y2[y4.toNat]? with | some x1100 => (castI .i64 x1100 fun n1101 => match run tab K 68 [.agg [I y5, I y6, I y7, I y8, .sl 97 y9], I y1, I n1101] with | some r1102 => (castI .i64 r1102 fun n1103 => match (n1103 == (-1 : Int)) with | true => (some (.sl 3 y3)) | false => (if (y3.length + ([I n1103] : LA).length) * 8 ≤ maxBytes then (if 0 ≤ n1103 then (match y9[n1103.toNat]? with | some x1104 => (castI .i64 (cellN x1104 3) fun n1105 => q3 n1105 y2 (y3 ++ ([I n1103] : LA)) (IntKind.i64.wrap (y4 + 1)) y5 y6 y7 y8 y9) | none => none) else none) else none)) | none => none) | none => none) else none) | false => (some (.sl 3 y3))
def tr77 (K : Nat) (q3 : Int → LA → LA → Int → Int → Int → Int → Int → LA → OA) (a0_0 : Int) (a0_1 : Int) (a0_2 : Int) (a0_3 : Int) (a0_4 : LA) (a1 : Int) (a2 : LA) : OA :=
  q3 a1 a2 ([] : LA) (0 : Int) a0_0 a0_1 a0_2 a0_3 a0_4
def lp77_3 (K : Nat) : Nat → Int → LA → LA → Int → Int → Int → Int → Int → LA → OA
  | 0, _, _, _, _, _, _, _, _, _ => none
  | k + 1, y1, y2, y3, y4, y5, y6, y7, y8, y9 => tr77_3 K (lp77_3 K k) y1 y2 y3 y4 y5 y6 y7 y8 y9
def sh77 (K : Nat) (a0_0 : Int) (a0_1 : Int) (a0_2 : Int) (a0_3 : Int) (a0_4 : LA) (a1 : Int) (a2 : LA) : OA := tr77 K (lp77_3 K K) a0_0 a0_1 a0_2 a0_3 a0_4 a1 a2
def fr77_3 (y1 : Int) (y2 : LA) (y3 : LA) (y4 : Int) (y5 : Int) (y6 : Int) (y7 : Int) (y8 : Int) (y9 : LA) : Fr := { slots := gap 1 ((I y1, .uni .ro) :: (.sl 3 y2, .uni .lent) :: (.undef, .loc 3 0) :: gap 3 ((.sl 3 y3, .uni .own) :: (I y4, .uni .ro) :: gap 28 [])), boxes := [(3, [(I y5, .ro), (I y6, .ro), (I y7, .ro), (I y8, .ro), (.sl 97 y9, .lent)])] }
theorem st77_3 (K : Nat) (k : Nat) (y1 : Int) (y2 : LA) (y3 : LA) (y4 : Int) (y5 : Int) (y6 : Int) (y7 : Int) (y8 : Int) (y9 : LA) : mlp 77 Tryd.f77 K 3 (fun i_ => fun _ => none) (k + 1) (fr77_3 y1 y2 y3 y4 y5 y6 y7 y8 y9) = tr77_3 K (fun y1 y2 y3 y4 y5 y6 y7 y8 y9 => mlp 77 Tryd.f77 K 3 (fun i_ => fun _ => none) k (fr77_3 y1 y2 y3 y4 y5 y6 y7 y8 y9)) y1 y2 y3 y4 y5 y6 y7 y8 y9 := by kernel_rfl
theorem lq77_3 (K : Nat) : ∀ (k : Nat) (y1 : Int) (y2 : LA) (y3 : LA) (y4 : Int) (y5 : Int) (y6 : Int) (y7 : Int) (y8 : Int) (y9 : LA), mlp 77 Tryd.f77 K 3 (fun i_ => fun _ => none) k (fr77_3 y1 y2 y3 y4 y5 y6 y7 y8 y9) = lp77_3 K k y1 y2 y3 y4 y5 y6 y7 y8 y9
  | 0, _, _, _, _, _, _, _, _, _ => rfl
  | k + 1, y1, y2, y3, y4, y5, y6, y7, y8, y9 => by
    rw [st77_3]
    have ih := lq77_3 K k
    try simp only [ih]
    try rfl
theorem eq77 (K : Nat) (a0_0 : Int) (a0_1 : Int) (a0_2 : Int) (a0_3 : Int) (a0_4 : LA) (a1 : Int) (a2 : LA) : run tab (K + 1) 77 [.agg [I a0_0, I a0_1, I a0_2, I a0_3, .sl 97 a0_4], I a1, .sl 3 a2] = sh77 K a0_0 a0_1 a0_2 a0_3 a0_4 a1 a2 := by
  have h : run tab (K + 1) 77 [.agg [I a0_0, I a0_1, I a0_2, I a0_3, .sl 97 a0_4], I a1, .sl 3 a2] = tr77 K (fun y1 y2 y3 y4 y5 y6 y7 y8 y9 => mlp 77 Tryd.f77 K 3 (fun i_ => fun _ => none) K (fr77_3 y1 y2 y3 y4 y5 y6 y7 y8 y9)) a0_0 a0_1 a0_2 a0_3 a0_4 a1 a2 := by kernel_rfl
  rw [h]
  simp only [lq77_3]
  rfl

/-! ### examiner/examinerbase.Count: function 81 -/
def tr81 (K : Nat) (a0 : Bool) : OA :=
  match a0 with | true => (some (I 1)) | false => (some (I 0))
def sh81 (K : Nat) (a0 : Bool) : OA := tr81 K a0
theorem eq81 (K : Nat) (a0 : Bool) : run tab (K + 1) 81 [B a0] = sh81 K a0 := by kernel_rfl

/-! ### examiner/model.move: function 82 -/
def tr82_7 (K : Nat) (q7 : LA → Int → Int → Int → Int → LA → Int → LA → LA → LA → Int → LA → Int → LA → Int → OA) (y1 : LA) (y2 : Int) (y3 : Int) (y4 : Int) (y5 : Int) (y6 : LA) (y7 : Int) (y8 : LA) (y9 : LA) (y10 : LA) (y11 : Int) (y12 : LA) (y13 : Int) (y14 : LA) (y15 : Int) : OA :=
  match decide (y3 < y2) with | true => (if 0 ≤ y3 then (match y1[y3.toNat]? with | some x1115 => (castI .i64 (cellN x1115 0) fun n1116 => castI .i64 (cellN x1115 1) fun n1117 => castI .i64 (cellN x1115 2) fun n1118 => castI .i64 (cellN x1115 3) fun n1119 => castI .i64 (cellN x1115 4) fun n1120 => castB (cellN x1115 5) fun b1121 => match run tab K 105 [.agg [I n1119, I n1120], .sl 3 y10, I y11] with | some r1122 => (castI .i64 r1122 fun n1123 => match b1121 with | true => (match run tab K 105 [.agg [I n1117, I n1118], .sl 3 y10, I y11] with | some r1124 => (castI .i64 r1124 fun n1125 => if 0 ≤ n1116 then (match y8[n1116.toNat]? with | some x1126 => (castI .i64 (cellN x1126 0) fun n1127 => castI .i64 (cellN x1126 1) fun n1128 => castI .i64 (cellN x1126 2) fun n1129 => match run tab K 57 [I (IntKind.i64.wrap ((IntKind.i64.wrap (-n1123)) + n1125)), I n1127, I n1128] with | some r1130 => (castB r1130 fun b1131 => match (!b1131) with | true => (some (.tup [.agg [.sl 3 [], I 0], B false])) | false => (if 0 ≤ (IntKind.i64.wrap (1 + n1116)) then (match y14[(IntKind.i64.wrap (1 + n1116)).toNat]? with | some x1132 => (if (IntKind.i64.wrap (1 + n1116)).toNat < y14.length then (q7 y1 y2 (IntKind.i64.wrap (y3 + 1)) y4 y5 y6 y7 y8 y9 y10 y11 y12 y13 (y14.set ((IntKind.i64.wrap (1 + n1116)).toNat) (I (IntKind.i64.wrap ((IntKind.i64.wrap (-n1123)) + n1125)) : AV)) y15) else none) | none => none) else none)) | none => none) | none => none) else none) | none => none) | false => (match run tab K 105 [.agg [I n1117, I n1118], .sl 3 y10, I y11] with | some r1133 => (castI .i64 r1133 fun n1134 => if 0 ≤ n1116 then (match y8[n1116.toNat]? with | some x1135 => (castI .i64 (cellN x1135 0) fun n1136 => castI .i64 (cellN x1135 1) fun n1137 => castI .i64 (cellN x1135 2) fun n1138 => match run tab K 57 [I (IntKind.i64.wrap (n1123 + n1134)), I n1136, I n1137] with | some r1139 => (castB r1139 fun b1140 => match (!b1140) with | true => (some (.tup [.agg [.sl 3 [], I 0], B false])) | false => (if 0 ≤ (IntKind.i64.wrap (1 + n1116)) then (match y14[(IntKind.i64.wrap (1 + n1116)).toNat]? with | some x1141 => (if (IntKind.i64.wrap (1 + n1116)).toNat < y14.length then (q7 y1 y2 (IntKind.i64.wrap (y3 + 1)) y4 y5 y6 y7 y8 y9 y10 y11 y12 y13 (y14.set ((IntKind.i64.wrap (1 + n1116)).toNat) (I (IntKind.i64.wrap (n1123 + n1134)) : AV)) y15) else none) | none => none) else none)) | none => none) | none => none) else none) | none => none)) | none => none) | none => none) else none) | false => (match run tab K 57 [I y15, I 0, I (IntKind.i64.wrap (y7 - 1))] with | some r1142 => (castB r1142 fun b1143 => some (.tup [.agg [.sl 3 y14, I y15], B b1143])) | none => none)
def tr82 (K : Nat) (q7 : LA → Int → Int → Int → Int → LA → Int → LA → LA → LA → Int → LA → Int → LA → Int → OA) (a0_0 : Int) (a0_1 : Int) (a0_2 : LA) (a0_3 : Int) (a0_4 : LA) (a0_5 : LA) (a1_0 : Int) (a1_1 : Int) (a1_2 : Int) (a1_3 : LA) (a1_4 : LA) (a1_5 : Int) (a1_6 : Int) (a2 : LA) (a3 : Int) : OA :=
  match a2[0]? with | some x1106 => (castI .i64 x1106 fun n1107 => match (a1_0 != n1107) with | true => (some (.tup [.agg [.sl 3 [], I 0], B false])) | false => (match run tab K 104 [.sl 141 a1_3, .fn 102 [.ref [.sl 3 a2], .ref [I a3]]] with | some r1108 => (castB r1108 fun b1109 => match b1109 with | true => (some (.tup [.agg [.sl 3 [], I 0], B false])) | false => (match run tab K 70 [.sl 3 a2] with | some r1110 => (castL 3 r1110 fun l1111 => match run tab K 105 [.agg [I a1_5, I a1_6], .sl 3 a2, I a3] with | some r1112 => (castI .i64 r1112 fun n1113 => match l1111[0]? with | some x1114 => (if 0 < l1111.length then (q7 a1_4 (a1_4.length : Int) (0 : Int) a0_0 a0_1 a0_2 a0_3 a0_4 a0_5 a2 a3 ([] : LA) (0 : Int) (l1111.set 0 (I a1_1 : AV)) n1113) else none) | none => none) | none => none) | none => none)) | none => none)) | none => none
def lp82_7 (K : Nat) : Nat → LA → Int → Int → Int → Int → LA → Int → LA → LA → LA → Int → LA → Int → LA → Int → OA
  | 0, _, _, _, _, _, _, _, _, _, _, _, _, _, _, _ => none
  | k + 1, y1, y2, y3, y4, y5, y6, y7, y8, y9, y10, y11, y12, y13, y14, y15 => tr82_7 K (lp82_7 K k) y1 y2 y3 y4 y5 y6 y7 y8 y9 y10 y11 y12 y13 y14 y15
def sh82 (K : Nat) (a0_0 : Int) (a0_1 : Int) (a0_2 : LA) (a0_3 : Int) (a0_4 : LA) (a0_5 : LA) (a1_0 : Int) (a1_1 : Int) (a1_2 : Int) (a1_3 : LA) (a1_4 : LA) (a1_5 : Int) (a1_6 : Int) (a2 : LA) (a3 : Int) : OA := tr82 K (lp82_7 K K) a0_0 a0_1 a0_2 a0_3 a0_4 a0_5 a1_0 a1_1 a1_2 a1_3 a1_4 a1_5 a1_6 a2 a3
def fr82_7 (y1 : LA) (y2 : Int) (y3 : Int) (y4 : Int) (y5 : Int) (y6 : LA) (y7 : Int) (y8 : LA) (y9 : LA) (y10 : LA) (y11 : Int) (y12 : LA) (y13 : Int) (y14 : LA) (y15 : Int) : Fr := { slots := gap 4 ((.undef, .loc 4 0) :: gap 1 ((.undef, .loc 6 0) :: (.undef, .loc 7 0) :: (.undef, .loc 8 0) :: gap 2 ((.undef, .loc 11 0) :: gap 32 ((.sl 139 y1, .uni .lent) :: (I y2, .uni .ro) :: (I y3, .uni .ro) :: gap 48 [])))), boxes := [(4, [(I y4, .ro), (I y5, .ro), (.sl 3 y6, .lent), (I y7, .ro), (.sl 105 y8, .lent), (.sl 103 y9, .lent)]), (6, [(.sl 3 y10, .lent)]), (7, [(I y11, .ro)]), (8, [(.sl 3 y12, .own), (I y13, .ro)]), (11, [(.sl 3 y14, .own), (I y15, .ro)])] }
theorem st82_7 (K : Nat) (k : Nat) (y1 : LA) (y2 : Int) (y3 : Int) (y4 : Int) (y5 : Int) (y6 : LA) (y7 : Int) (y8 : LA) (y9 : LA) (y10 : LA) (y11 : Int) (y12 : LA) (y13 : Int) (y14 : LA) (y15 : Int) : mlp 82 Tryd.f82 K 7 (fun i_ => fun _ => none) (k + 1) (fr82_7 y1 y2 y3 y4 y5 y6 y7 y8 y9 y10 y11 y12 y13 y14 y15) = tr82_7 K (fun y1 y2 y3 y4 y5 y6 y7 y8 y9 y10 y11 y12 y13 y14 y15 => mlp 82 Tryd.f82 K 7 (fun i_ => fun _ => none) k (fr82_7 y1 y2 y3 y4 y5 y6 y7 y8 y9 y10 y11 y12 y13 y14 y15)) y1 y2 y3 y4 y5 y6 y7 y8 y9 y10 y11 y12 y13 y14 y15 := by kernel_rfl
theorem lq82_7 (K : Nat) : ∀ (k : Nat) (y1 : LA) (y2 : Int) (y3 : Int) (y4 : Int) (y5 : Int) (y6 : LA) (y7 : Int) (y8 : LA) (y9 : LA) (y10 : LA) (y11 : Int) (y12 : LA) (y13 : Int) (y14 : LA) (y15 : Int), mlp 82 Tryd.f82 K 7 (fun i_ => fun _ => none) k (fr82_7 y1 y2 y3 y4 y5 y6 y7 y8 y9 y10 y11 y12 y13 y14 y15) = lp82_7 K k y1 y2 y3 y4 y5 y6 y7 y8 y9 y10 y11 y12 y13 y14 y15
  | 0, _, _, _, _, _, _, _, _, _, _, _, _, _, _, _ => rfl
  | k + 1, y1, y2, y3, y4, y5, y6, y7, y8, y9, y10, y11, y12, y13, y14, y15 => by
    rw [st82_7]
    have ih := lq82_7 K k
    try simp only [ih]
    try rfl
theorem eq82 (K : Nat) (a0_0 : Int) (a0_1 : Int) (a0_2 : LA) (a0_3 : Int) (a0_4 : LA) (a0_5 : LA) (a1_0 : Int) (a1_1 : Int) (a1_2 : Int) (a1_3 : LA) (a1_4 : LA) (a1_5 : Int) (a1_6 : Int) (a2 : LA) (a3 : Int) : run tab (K + 1) 82 [.agg [I a0_0, I a0_1, .sl 3 a0_2, I a0_3, .sl 105 a0_4, .sl 103 a0_5], .agg [I a1_0, I a1_1, I a1_2, .sl 141 a1_3, .sl 139 a1_4, I a1_5, I a1_6], .sl 3 a2, I a3] = sh82 K a0_0 a0_1 a0_2 a0_3 a0_4 a0_5 a1_0 a1_1 a1_2 a1_3 a1_4 a1_5 a1_6 a2 a3 := by
  have h : run tab (K + 1) 82 [.agg [I a0_0, I a0_1, .sl 3 a0_2, I a0_3, .sl 105 a0_4, .sl 103 a0_5], .agg [I a1_0, I a1_1, I a1_2, .sl 141 a1_3, .sl 139 a1_4, I a1_5, I a1_6], .sl 3 a2, I a3] = tr82 K (fun y1 y2 y3 y4 y5 y6 y7 y8 y9 y10 y11 y12 y13 y14 y15 => mlp 82 Tryd.f82 K 7 (fun i_ => fun _ => none) K (fr82_7 y1 y2 y3 y4 y5 y6 y7 y8 y9 y10 y11 y12 y13 y14 y15)) a0_0 a0_1 a0_2 a0_3 a0_4 a0_5 a1_0 a1_1 a1_2 a1_3 a1_4 a1_5 a1_6 a2 a3 := by kernel_rfl
  rw [h]
  simp only [lq82_7]
  rfl

/-! ### cmp.isNaN[int]: function 84 -/
def tr84 (K : Nat) (a0 : Int) : OA :=
  some (B (a0 != a0))
def sh84 (K : Nat) (a0 : Int) : OA := tr84 K a0
theorem eq84 (K : Nat) (a0 : Int) : run tab (K + 1) 84 [I a0] = sh84 K a0 := by kernel_rfl

/-! ### slices.ContainsFunc[[]examiner/api.ModelSet,examiner/api.ModelSet]: function 86 -/
def tr86 (K : Nat) (a0 : LA) (a1 : AV) : OA :=
  match run tab K 106 [.sl 139 a0, a1] with | some r1144 => (castI .i64 r1144 fun n1145 => some (B (decide (n1145 ≥ (0 : Int))))) | none => none
def sh86 (K : Nat) (a0 : LA) (a1 : AV) : OA := tr86 K a0 a1
theorem eq86 (K : Nat) (a0 : LA) (a1 : AV) : run tab (K + 1) 86 [.sl 139 a0, a1] = sh86 K a0 a1 := by kernel_rfl

/-! ### examiner/model.moveErr$1: function 87 -/
def tr87 (K : Nat) (a0_0 : Int) (a0_1 : Int) (a0_2 : Int) (a0_3 : Int) (a0_4 : Int) (a0_5 : Bool) (c0 : AV) : OA :=
  castRef c0 fun p1146 => castRef (.ref p1146) fun p1147 => castI .i64 (p1147.getD 0 .undef) fun n1148 => some (B (a0_0 == n1148))
def sh87 (K : Nat) (a0_0 : Int) (a0_1 : Int) (a0_2 : Int) (a0_3 : Int) (a0_4 : Int) (a0_5 : Bool) (c0 : AV) : OA := tr87 K a0_0 a0_1 a0_2 a0_3 a0_4 a0_5 c0
theorem eq87 (K : Nat) (a0_0 : Int) (a0_1 : Int) (a0_2 : Int) (a0_3 : Int) (a0_4 : Int) (a0_5 : Bool) (c0 : AV) : run tab (K + 1) 87 [.agg [I a0_0, I a0_1, I a0_2, I a0_3, I a0_4, B a0_5], c0] = sh87 K a0_0 a0_1 a0_2 a0_3 a0_4 a0_5 c0 := by kernel_rfl

/-! ### examiner/examinerref37.holds: function 88 -/
def tr88 (K : Nat) (a0_0 : Int) (a0_1 : Int) (a0_2 : Int) (a0_3 : Int) (a0_4 : Int) (a1 : LA) (a2 : Int) : OA :=
  match run tab K 89 [.agg [I a0_1, I a0_2], .sl 3 a1, I a2] with | some r1149 => (castI .i64 r1149 fun n1150 => match run tab K 89 [.agg [I a0_3, I a0_4], .sl 3 a1, I a2] with | some r1151 => (castI .i64 r1151 fun n1152 => match (a0_0 == (0 : Int)) with | true => (some (B (n1150 == n1152))) | false => (match (a0_0 == (1 : Int)) with | true => (some (B (n1150 != n1152))) | false => (match (a0_0 == (2 : Int)) with | true => (some (B (decide (n1150 < n1152)))) | false => (some (B (decide (n1150 ≤ n1152))))))) | none => none) | none => none
def sh88 (K : Nat) (a0_0 : Int) (a0_1 : Int) (a0_2 : Int) (a0_3 : Int) (a0_4 : Int) (a1 : LA) (a2 : Int) : OA := tr88 K a0_0 a0_1 a0_2 a0_3 a0_4 a1 a2
theorem eq88 (K : Nat) (a0_0 : Int) (a0_1 : Int) (a0_2 : Int) (a0_3 : Int) (a0_4 : Int) (a1 : LA) (a2 : Int) : run tab (K + 1) 88 [.agg [I a0_0, I a0_1, I a0_2, I a0_3, I a0_4], .sl 3 a1, I a2] = sh88 K a0_0 a0_1 a0_2 a0_3 a0_4 a1 a2 := by kernel_rfl

/-! ### examiner/examinerref37.value: function 89 -/
def tr89 (K : Nat) (a0_0 : Int) (a0_1 : Int) (a1 : LA) (a2 : Int) : OA :=
  match (a0_0 == (0 : Int)) with | true => (some (I a0_1)) | false => (match (a0_0 == (1 : Int)) with | true => (if 0 ≤ (IntKind.i64.wrap (a0_1 + 1)) then (match a1[(IntKind.i64.wrap (a0_1 + 1)).toNat]? with | some x1153 => (castI .i64 x1153 fun n1154 => some (I n1154)) | none => none) else none) | false => (some (I a2)))
def sh89 (K : Nat) (a0_0 : Int) (a0_1 : Int) (a1 : LA) (a2 : Int) : OA := tr89 K a0_0 a0_1 a1 a2
theorem eq89 (K : Nat) (a0_0 : Int) (a0_1 : Int) (a1 : LA) (a2 : Int) : run tab (K + 1) 89 [.agg [I a0_0, I a0_1], .sl 3 a1, I a2] = sh89 K a0_0 a0_1 a1 a2 := by kernel_rfl

/-! ### examiner/model.wordErr$1: function 90 -/
def tr90 (K : Nat) (a0 : Int) (c0 : AV) : OA :=
  castRef c0 fun p1155 => castI .i64 (p1155.getD 0 .undef) fun n1156 => match run tab K 57 [I a0, I 0, I (IntKind.i64.wrap (n1156 - 1))] with | some r1157 => (castB r1157 fun b1158 => some (B (!b1158))) | none => none
def sh90 (K : Nat) (a0 : Int) (c0 : AV) : OA := tr90 K a0 c0
theorem eq90 (K : Nat) (a0 : Int) (c0 : AV) : run tab (K + 1) 90 [I a0, c0] = sh90 K a0 c0 := by kernel_rfl

/-! ### slices.ContainsFunc[[]int,int]: function 91 -/
def tr91 (K : Nat) (a0 : LA) (a1 : AV) : OA :=
  match run tab K 107 [.sl 3 a0, a1] with | some r1159 => (castI .i64 r1159 fun n1160 => some (B (decide (n1160 ≥ (0 : Int))))) | none => none
def sh91 (K : Nat) (a0 : LA) (a1 : AV) : OA := tr91 K a0 a1
theorem eq91 (K : Nat) (a0 : LA) (a1 : AV) : run tab (K + 1) 91 [.sl 3 a0, a1] = sh91 K a0 a1 := by kernel_rfl

/-! ### slices.Index[[][2]int,[2]int]: function 92 -/
def tr92_2 (K : Nat) (q2 : LA → Int → Int → Int → Int → OA) (y1 : LA) (y2 : Int) (y3 : Int) (y4 : Int) (y5 : Int) : OA :=
  match decide (y3 < y2) with | true => (if 0 ≤ y3 then (match y1[y3.toNat]? with | some x1161 => (castI .i64 (cellN x1161 0) fun n1162 => castI .i64 (cellN x1161 1) fun n1163 => match ((y4 == n1162) && ((y5 == n1163) && true)) with | true => (some (I y3)) | false => (q2 y1 y2 (IntKind.i64.wrap (y3 + 1)) y4 y5)) | none => none) else none) | false => (some (I (-1)))
def tr92 (K : Nat) (q2 : LA → Int → Int → Int → Int → OA) (a0 : LA) (a1_0 : Int) (a1_1 : Int) : OA :=
  q2 a0 (a0.length : Int) (0 : Int) a1_0 a1_1
def lp92_2 (K : Nat) : Nat → LA → Int → Int → Int → Int → OA
  | 0, _, _, _, _, _ => none
  | k + 1, y1, y2, y3, y4, y5 => tr92_2 K (lp92_2 K k) y1 y2 y3 y4 y5
def sh92 (K : Nat) (a0 : LA) (a1_0 : Int) (a1_1 : Int) : OA := tr92 K (lp92_2 K K) a0 a1_0 a1_1
def fr92_2 (y1 : LA) (y2 : Int) (y3 : Int) (y4 : Int) (y5 : Int) : Fr := { slots := (.sl 52 y1, .uni .lent) :: gap 2 ((.undef, .loc 3 0) :: gap 3 ((I y2, .uni .ro) :: (I y3, .uni .ro) :: gap 10 [])), boxes := [(3, [(I y4, .ro), (I y5, .ro)])] }
theorem st92_2 (K : Nat) (k : Nat) (y1 : LA) (y2 : Int) (y3 : Int) (y4 : Int) (y5 : Int) : mlp 92 Tryd.f92 K 2 (fun i_ => fun _ => none) (k + 1) (fr92_2 y1 y2 y3 y4 y5) = tr92_2 K (fun y1 y2 y3 y4 y5 => mlp 92 Tryd.f92 K 2 (fun i_ => fun _ => none) k (fr92_2 y1 y2 y3 y4 y5)) y1 y2 y3 y4 y5 := by kernel_rfl
theorem lq92_2 (K : Nat) : ∀ (k : Nat) (y1 : LA) (y2 : Int) (y3 : Int) (y4 : Int) (y5 : Int), mlp 92 Tryd.f92 K 2 (fun i_ => fun _ => none) k (fr92_2 y1 y2 y3 y4 y5) = lp92_2 K k y1 y2 y3 y4 y5
  | 0, _, _, _, _, _ => rfl
  | k + 1, y1, y2, y3, y4, y5 => by
    rw [st92_2]
    have ih := lq92_2 K k
    try simp only [ih]
    try rfl
theorem eq92 (K : Nat) (a0 : LA) (a1_0 : Int) (a1_1 : Int) : run tab (K + 1) 92 [.sl 52 a0, .agg [I a1_0, I a1_1]] = sh92 K a0 a1_0 a1_1 := by
  have h : run tab (K + 1) 92 [.sl 52 a0, .agg [I a1_0, I a1_1]] = tr92 K (fun y1 y2 y3 y4 y5 => mlp 92 Tryd.f92 K 2 (fun i_ => fun _ => none) K (fr92_2 y1 y2 y3 y4 y5)) a0 a1_0 a1_1 := by kernel_rfl
  rw [h]
  simp only [lq92_2]
  rfl

/-! ### examiner/examinerref37.met: function 93 -/
def tr93_2 (K : Nat) (q2 : LA → Int → Int → Int → LA → OA) (y1 : LA) (y2 : Int) (y3 : Int) (y4 : Int) (y5 : LA) : OA :=
  match decide (y2 < (y1.length : Int)) with | true => (if 0 ≤ y2 then (match y1[y2.toNat]? with | some x1164 => (castI .i64 (cellN x1164 0) fun n1165 => match (n1165 == y3) with | true => (if 0 ≤ y2 then (match y1[y2.toNat]? with | some x1166 => (castI .i64 (cellN x1166 1) fun n1167 => match (n1167 == y4) with | true => (some (B true)) | false => (q2 y1 (IntKind.i64.wrap (y2 + 1)) y3 y4 y5)) | none => none) else none) | false => (q2 y1 (IntKind.i64.wrap (y2 + 1)) y3 y4 y5)) | none => none) else none) | false => (some (B false))
def tr93 (K : Nat) (q2 : LA → Int → Int → Int → LA → OA) (a0 : LA) (a1_0 : Int) (a1_1 : Int) (a1_2 : LA) : OA :=
  q2 a0 (0 : Int) a1_0 a1_1 a1_2
def lp93_2 (K : Nat) : Nat → LA → Int → Int → Int → LA → OA
  | 0, _, _, _, _, _ => none
  | k + 1, y1, y2, y3, y4, y5 => tr93_2 K (lp93_2 K k) y1 y2 y3 y4 y5
def sh93 (K : Nat) (a0 : LA) (a1_0 : Int) (a1_1 : Int) (a1_2 : LA) : OA := tr93 K (lp93_2 K K) a0 a1_0 a1_1 a1_2
def fr93_2 (y1 : LA) (y2 : Int) (y3 : Int) (y4 : Int) (y5 : LA) : Fr := { slots := (.sl 130 y1, .uni .lent) :: gap 2 ((.undef, .loc 3 0) :: gap 1 ((I y2, .uni .ro) :: gap 24 [])), boxes := [(3, [(I y3, .ro), (I y4, .ro), (.sl 3 y5, .lent)])] }
theorem st93_2 (K : Nat) (k : Nat) (y1 : LA) (y2 : Int) (y3 : Int) (y4 : Int) (y5 : LA) : mlp 93 Tryd.f93 K 2 (fun i_ => fun _ => none) (k + 1) (fr93_2 y1 y2 y3 y4 y5) = tr93_2 K (fun y1 y2 y3 y4 y5 => mlp 93 Tryd.f93 K 2 (fun i_ => fun _ => none) k (fr93_2 y1 y2 y3 y4 y5)) y1 y2 y3 y4 y5 := by kernel_rfl
theorem lq93_2 (K : Nat) : ∀ (k : Nat) (y1 : LA) (y2 : Int) (y3 : Int) (y4 : Int) (y5 : LA), mlp 93 Tryd.f93 K 2 (fun i_ => fun _ => none) k (fr93_2 y1 y2 y3 y4 y5) = lp93_2 K k y1 y2 y3 y4 y5
  | 0, _, _, _, _, _ => rfl
  | k + 1, y1, y2, y3, y4, y5 => by
    rw [st93_2]
    have ih := lq93_2 K k
    try simp only [ih]
    try rfl
theorem eq93 (K : Nat) (a0 : LA) (a1_0 : Int) (a1_1 : Int) (a1_2 : LA) : run tab (K + 1) 93 [.sl 130 a0, .agg [I a1_0, I a1_1, .sl 3 a1_2]] = sh93 K a0 a1_0 a1_1 a1_2 := by
  have h : run tab (K + 1) 93 [.sl 130 a0, .agg [I a1_0, I a1_1, .sl 3 a1_2]] = tr93 K (fun y1 y2 y3 y4 y5 => mlp 93 Tryd.f93 K 2 (fun i_ => fun _ => none) K (fr93_2 y1 y2 y3 y4 y5)) a0 a1_0 a1_1 a1_2 := by kernel_rfl
  rw [h]
  simp only [lq93_2]
  rfl

/-! ### examiner/model.move$1: function 102 -/
def tr102 (K : Nat) (a0_0 : Int) (a0_1 : Int) (a0_2 : Int) (a0_3 : Int) (a0_4 : Int) (c0 : AV) (c1 : AV) : OA :=
  castRef c0 fun p1168 => castL 3 (p1168.getD 0 .undef) fun l1169 => castRef c1 fun p1170 => castI .i64 (p1170.getD 0 .undef) fun n1171 => match run tab K 103 [.agg [I a0_0, I a0_1, I a0_2, I a0_3, I a0_4], .sl 3 l1169, I n1171] with | some r1172 => (castB r1172 fun b1173 => some (B (!b1173))) | none => none
def sh102 (K : Nat) (a0_0 : Int) (a0_1 : Int) (a0_2 : Int) (a0_3 : Int) (a0_4 : Int) (c0 : AV) (c1 : AV) : OA := tr102 K a0_0 a0_1 a0_2 a0_3 a0_4 c0 c1
theorem eq102 (K : Nat) (a0_0 : Int) (a0_1 : Int) (a0_2 : Int) (a0_3 : Int) (a0_4 : Int) (c0 : AV) (c1 : AV) : run tab (K + 1) 102 [.agg [I a0_0, I a0_1, I a0_2, I a0_3, I a0_4], c0, c1] = sh102 K a0_0 a0_1 a0_2 a0_3 a0_4 c0 c1 := by kernel_rfl

/-! ### examiner/model.holds: function 103 -/
def tr103 (K : Nat) (a0_0 : Int) (a0_1 : Int) (a0_2 : Int) (a0_3 : Int) (a0_4 : Int) (a1 : LA) (a2 : Int) : OA :=
  match run tab K 105 [.agg [I a0_1, I a0_2], .sl 3 a1, I a2] with | some r1174 => (castI .i64 r1174 fun n1175 => match run tab K 105 [.agg [I a0_3, I a0_4], .sl 3 a1, I a2] with | some r1176 => (castI .i64 r1176 fun n1177 => match (a0_0 == (0 : Int)) with | true => (some (B (n1175 == n1177))) | false => (match (a0_0 == (1 : Int)) with | true => (some (B (n1175 != n1177))) | false => (match (a0_0 == (2 : Int)) with | true => (some (B (decide (n1175 < n1177)))) | false => (some (B (decide (n1175 ≤ n1177))))))) | none => none) | none => none
def sh103 (K : Nat) (a0_0 : Int) (a0_1 : Int) (a0_2 : Int) (a0_3 : Int) (a0_4 : Int) (a1 : LA) (a2 : Int) : OA := tr103 K a0_0 a0_1 a0_2 a0_3 a0_4 a1 a2
theorem eq103 (K : Nat) (a0_0 : Int) (a0_1 : Int) (a0_2 : Int) (a0_3 : Int) (a0_4 : Int) (a1 : LA) (a2 : Int) : run tab (K + 1) 103 [.agg [I a0_0, I a0_1, I a0_2, I a0_3, I a0_4], .sl 3 a1, I a2] = sh103 K a0_0 a0_1 a0_2 a0_3 a0_4 a1 a2 := by kernel_rfl

/-! ### slices.ContainsFunc[[]examiner/api.ModelTest,examiner/api.ModelTest]: function 104 -/
def tr104 (K : Nat) (a0 : LA) (a1 : AV) : OA :=
  match run tab K 114 [.sl 141 a0, a1] with | some r1178 => (castI .i64 r1178 fun n1179 => some (B (decide (n1179 ≥ (0 : Int))))) | none => none
def sh104 (K : Nat) (a0 : LA) (a1 : AV) : OA := tr104 K a0 a1
theorem eq104 (K : Nat) (a0 : LA) (a1 : AV) : run tab (K + 1) 104 [.sl 141 a0, a1] = sh104 K a0 a1 := by kernel_rfl

/-! ### examiner/model.value: function 105 -/
def tr105 (K : Nat) (a0_0 : Int) (a0_1 : Int) (a1 : LA) (a2 : Int) : OA :=
  match (a0_0 == (1 : Int)) with | true => (if 0 ≤ (IntKind.i64.wrap (1 + a0_1)) then (match a1[(IntKind.i64.wrap (1 + a0_1)).toNat]? with | some x1180 => (castI .i64 x1180 fun n1181 => some (I n1181)) | none => none) else none) | false => (match (a0_0 == (2 : Int)) with | true => (some (I a2)) | false => (some (I a0_1)))
def sh105 (K : Nat) (a0_0 : Int) (a0_1 : Int) (a1 : LA) (a2 : Int) : OA := tr105 K a0_0 a0_1 a1 a2
theorem eq105 (K : Nat) (a0_0 : Int) (a0_1 : Int) (a1 : LA) (a2 : Int) : run tab (K + 1) 105 [.agg [I a0_0, I a0_1], .sl 3 a1, I a2] = sh105 K a0_0 a0_1 a1 a2 := by kernel_rfl

/-! ### slices.IndexFunc[[]examiner/api.ModelSet,examiner/api.ModelSet]: function 106 -/
def tr106_2 (K : Nat) (q2 : LA → AV → Int → Int → OA) (y1 : LA) (y2 : AV) (y3 : Int) (y4 : Int) : OA :=
  match decide (y4 < y3) with | true => (if 0 ≤ y4 then (match y1[y4.toNat]? with | some x1182 => (castI .i64 (cellN x1182 0) fun n1183 => castI .i64 (cellN x1182 1) fun n1184 => castI .i64 (cellN x1182 2) fun n1185 => castI .i64 (cellN x1182 3) fun n1186 => castI .i64 (cellN x1182 4) fun n1187 => castB (cellN x1182 5) fun b1188 => castFn y2 fun g1189 c1190 => match run tab K g1189 ([.agg [I n1183, I n1184, I n1185, I n1186, I n1187, B b1188]] ++ c1190) with | some r1191 => (castB r1191 fun b1192 => match b1192 with | true => (some (I y4)) | false => (q2 y1 y2 y3 (IntKind.i64.wrap (y4 + 1)))) | none => none) | none => none) else none) | false => (some (I (-1)))
def tr106 (K : Nat) (q2 : LA → AV → Int → Int → OA) (a0 : LA) (a1 : AV) : OA :=
  q2 a0 a1 (a0.length : Int) (0 : Int)
def lp106_2 (K : Nat) : Nat → LA → AV → Int → Int → OA
  | 0, _, _, _, _ => none
  | k + 1, y1, y2, y3, y4 => tr106_2 K (lp106_2 K k) y1 y2 y3 y4
def sh106 (K : Nat) (a0 : LA) (a1 : AV) : OA := tr106 K (lp106_2 K K) a0 a1
def fr106_2 (y1 : LA) (y2 : AV) (y3 : Int) (y4 : Int) : Fr := { slots := (.sl 139 y1, .uni .lent) :: (y2, .uni .lent) :: gap 5 ((I y3, .uni .ro) :: (I y4, .uni .ro) :: gap 10 []), boxes := [] }
theorem st106_2 (K : Nat) (k : Nat) (y1 : LA) (y2 : AV) (y3 : Int) (y4 : Int) : mlp 106 Tryd.f106 K 2 (fun i_ => fun _ => none) (k + 1) (fr106_2 y1 y2 y3 y4) = tr106_2 K (fun y1 y2 y3 y4 => mlp 106 Tryd.f106 K 2 (fun i_ => fun _ => none) k (fr106_2 y1 y2 y3 y4)) y1 y2 y3 y4 := by kernel_rfl
theorem lq106_2 (K : Nat) : ∀ (k : Nat) (y1 : LA) (y2 : AV) (y3 : Int) (y4 : Int), mlp 106 Tryd.f106 K 2 (fun i_ => fun _ => none) k (fr106_2 y1 y2 y3 y4) = lp106_2 K k y1 y2 y3 y4
  | 0, _, _, _, _ => rfl
  | k + 1, y1, y2, y3, y4 => by
    rw [st106_2]
    have ih := lq106_2 K k
    try simp only [ih]
    try rfl
theorem eq106 (K : Nat) (a0 : LA) (a1 : AV) : run tab (K + 1) 106 [.sl 139 a0, a1] = sh106 K a0 a1 := by
  have h : run tab (K + 1) 106 [.sl 139 a0, a1] = tr106 K (fun y1 y2 y3 y4 => mlp 106 Tryd.f106 K 2 (fun i_ => fun _ => none) K (fr106_2 y1 y2 y3 y4)) a0 a1 := by kernel_rfl
  rw [h]
  simp only [lq106_2]
  rfl

/-! ### slices.IndexFunc[[]int,int]: function 107 -/
def tr107_2 (K : Nat) (q2 : LA → AV → Int → Int → OA) (y1 : LA) (y2 : AV) (y3 : Int) (y4 : Int) : OA :=
  match decide (y4 < y3) with | true => (if 0 ≤ y4 then (match y1[y4.toNat]? with | some x1193 => (castI .i64 x1193 fun n1194 => castFn y2 fun g1195 c1196 => match run tab K g1195 ([I n1194] ++ c1196) with | some r1197 => (castB r1197 fun b1198 => match b1198 with | true => (some (I y4)) | false => (q2 y1 y2 y3 (IntKind.i64.wrap (y4 + 1)))) | none => none) | none => none) else none) | false => (some (I (-1)))
def tr107 (K : Nat) (q2 : LA → AV → Int → Int → OA) (a0 : LA) (a1 : AV) : OA :=
  q2 a0 a1 (a0.length : Int) (0 : Int)
def lp107_2 (K : Nat) : Nat → LA → AV → Int → Int → OA
  | 0, _, _, _, _ => none
  | k + 1, y1, y2, y3, y4 => tr107_2 K (lp107_2 K k) y1 y2 y3 y4
def sh107 (K : Nat) (a0 : LA) (a1 : AV) : OA := tr107 K (lp107_2 K K) a0 a1
def fr107_2 (y1 : LA) (y2 : AV) (y3 : Int) (y4 : Int) : Fr := { slots := (.sl 3 y1, .uni .lent) :: (y2, .uni .lent) :: gap 5 ((I y3, .uni .ro) :: (I y4, .uni .ro) :: gap 10 []), boxes := [] }
theorem st107_2 (K : Nat) (k : Nat) (y1 : LA) (y2 : AV) (y3 : Int) (y4 : Int) : mlp 107 Tryd.f107 K 2 (fun i_ => fun _ => none) (k + 1) (fr107_2 y1 y2 y3 y4) = tr107_2 K (fun y1 y2 y3 y4 => mlp 107 Tryd.f107 K 2 (fun i_ => fun _ => none) k (fr107_2 y1 y2 y3 y4)) y1 y2 y3 y4 := by kernel_rfl
theorem lq107_2 (K : Nat) : ∀ (k : Nat) (y1 : LA) (y2 : AV) (y3 : Int) (y4 : Int), mlp 107 Tryd.f107 K 2 (fun i_ => fun _ => none) k (fr107_2 y1 y2 y3 y4) = lp107_2 K k y1 y2 y3 y4
  | 0, _, _, _, _ => rfl
  | k + 1, y1, y2, y3, y4 => by
    rw [st107_2]
    have ih := lq107_2 K k
    try simp only [ih]
    try rfl
theorem eq107 (K : Nat) (a0 : LA) (a1 : AV) : run tab (K + 1) 107 [.sl 3 a0, a1] = sh107 K a0 a1 := by
  have h : run tab (K + 1) 107 [.sl 3 a0, a1] = tr107 K (fun y1 y2 y3 y4 => mlp 107 Tryd.f107 K 2 (fun i_ => fun _ => none) K (fr107_2 y1 y2 y3 y4)) a0 a1 := by kernel_rfl
  rw [h]
  simp only [lq107_2]
  rfl

/-! ### slices.IndexFunc[[]examiner/api.ModelTest,examiner/api.ModelTest]: function 114 -/
def tr114_2 (K : Nat) (q2 : LA → AV → Int → Int → OA) (y1 : LA) (y2 : AV) (y3 : Int) (y4 : Int) : OA :=
  match decide (y4 < y3) with | true => (if 0 ≤ y4 then (match y1[y4.toNat]? with | some x1199 => (castI .i64 (cellN x1199 0) fun n1200 => castI .i64 (cellN x1199 1) fun n1201 => castI .i64 (cellN x1199 2) fun n1202 => castI .i64 (cellN x1199 3) fun n1203 => castI .i64 (cellN x1199 4) fun n1204 => castFn y2 fun g1205 c1206 => match run tab K g1205 ([.agg [I n1200, I n1201, I n1202, I n1203, I n1204]] ++ c1206) with | some r1207 => (castB r1207 fun b1208 => match b1208 with | true => (some (I y4)) | false => (q2 y1 y2 y3 (IntKind.i64.wrap (y4 + 1)))) | none => none) | none => none) else none) | false => (some (I (-1)))
def tr114 (K : Nat) (q2 : LA → AV → Int → Int → OA) (a0 : LA) (a1 : AV) : OA :=
  q2 a0 a1 (a0.length : Int) (0 : Int)
def lp114_2 (K : Nat) : Nat → LA → AV → Int → Int → OA
  | 0, _, _, _, _ => none
  | k + 1, y1, y2, y3, y4 => tr114_2 K (lp114_2 K k) y1 y2 y3 y4
def sh114 (K : Nat) (a0 : LA) (a1 : AV) : OA := tr114 K (lp114_2 K K) a0 a1
def fr114_2 (y1 : LA) (y2 : AV) (y3 : Int) (y4 : Int) : Fr := { slots := (.sl 141 y1, .uni .lent) :: (y2, .uni .lent) :: gap 5 ((I y3, .uni .ro) :: (I y4, .uni .ro) :: gap 10 []), boxes := [] }
theorem st114_2 (K : Nat) (k : Nat) (y1 : LA) (y2 : AV) (y3 : Int) (y4 : Int) : mlp 114 Tryd.f114 K 2 (fun i_ => fun _ => none) (k + 1) (fr114_2 y1 y2 y3 y4) = tr114_2 K (fun y1 y2 y3 y4 => mlp 114 Tryd.f114 K 2 (fun i_ => fun _ => none) k (fr114_2 y1 y2 y3 y4)) y1 y2 y3 y4 := by kernel_rfl
theorem lq114_2 (K : Nat) : ∀ (k : Nat) (y1 : LA) (y2 : AV) (y3 : Int) (y4 : Int), mlp 114 Tryd.f114 K 2 (fun i_ => fun _ => none) k (fr114_2 y1 y2 y3 y4) = lp114_2 K k y1 y2 y3 y4
  | 0, _, _, _, _ => rfl
  | k + 1, y1, y2, y3, y4 => by
    rw [st114_2]
    have ih := lq114_2 K k
    try simp only [ih]
    try rfl
theorem eq114 (K : Nat) (a0 : LA) (a1 : AV) : run tab (K + 1) 114 [.sl 141 a0, a1] = sh114 K a0 a1 := by
  have h : run tab (K + 1) 114 [.sl 141 a0, a1] = tr114 K (fun y1 y2 y3 y4 => mlp 114 Tryd.f114 K 2 (fun i_ => fun _ => none) K (fr114_2 y1 y2 y3 y4)) a0 a1 := by kernel_rfl
  rw [h]
  simp only [lq114_2]
  rfl

end
end Go.Proofs.YtahifpeggdcamaaDoor
