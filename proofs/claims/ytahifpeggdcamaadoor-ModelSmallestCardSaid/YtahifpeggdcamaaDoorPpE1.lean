/- A part of an interpreter of the model's code that is proved sound, and of laws told by it: DamG1. -/
import Derived.Test.YtahifpeggdcamaaDoorPpD1
import Derived.KernelRfl
set_option linter.unusedVariables false
set_option linter.unusedSimpArgs false
namespace Go.Proofs.YtahifpeggdcamaaDoor
open Go.Dam
set_option linter.unusedVariables false
set_option maxRecDepth 100000
noncomputable section
abbrev LA := List AV
abbrev OA := Option AV
abbrev gap (n : Nat) (l : List (AV × Md)) : List (AV × Md) := Nat.rec l (fun _ r => none1 :: r) n
def mlp (f : Nat) (fn : Func) (K j : Nat) (outs : Nat → Fr → OA) : Nat → Fr → OA := loopN (atLoop tab (run tab K) f K j outs (bodyOf fn) (doneK tab (tab.roF f) fn) (fun _ _ => none) (doneK tab (tab.roF f) fn)) (tab.keep f j)
abbrev I (n : Int) : AV := .sc (.int .i64 n)
abbrev B (b : Bool) : AV := .sc (.bool b)
def tr57 (K : Nat) (a0 : Int) (a1 : Int) (a2 : Int) : OA :=
  match decide (a1 ≤ a0) with | true => (some (B (decide (a0 ≤ a2)))) | false => (some (B false))
def sh57 (K : Nat) (a0 : Int) (a1 : Int) (a2 : Int) : OA := tr57 K a0 a1 a2
theorem eq57 (K : Nat) (a0 : Int) (a1 : Int) (a2 : Int) : run tab (K + 1) 57 [I a0, I a1, I a2] = sh57 K a0 a1 a2 := by kernel_rfl

def tr62 (K : Nat) (a0 : Bool) (a1 : Int) : OA :=
  match a0 with | true => (some (I 0)) | false => (some (I a1))
def sh62 (K : Nat) (a0 : Bool) (a1 : Int) : OA := tr62 K a0 a1
theorem eq62 (K : Nat) (a0 : Bool) (a1 : Int) : run tab (K + 1) 62 [B a0, I a1] = sh62 K a0 a1 := by kernel_rfl

def tr61_3 (K : Nat) (q3 : Int → LA → Int → Int → OA) (y1 : Int) (y2 : LA) (y3 : Int) (y4 : Int) : OA :=
  match decide (y4 < y3) with | true => (if 0 ≤ y4 then (match y2[y4.toNat]? with | some x1 => (castI .i64 x1 fun n2 => match (n2 != y1) with | true => (some (I n2)) | false => (q3 y1 y2 y3 (IntKind.i64.wrap (y4 + 1)))) | none => none) else none) | false => (some (I y1))
def tr61 (K : Nat) (q3 : Int → LA → Int → Int → OA) (a0 : LA) : OA :=
  q3 (0 : Int) a0 (a0.length : Int) (0 : Int)
def lp61_3 (K : Nat) : Nat → Int → LA → Int → Int → OA
  | 0, _, _, _, _ => none
  | k + 1, y1, y2, y3, y4 => tr61_3 K (lp61_3 K k) y1 y2 y3 y4
def sh61 (K : Nat) (a0 : LA) : OA := tr61 K (lp61_3 K K) a0
def fr61_3 (y1 : Int) (y2 : LA) (y3 : Int) (y4 : Int) : Fr := { slots := gap 3 ((I y1, .uni .ro) :: gap 2 ((.sl 32 y2, .uni .lent) :: (I y3, .uni .ro) :: (I y4, .uni .ro) :: gap 9 [])), boxes := [] }
theorem st61_3 (K : Nat) (k : Nat) (y1 : Int) (y2 : LA) (y3 : Int) (y4 : Int) : mlp 61 Tryd.f61 K 3 (fun i_ => fun _ => none) (k + 1) (fr61_3 y1 y2 y3 y4) = tr61_3 K (fun y1 y2 y3 y4 => mlp 61 Tryd.f61 K 3 (fun i_ => fun _ => none) k (fr61_3 y1 y2 y3 y4)) y1 y2 y3 y4 := by kernel_rfl
theorem lq61_3 (K : Nat) : ∀ (k : Nat) (y1 : Int) (y2 : LA) (y3 : Int) (y4 : Int), mlp 61 Tryd.f61 K 3 (fun i_ => fun _ => none) k (fr61_3 y1 y2 y3 y4) = lp61_3 K k y1 y2 y3 y4
  | 0, _, _, _, _ => rfl
  | k + 1, y1, y2, y3, y4 => by
    rw [st61_3]
    have ih := lq61_3 K k
    try simp only [ih]
    try rfl
theorem eq61 (K : Nat) (a0 : LA) : run tab (K + 1) 61 [.sl 32 a0] = sh61 K a0 := by
  have h : run tab (K + 1) 61 [.sl 32 a0] = tr61 K (fun y1 y2 y3 y4 => mlp 61 Tryd.f61 K 3 (fun i_ => fun _ => none) K (fr61_3 y1 y2 y3 y4)) a0 := by kernel_rfl
  rw [h]
  simp only [lq61_3]
  rfl

def tr58_3 (K : Nat) (q3 : Int → LA → Int → Int → OA) (y1 : Int) (y2 : LA) (y3 : Int) (y4 : Int) : OA :=
  match decide (y4 < y3) with | true => (if 0 ≤ y4 then (match y2[y4.toNat]? with | some x3 => (castI .i64 x3 fun n4 => match (n4 != y1) with | true => (some (I n4)) | false => (q3 y1 y2 y3 (IntKind.i64.wrap (y4 + 1)))) | none => none) else none) | false => (some (I y1))
def tr58 (K : Nat) (q3 : Int → LA → Int → Int → OA) (a0 : LA) : OA :=
  q3 (0 : Int) a0 (a0.length : Int) (0 : Int)
def lp58_3 (K : Nat) : Nat → Int → LA → Int → Int → OA
  | 0, _, _, _, _ => none
  | k + 1, y1, y2, y3, y4 => tr58_3 K (lp58_3 K k) y1 y2 y3 y4
def sh58 (K : Nat) (a0 : LA) : OA := tr58 K (lp58_3 K K) a0
def fr58_3 (y1 : Int) (y2 : LA) (y3 : Int) (y4 : Int) : Fr := { slots := gap 3 ((I y1, .uni .ro) :: gap 2 ((.sl 3 y2, .uni .lent) :: (I y3, .uni .ro) :: (I y4, .uni .ro) :: gap 9 [])), boxes := [] }
theorem st58_3 (K : Nat) (k : Nat) (y1 : Int) (y2 : LA) (y3 : Int) (y4 : Int) : mlp 58 Tryd.f58 K 3 (fun i_ => fun _ => none) (k + 1) (fr58_3 y1 y2 y3 y4) = tr58_3 K (fun y1 y2 y3 y4 => mlp 58 Tryd.f58 K 3 (fun i_ => fun _ => none) k (fr58_3 y1 y2 y3 y4)) y1 y2 y3 y4 := by kernel_rfl
theorem lq58_3 (K : Nat) : ∀ (k : Nat) (y1 : Int) (y2 : LA) (y3 : Int) (y4 : Int), mlp 58 Tryd.f58 K 3 (fun i_ => fun _ => none) k (fr58_3 y1 y2 y3 y4) = lp58_3 K k y1 y2 y3 y4
  | 0, _, _, _, _ => rfl
  | k + 1, y1, y2, y3, y4 => by
    rw [st58_3]
    have ih := lq58_3 K k
    try simp only [ih]
    try rfl
theorem eq58 (K : Nat) (a0 : LA) : run tab (K + 1) 58 [.sl 3 a0] = sh58 K a0 := by
  have h : run tab (K + 1) 58 [.sl 3 a0] = tr58 K (fun y1 y2 y3 y4 => mlp 58 Tryd.f58 K 3 (fun i_ => fun _ => none) K (fr58_3 y1 y2 y3 y4)) a0 := by kernel_rfl
  rw [h]
  simp only [lq58_3]
  rfl

def tr59 (K : Nat) (a0 : Int) (a1 : Int) : OA :=
  match run tab K 84 [I a0] with | some r5 => (castB r5 fun b6 => match run tab K 84 [I a1] with | some r7 => (castB r7 fun b8 => match b6 with | true => (match b8 with | true => (some (I 0)) | false => (some (I (-1)))) | false => (match b8 with | true => (some (I 1)) | false => (match decide (a0 < a1) with | true => (some (I (-1))) | false => (match decide (a0 > a1) with | true => (some (I 1)) | false => (some (I 0)))))) | none => none) | none => none
def sh59 (K : Nat) (a0 : Int) (a1 : Int) : OA := tr59 K a0 a1
theorem eq59 (K : Nat) (a0 : Int) (a1 : Int) : run tab (K + 1) 59 [I a0, I a1] = sh59 K a0 a1 := by kernel_rfl

def tr48_6 (K : Nat) (q3 : LA → LA → Int → Int → OA) (q6 : LA → Int → LA → Int → Int → Int → Int → OA) (y1 : LA) (y2 : Int) (y3 : LA) (y4 : Int) (y5 : Int) (y6 : Int) (y7 : Int) : OA :=
  match decide (y7 < y6) with | true => (if (y1.length + ([.agg [I y2, I y7]] : LA).length) * 16 ≤ maxBytes then (q6 (y1 ++ ([.agg [I y2, I y7]] : LA)) y2 y3 y4 y5 y6 (IntKind.i64.wrap (y7 + 1))) else none) | false => (q3 y1 y3 y4 (IntKind.i64.wrap (y5 + 1)))
def tr48_3 (K : Nat) (q6 : LA → Int → LA → Int → Int → Int → Int → OA) (y1 : LA) (y2 : LA) (y3 : Int) (y4 : Int) : OA :=
  match decide (y4 < y3) with | true => (if 0 ≤ y4 then (match y2[y4.toNat]? with | some x31 => (castI .i64 x31 fun n32 => q6 y1 y4 y2 y3 y4 n32 (0 : Int)) | none => none) else none) | false => (some (.sl 52 y1))
def lp48_6 (K : Nat) (q3 : LA → LA → Int → Int → OA) : Nat → LA → Int → LA → Int → Int → Int → Int → OA
  | 0, _, _, _, _, _, _, _ => none
  | k + 1, y1, y2, y3, y4, y5, y6, y7 => tr48_6 K q3 (lp48_6 K q3 k) y1 y2 y3 y4 y5 y6 y7
def lp48_3 (K : Nat) : Nat → LA → LA → Int → Int → OA
  | 0, _, _, _, _ => none
  | k + 1, y1, y2, y3, y4 => tr48_3 K (lp48_6 K (lp48_3 K k) K) y1 y2 y3 y4
def tr31_4 (K : Nat) (q4 : LA → LA → Int → OA) (y1 : LA) (y2 : LA) (y3 : Int) : OA :=
  match decide (y3 < (y1.length : Int)) with | true => (if 0 ≤ y3 then (match y1[y3.toNat]? with | some x35 => (castI .i64 x35 fun n36 => if 0 ≤ y3 then (match y2[y3.toNat]? with | some x37 => (castI .i64 x37 fun n38 => match (n36 != n38) with | true => (some (B false)) | false => (q4 y1 y2 (IntKind.i64.wrap (y3 + 1)))) | none => none) else none) | none => none) else none) | false => (some (B true))
def tr31 (K : Nat) (q4 : LA → LA → Int → OA) (a0 : LA) (a1 : LA) : OA :=
  match ((a0.length : Int) != (a1.length : Int)) with | true => (some (B false)) | false => (q4 a0 a1 (0 : Int))
def lp31_4 (K : Nat) : Nat → LA → LA → Int → OA
  | 0, _, _, _ => none
  | k + 1, y1, y2, y3 => tr31_4 K (lp31_4 K k) y1 y2 y3
def sh31 (K : Nat) (a0 : LA) (a1 : LA) : OA := tr31 K (lp31_4 K K) a0 a1
def fr31_4 (y1 : LA) (y2 : LA) (y3 : Int) : Fr := { slots := (.sl 3 y1, .uni .lent) :: (.sl 3 y2, .uni .lent) :: gap 3 ((I y3, .uni .ro) :: gap 20 []), boxes := [] }
theorem st31_4 (K : Nat) (k : Nat) (y1 : LA) (y2 : LA) (y3 : Int) : mlp 31 Tryd.f31 K 4 (fun i_ => fun _ => none) (k + 1) (fr31_4 y1 y2 y3) = tr31_4 K (fun y1 y2 y3 => mlp 31 Tryd.f31 K 4 (fun i_ => fun _ => none) k (fr31_4 y1 y2 y3)) y1 y2 y3 := by kernel_rfl
theorem lq31_4 (K : Nat) : ∀ (k : Nat) (y1 : LA) (y2 : LA) (y3 : Int), mlp 31 Tryd.f31 K 4 (fun i_ => fun _ => none) k (fr31_4 y1 y2 y3) = lp31_4 K k y1 y2 y3
  | 0, _, _, _ => rfl
  | k + 1, y1, y2, y3 => by
    rw [st31_4]
    have ih := lq31_4 K k
    try simp only [ih]
    try rfl
theorem eq31 (K : Nat) (a0 : LA) (a1 : LA) : run tab (K + 1) 31 [.sl 3 a0, .sl 3 a1] = sh31 K a0 a1 := by
  have h : run tab (K + 1) 31 [.sl 3 a0, .sl 3 a1] = tr31 K (fun y1 y2 y3 => mlp 31 Tryd.f31 K 4 (fun i_ => fun _ => none) K (fr31_4 y1 y2 y3)) a0 a1 := by kernel_rfl
  rw [h]
  simp only [lq31_4]
  rfl

def tr12_18 (K : Nat) (q15 : Int → Int → Int → Int → Int → LA → Int → Int → Int → Int → LA → Int → Int → Int → Int → LA → OA) (q18 : Int → Int → Int → Int → Int → Int → LA → Int → Int → Int → Int → LA → Int → Int → Int → Int → LA → OA) (y1 : Int) (y2 : Int) (y3 : Int) (y4 : Int) (y5 : Int) (y6 : Int) (y7 : LA) (y8 : Int) (y9 : Int) (y10 : Int) (y11 : Int) (y12 : LA) (y13 : Int) (y14 : Int) (y15 : Int) (y16 : Int) (y17 : LA) : OA :=
  match decide (y2 < y1) with | true => (match run tab K 21 [.agg [I y13, I y14, I y15, I y16, .sl 97 y17]] with | some r574 => (castI .i64 (cellN r574 0) fun n575 => castI .i64 (cellN r574 1) fun n576 => castI .i64 (cellN r574 2) fun n577 => castI .i64 (cellN r574 3) fun n578 => castL 97 (cellN r574 4) fun l579 => match run tab K 21 [.agg [I y13, I y14, I y15, I y16, .sl 97 y17]] with | some r580 => (castI .i64 (cellN r580 0) fun n581 => castI .i64 (cellN r580 1) fun n582 => castI .i64 (cellN r580 2) fun n583 => castI .i64 (cellN r580 3) fun n584 => castL 97 (cellN r580 4) fun l585 => match run tab K 38 [.agg [I n575, I n576, I n577, I y1, .sl 97 l579], .agg [I n581, I n582, I n583, I y2, .sl 97 l585]] with | some r586 => (castL 3 (compN r586 0) fun l587 => castI .i64 (compN r586 1) fun n588 => match (n588 != (0 : Int)) with | true => (some (B false)) | false => (match run tab K 36 [.sl 3 l587, I y14, I 60] with | some r589 => (castI .i64 r589 fun n590 => match (n590 != (0 : Int)) with | true => (some (B false)) | false => (match run tab K 43 [.agg [I y13, I y14, I y15, I y16, .sl 97 y17], I y1, .sl 3 l587] with | some r591 => (castL 3 (compN r591 0) fun l592 => castL 3 (compN r591 1) fun l593 => match run tab K 43 [.agg [I y13, I y14, I y15, I y16, .sl 97 y17], I y2, .sl 3 l587] with | some r594 => (castL 3 (compN r594 0) fun l595 => castL 3 (compN r594 1) fun l596 => match run tab K 31 [.sl 3 l592, .sl 3 l595] with | some r597 => (castB r597 fun b598 => match b598 with | true => (some (B false)) | false => (q18 y1 (IntKind.i64.wrap (y2 + 1)) y3 y4 y5 y6 y7 y8 y9 y10 y11 y12 y13 y14 y15 y16 y17)) | none => none) | none => none) | none => none)) | none => none)) | none => none) | none => none) | none => none) | false => (q15 (IntKind.i64.wrap (y1 + 1)) y3 y4 y5 y6 y7 y8 y9 y10 y11 y12 y13 y14 y15 y16 y17)
def tr12_15 (K : Nat) (q18 : Int → Int → Int → Int → Int → Int → LA → Int → Int → Int → Int → LA → Int → Int → Int → Int → LA → OA) (y1 : Int) (y2 : Int) (y3 : Int) (y4 : Int) (y5 : Int) (y6 : LA) (y7 : Int) (y8 : Int) (y9 : Int) (y10 : Int) (y11 : LA) (y12 : Int) (y13 : Int) (y14 : Int) (y15 : Int) (y16 : LA) : OA :=
  match decide (y1 < y12) with | true => (q18 y1 (0 : Int) y2 y3 y4 y5 y6 y7 y8 y9 y10 y11 y12 y13 y14 y15 y16) | false => (match run tab K 21 [.agg [I y2, I y3, I y4, I y5, .sl 97 y6]] with | some r599 => (castI .i64 (cellN r599 0) fun n600 => castI .i64 (cellN r599 1) fun n601 => castI .i64 (cellN r599 2) fun n602 => castI .i64 (cellN r599 3) fun n603 => castL 97 (cellN r599 4) fun l604 => match run tab K 21 [.agg [I y7, I y8, I y9, I y10, .sl 97 y11]] with | some r605 => (castI .i64 (cellN r605 0) fun n606 => castI .i64 (cellN r605 1) fun n607 => castI .i64 (cellN r605 2) fun n608 => castI .i64 (cellN r605 3) fun n609 => castL 97 (cellN r605 4) fun l610 => match run tab K 38 [.agg [I n600, I n601, I n602, I n603, .sl 97 l604], .agg [I n606, I n607, I n608, I n609, .sl 97 l610]] with | some r611 => (castL 3 (compN r611 0) fun l612 => castI .i64 (compN r611 1) fun n613 => match (n613 != (23 : Int)) with | true => (some (B (n613 == (0 : Int)))) | false => (match run tab K 21 [.agg [I y7, I y8, I y9, I y10, .sl 97 y11]] with | some r614 => (castI .i64 (cellN r614 0) fun n615 => castI .i64 (cellN r614 1) fun n616 => castI .i64 (cellN r614 2) fun n617 => castI .i64 (cellN r614 3) fun n618 => castL 97 (cellN r614 4) fun l619 => match run tab K 41 [.agg [I n615, I n616, I n617, I n618, .sl 97 l619]] with | some r620 => (castI .i64 (cellN (compN r620 0) 0) fun n621 => castI .i64 (cellN (compN r620 0) 1) fun n622 => castI .i64 (cellN (compN r620 0) 2) fun n623 => castI .i64 (cellN (compN r620 0) 3) fun n624 => castL 97 (cellN (compN r620 0) 4) fun l625 => castL 3 (compN r620 1) fun l626 => castI .i64 (compN r620 2) fun n627 => match (n627 == (0 : Int)) with | true => (match run tab K 18 [.agg [I y12, I y13, I y14, I y15, .sl 97 y16], .agg [I n621, I n622, I y14, I n624, .sl 97 l625]] with | some r628 => (castB r628 fun b629 => some (B b629)) | none => none) | false => (some (B false))) | none => none) | none => none)) | none => none) | none => none) | none => none)
def tr12 (K : Nat) (q15 : Int → Int → Int → Int → Int → LA → Int → Int → Int → Int → LA → Int → Int → Int → Int → LA → OA) (a0_0 : Int) (a0_1 : Int) (a0_2 : Int) (a0_3 : Int) (a0_4 : LA) (a1_0 : Int) (a1_1 : Int) (a1_2 : Int) (a1_3 : Int) (a1_4 : LA) : OA :=
  match run tab K 13 [] with | some r521 => (castB r521 fun b522 => match (!b522) with | true => (some (B false)) | false => (match run tab K 33 [.agg [I a0_0, I a0_1, I a0_2, I a0_3, .sl 97 a0_4]] with | some r523 => (castI .i64 r523 fun n524 => match (n524 != (0 : Int)) with | true => (some (B true)) | false => (match run tab K 33 [.agg [I a1_0, I a1_1, I a1_2, I a1_3, .sl 97 a1_4]] with | some r525 => (castI .i64 r525 fun n526 => match (n526 != (0 : Int)) with | true => (some (B true)) | false => (match decide (a0_0 > (8 : Int)) with | true => (some (B true)) | false => (match decide (a1_0 > (8 : Int)) with | true => (some (B true)) | false => (match (a0_1 != a1_1) with | true => (some (B true)) | false => (match run tab K 21 [.agg [I a0_0, I a0_1, I a0_2, I a0_3, .sl 97 a0_4]] with | some r527 => (castI .i64 (cellN r527 0) fun n528 => castI .i64 (cellN r527 1) fun n529 => castI .i64 (cellN r527 2) fun n530 => castI .i64 (cellN r527 3) fun n531 => castL 97 (cellN r527 4) fun l532 => match run tab K 41 [.agg [I n528, I n529, I n530, I n531, .sl 97 l532]] with | some r533 => (castI .i64 (cellN (compN r533 0) 0) fun n534 => castI .i64 (cellN (compN r533 0) 1) fun n535 => castI .i64 (cellN (compN r533 0) 2) fun n536 => castI .i64 (cellN (compN r533 0) 3) fun n537 => castL 97 (cellN (compN r533 0) 4) fun l538 => castL 3 (compN r533 1) fun l539 => castI .i64 (compN r533 2) fun n540 => match (n540 != (0 : Int)) with | true => (some (B false)) | false => (match run tab K 33 [.agg [I n534, I n535, I n536, I n537, .sl 97 l538]] with | some r541 => (castI .i64 r541 fun n542 => match (n542 != (0 : Int)) with | true => (some (B false)) | false => (match ((l539.length : Int) != a0_0) with | true => (some (B false)) | false => (match decide (n534 > a0_0) with | true => (some (B false)) | false => (match run tab K 21 [.agg [I a0_0, I a0_1, I a0_2, I a0_3, .sl 97 a0_4]] with | some r543 => (castI .i64 (cellN r543 0) fun n544 => castI .i64 (cellN r543 1) fun n545 => castI .i64 (cellN r543 2) fun n546 => castI .i64 (cellN r543 3) fun n547 => castL 97 (cellN r543 4) fun l548 => match run tab K 21 [.agg [I n534, I n535, I n536, I n537, .sl 97 l538]] with | some r549 => (castI .i64 (cellN r549 0) fun n550 => castI .i64 (cellN r549 1) fun n551 => castI .i64 (cellN r549 2) fun n552 => castI .i64 (cellN r549 3) fun n553 => castL 97 (cellN r549 4) fun l554 => match run tab K 38 [.agg [I n544, I n545, I n546, I n547, .sl 97 l548], .agg [I n550, I n551, I n552, I n553, .sl 97 l554]] with | some r555 => (castL 3 (compN r555 0) fun l556 => castI .i64 (compN r555 1) fun n557 => match (n557 != (23 : Int)) with | true => (some (B false)) | false => (match run tab K 21 [.agg [I n534, I n535, I n536, I n537, .sl 97 l538]] with | some r558 => (castI .i64 (cellN r558 0) fun n559 => castI .i64 (cellN r558 1) fun n560 => castI .i64 (cellN r558 2) fun n561 => castI .i64 (cellN r558 3) fun n562 => castL 97 (cellN r558 4) fun l563 => match run tab K 41 [.agg [I n559, I n560, I n561, I n562, .sl 97 l563]] with | some r564 => (castI .i64 (cellN (compN r564 0) 0) fun n565 => castI .i64 (cellN (compN r564 0) 1) fun n566 => castI .i64 (cellN (compN r564 0) 2) fun n567 => castI .i64 (cellN (compN r564 0) 3) fun n568 => castL 97 (cellN (compN r564 0) 4) fun l569 => castL 3 (compN r564 1) fun l570 => castI .i64 (compN r564 2) fun n571 => match (n571 != (0 : Int)) with | true => (some (B false)) | false => (match run tab K 18 [.agg [I n565, I n566, I n567, I n568, .sl 97 l569], .agg [I n534, I n535, I n536, I n537, .sl 97 l538]] with | some r572 => (castB r572 fun b573 => match (!b573) with | true => (some (B false)) | false => (q15 (0 : Int) a0_0 a0_1 a0_2 a0_3 a0_4 a1_0 a1_1 a1_2 a1_3 a1_4 n534 n535 n536 n537 l538)) | none => none)) | none => none) | none => none)) | none => none) | none => none) | none => none)))) | none => none)) | none => none) | none => none))))) | none => none)) | none => none)) | none => none
def lp12_18 (K : Nat) (q15 : Int → Int → Int → Int → Int → LA → Int → Int → Int → Int → LA → Int → Int → Int → Int → LA → OA) : Nat → Int → Int → Int → Int → Int → Int → LA → Int → Int → Int → Int → LA → Int → Int → Int → Int → LA → OA
  | 0, _, _, _, _, _, _, _, _, _, _, _, _, _, _, _, _, _ => none
  | k + 1, y1, y2, y3, y4, y5, y6, y7, y8, y9, y10, y11, y12, y13, y14, y15, y16, y17 => tr12_18 K q15 (lp12_18 K q15 k) y1 y2 y3 y4 y5 y6 y7 y8 y9 y10 y11 y12 y13 y14 y15 y16 y17
def lp12_15 (K : Nat) : Nat → Int → Int → Int → Int → Int → LA → Int → Int → Int → Int → LA → Int → Int → Int → Int → LA → OA
  | 0, _, _, _, _, _, _, _, _, _, _, _, _, _, _, _, _ => none
  | k + 1, y1, y2, y3, y4, y5, y6, y7, y8, y9, y10, y11, y12, y13, y14, y15, y16 => tr12_15 K (lp12_18 K (lp12_15 K k) K) y1 y2 y3 y4 y5 y6 y7 y8 y9 y10 y11 y12 y13 y14 y15 y16
def sh12 (K : Nat) (a0_0 : Int) (a0_1 : Int) (a0_2 : Int) (a0_3 : Int) (a0_4 : LA) (a1_0 : Int) (a1_1 : Int) (a1_2 : Int) (a1_3 : Int) (a1_4 : LA) : OA := tr12 K (lp12_15 K K) a0_0 a0_1 a0_2 a0_3 a0_4 a1_0 a1_1 a1_2 a1_3 a1_4
def fr12_18 (y1 : Int) (y2 : Int) (y3 : Int) (y4 : Int) (y5 : Int) (y6 : Int) (y7 : LA) (y8 : Int) (y9 : Int) (y10 : Int) (y11 : Int) (y12 : LA) (y13 : Int) (y14 : Int) (y15 : Int) (y16 : Int) (y17 : LA) : Fr := { slots := gap 2 ((.undef, .loc 2 0) :: (.undef, .loc 3 0) :: gap 1 ((.undef, .loc 5 0) :: gap 7 ((I y1, .uni .ro) :: (I y2, .uni .ro) :: gap 173 []))), boxes := [(2, [(I y3, .ro), (I y4, .ro), (I y5, .ro), (I y6, .ro), (.sl 97 y7, .lent)]), (3, [(I y8, .ro), (I y9, .ro), (I y10, .ro), (I y11, .ro), (.sl 97 y12, .lent)]), (5, [(I y13, .ro), (I y14, .ro), (I y15, .ro), (I y16, .ro), (.sl 97 y17, .own)])] }
def fr12_15 (y1 : Int) (y2 : Int) (y3 : Int) (y4 : Int) (y5 : Int) (y6 : LA) (y7 : Int) (y8 : Int) (y9 : Int) (y10 : Int) (y11 : LA) (y12 : Int) (y13 : Int) (y14 : Int) (y15 : Int) (y16 : LA) : Fr := { slots := gap 2 ((.undef, .loc 2 0) :: (.undef, .loc 3 0) :: gap 1 ((.undef, .loc 5 0) :: gap 7 ((I y1, .uni .ro) :: gap 174 []))), boxes := [(2, [(I y2, .ro), (I y3, .ro), (I y4, .ro), (I y5, .ro), (.sl 97 y6, .lent)]), (3, [(I y7, .ro), (I y8, .ro), (I y9, .ro), (I y10, .ro), (.sl 97 y11, .lent)]), (5, [(I y12, .ro), (I y13, .ro), (I y14, .ro), (I y15, .ro), (.sl 97 y16, .own)])] }
theorem st12_18 (K : Nat) (RO15 : Fr → OA) (k : Nat) (y1 : Int) (y2 : Int) (y3 : Int) (y4 : Int) (y5 : Int) (y6 : Int) (y7 : LA) (y8 : Int) (y9 : Int) (y10 : Int) (y11 : Int) (y12 : LA) (y13 : Int) (y14 : Int) (y15 : Int) (y16 : Int) (y17 : LA) : mlp 12 Tryd.f12 K 18 (fun i_ => if i_ = 15 then RO15 else fun _ => none) (k + 1) (fr12_18 y1 y2 y3 y4 y5 y6 y7 y8 y9 y10 y11 y12 y13 y14 y15 y16 y17) = tr12_18 K (fun y1 y2 y3 y4 y5 y6 y7 y8 y9 y10 y11 y12 y13 y14 y15 y16 => RO15 (fr12_15 y1 y2 y3 y4 y5 y6 y7 y8 y9 y10 y11 y12 y13 y14 y15 y16)) (fun y1 y2 y3 y4 y5 y6 y7 y8 y9 y10 y11 y12 y13 y14 y15 y16 y17 => mlp 12 Tryd.f12 K 18 (fun i_ => if i_ = 15 then RO15 else fun _ => none) k (fr12_18 y1 y2 y3 y4 y5 y6 y7 y8 y9 y10 y11 y12 y13 y14 y15 y16 y17)) y1 y2 y3 y4 y5 y6 y7 y8 y9 y10 y11 y12 y13 y14 y15 y16 y17 := by kernel_rfl
theorem lq12_18 (K : Nat) (RO15 : Fr → OA) : ∀ (k : Nat) (y1 : Int) (y2 : Int) (y3 : Int) (y4 : Int) (y5 : Int) (y6 : Int) (y7 : LA) (y8 : Int) (y9 : Int) (y10 : Int) (y11 : Int) (y12 : LA) (y13 : Int) (y14 : Int) (y15 : Int) (y16 : Int) (y17 : LA), mlp 12 Tryd.f12 K 18 (fun i_ => if i_ = 15 then RO15 else fun _ => none) k (fr12_18 y1 y2 y3 y4 y5 y6 y7 y8 y9 y10 y11 y12 y13 y14 y15 y16 y17) = lp12_18 K (fun y1 y2 y3 y4 y5 y6 y7 y8 y9 y10 y11 y12 y13 y14 y15 y16 => RO15 (fr12_15 y1 y2 y3 y4 y5 y6 y7 y8 y9 y10 y11 y12 y13 y14 y15 y16)) k y1 y2 y3 y4 y5 y6 y7 y8 y9 y10 y11 y12 y13 y14 y15 y16 y17
  | 0, _, _, _, _, _, _, _, _, _, _, _, _, _, _, _, _, _ => rfl
  | k + 1, y1, y2, y3, y4, y5, y6, y7, y8, y9, y10, y11, y12, y13, y14, y15, y16, y17 => by
    rw [st12_18]
    have ih := lq12_18 K RO15 k
    try simp only [ih]
    try rfl
theorem st12_15 (K : Nat) (k : Nat) (y1 : Int) (y2 : Int) (y3 : Int) (y4 : Int) (y5 : Int) (y6 : LA) (y7 : Int) (y8 : Int) (y9 : Int) (y10 : Int) (y11 : LA) (y12 : Int) (y13 : Int) (y14 : Int) (y15 : Int) (y16 : LA) : mlp 12 Tryd.f12 K 15 (fun i_ => fun _ => none) (k + 1) (fr12_15 y1 y2 y3 y4 y5 y6 y7 y8 y9 y10 y11 y12 y13 y14 y15 y16) = tr12_15 K (fun y1 y2 y3 y4 y5 y6 y7 y8 y9 y10 y11 y12 y13 y14 y15 y16 y17 => mlp 12 Tryd.f12 K 18 (fun i_ => if i_ = 15 then (fun fr_ => mlp 12 Tryd.f12 K 15 (fun i_ => fun _ => none) k fr_) else fun _ => none) K (fr12_18 y1 y2 y3 y4 y5 y6 y7 y8 y9 y10 y11 y12 y13 y14 y15 y16 y17)) y1 y2 y3 y4 y5 y6 y7 y8 y9 y10 y11 y12 y13 y14 y15 y16 := by kernel_rfl
theorem lq12_15 (K : Nat) : ∀ (k : Nat) (y1 : Int) (y2 : Int) (y3 : Int) (y4 : Int) (y5 : Int) (y6 : LA) (y7 : Int) (y8 : Int) (y9 : Int) (y10 : Int) (y11 : LA) (y12 : Int) (y13 : Int) (y14 : Int) (y15 : Int) (y16 : LA), mlp 12 Tryd.f12 K 15 (fun i_ => fun _ => none) k (fr12_15 y1 y2 y3 y4 y5 y6 y7 y8 y9 y10 y11 y12 y13 y14 y15 y16) = lp12_15 K k y1 y2 y3 y4 y5 y6 y7 y8 y9 y10 y11 y12 y13 y14 y15 y16
  | 0, _, _, _, _, _, _, _, _, _, _, _, _, _, _, _, _ => rfl
  | k + 1, y1, y2, y3, y4, y5, y6, y7, y8, y9, y10, y11, y12, y13, y14, y15, y16 => by
    rw [st12_15]
    have ih := lq12_15 K k
    have ih18 := lq12_18 K (fun fr_ => mlp 12 Tryd.f12 K 15 (fun i_ => fun _ => none) k fr_) K
    try simp only [ih, ih18]
    try rfl
theorem eq12 (K : Nat) (a0_0 : Int) (a0_1 : Int) (a0_2 : Int) (a0_3 : Int) (a0_4 : LA) (a1_0 : Int) (a1_1 : Int) (a1_2 : Int) (a1_3 : Int) (a1_4 : LA) : run tab (K + 1) 12 [.agg [I a0_0, I a0_1, I a0_2, I a0_3, .sl 97 a0_4], .agg [I a1_0, I a1_1, I a1_2, I a1_3, .sl 97 a1_4]] = sh12 K a0_0 a0_1 a0_2 a0_3 a0_4 a1_0 a1_1 a1_2 a1_3 a1_4 := by
  have h : run tab (K + 1) 12 [.agg [I a0_0, I a0_1, I a0_2, I a0_3, .sl 97 a0_4], .agg [I a1_0, I a1_1, I a1_2, I a1_3, .sl 97 a1_4]] = tr12 K (fun y1 y2 y3 y4 y5 y6 y7 y8 y9 y10 y11 y12 y13 y14 y15 y16 => mlp 12 Tryd.f12 K 15 (fun i_ => fun _ => none) K (fr12_15 y1 y2 y3 y4 y5 y6 y7 y8 y9 y10 y11 y12 y13 y14 y15 y16)) a0_0 a0_1 a0_2 a0_3 a0_4 a1_0 a1_1 a1_2 a1_3 a1_4 := by kernel_rfl
  rw [h]
  simp only [lq12_15]
  rfl

def tr18_4 (K : Nat) (q4 : Int → Int → Int → Int → Int → LA → Int → Int → Int → Int → LA → OA) (y1 : Int) (y2 : Int) (y3 : Int) (y4 : Int) (y5 : Int) (y6 : LA) (y7 : Int) (y8 : Int) (y9 : Int) (y10 : Int) (y11 : LA) : OA :=
  match decide (y1 < (y6.length : Int)) with | true => (if 0 ≤ y1 then (match y6[y1.toNat]? with | some x733 => (castI .i64 (cellN x733 0) fun n734 => castI .i64 (cellN x733 1) fun n735 => castI .i64 (cellN x733 2) fun n736 => castI .i64 (cellN x733 3) fun n737 => if 0 ≤ y1 then (match y11[y1.toNat]? with | some x738 => (castI .i64 (cellN x738 0) fun n739 => castI .i64 (cellN x738 1) fun n740 => castI .i64 (cellN x738 2) fun n741 => castI .i64 (cellN x738 3) fun n742 => match (!((n734 == n739) && ((n735 == n740) && ((n736 == n741) && ((n737 == n742) && true))))) with | true => (some (B false)) | false => (q4 (IntKind.i64.wrap (y1 + 1)) y2 y3 y4 y5 y6 y7 y8 y9 y10 y11)) | none => none) else none) | none => none) else none) | false => (some (B true))
def tr18 (K : Nat) (q4 : Int → Int → Int → Int → Int → LA → Int → Int → Int → Int → LA → OA) (a0_0 : Int) (a0_1 : Int) (a0_2 : Int) (a0_3 : Int) (a0_4 : LA) (a1_0 : Int) (a1_1 : Int) (a1_2 : Int) (a1_3 : Int) (a1_4 : LA) : OA :=
  match (a0_0 != a1_0) with | true => (some (B false)) | false => (match (a0_1 != a1_1) with | true => (some (B false)) | false => (match (a0_2 != a1_2) with | true => (some (B false)) | false => (match (a0_3 != a1_3) with | true => (some (B false)) | false => (match ((a0_4.length : Int) != (a1_4.length : Int)) with | true => (some (B false)) | false => (q4 (0 : Int) a0_0 a0_1 a0_2 a0_3 a0_4 a1_0 a1_1 a1_2 a1_3 a1_4)))))
def lp18_4 (K : Nat) : Nat → Int → Int → Int → Int → Int → LA → Int → Int → Int → Int → LA → OA
  | 0, _, _, _, _, _, _, _, _, _, _, _ => none
  | k + 1, y1, y2, y3, y4, y5, y6, y7, y8, y9, y10, y11 => tr18_4 K (lp18_4 K k) y1 y2 y3 y4 y5 y6 y7 y8 y9 y10 y11
def sh18 (K : Nat) (a0_0 : Int) (a0_1 : Int) (a0_2 : Int) (a0_3 : Int) (a0_4 : LA) (a1_0 : Int) (a1_1 : Int) (a1_2 : Int) (a1_3 : Int) (a1_4 : LA) : OA := tr18 K (lp18_4 K K) a0_0 a0_1 a0_2 a0_3 a0_4 a1_0 a1_1 a1_2 a1_3 a1_4
def fr18_4 (y1 : Int) (y2 : Int) (y3 : Int) (y4 : Int) (y5 : Int) (y6 : LA) (y7 : Int) (y8 : Int) (y9 : Int) (y10 : Int) (y11 : LA) : Fr := { slots := gap 2 ((.undef, .loc 2 0) :: (.undef, .loc 3 0) :: gap 1 ((I y1, .uni .ro) :: gap 53 [])), boxes := [(2, [(I y2, .ro), (I y3, .ro), (I y4, .ro), (I y5, .ro), (.sl 97 y6, .lent)]), (3, [(I y7, .ro), (I y8, .ro), (I y9, .ro), (I y10, .ro), (.sl 97 y11, .lent)])] }
theorem st18_4 (K : Nat) (k : Nat) (y1 : Int) (y2 : Int) (y3 : Int) (y4 : Int) (y5 : Int) (y6 : LA) (y7 : Int) (y8 : Int) (y9 : Int) (y10 : Int) (y11 : LA) : mlp 18 Tryd.f18 K 4 (fun i_ => fun _ => none) (k + 1) (fr18_4 y1 y2 y3 y4 y5 y6 y7 y8 y9 y10 y11) = tr18_4 K (fun y1 y2 y3 y4 y5 y6 y7 y8 y9 y10 y11 => mlp 18 Tryd.f18 K 4 (fun i_ => fun _ => none) k (fr18_4 y1 y2 y3 y4 y5 y6 y7 y8 y9 y10 y11)) y1 y2 y3 y4 y5 y6 y7 y8 y9 y10 y11 := by kernel_rfl
theorem lq18_4 (K : Nat) : ∀ (k : Nat) (y1 : Int) (y2 : Int) (y3 : Int) (y4 : Int) (y5 : Int) (y6 : LA) (y7 : Int) (y8 : Int) (y9 : Int) (y10 : Int) (y11 : LA), mlp 18 Tryd.f18 K 4 (fun i_ => fun _ => none) k (fr18_4 y1 y2 y3 y4 y5 y6 y7 y8 y9 y10 y11) = lp18_4 K k y1 y2 y3 y4 y5 y6 y7 y8 y9 y10 y11
  | 0, _, _, _, _, _, _, _, _, _, _, _ => rfl
  | k + 1, y1, y2, y3, y4, y5, y6, y7, y8, y9, y10, y11 => by
    rw [st18_4]
    have ih := lq18_4 K k
    try simp only [ih]
    try rfl
theorem eq18 (K : Nat) (a0_0 : Int) (a0_1 : Int) (a0_2 : Int) (a0_3 : Int) (a0_4 : LA) (a1_0 : Int) (a1_1 : Int) (a1_2 : Int) (a1_3 : Int) (a1_4 : LA) : run tab (K + 1) 18 [.agg [I a0_0, I a0_1, I a0_2, I a0_3, .sl 97 a0_4], .agg [I a1_0, I a1_1, I a1_2, I a1_3, .sl 97 a1_4]] = sh18 K a0_0 a0_1 a0_2 a0_3 a0_4 a1_0 a1_1 a1_2 a1_3 a1_4 := by
  have h : run tab (K + 1) 18 [.agg [I a0_0, I a0_1, I a0_2, I a0_3, .sl 97 a0_4], .agg [I a1_0, I a1_1, I a1_2, I a1_3, .sl 97 a1_4]] = tr18 K (fun y1 y2 y3 y4 y5 y6 y7 y8 y9 y10 y11 => mlp 18 Tryd.f18 K 4 (fun i_ => fun _ => none) K (fr18_4 y1 y2 y3 y4 y5 y6 y7 y8 y9 y10 y11)) a0_0 a0_1 a0_2 a0_3 a0_4 a1_0 a1_1 a1_2 a1_3 a1_4 := by kernel_rfl
  rw [h]
  simp only [lq18_4]
  rfl

def tr20_6 (K : Nat) (q6 : LA → Int → Int → Int → Int → Int → Int → LA → OA) (y1 : LA) (y2 : Int) (y3 : Int) (y4 : Int) (y5 : Int) (y6 : Int) (y7 : Int) (y8 : LA) : OA :=
  match decide (y3 < y2) with | true => (if 0 ≤ y3 then (match y1[y3.toNat]? with | some x757 => (castI .i64 (cellN x757 0) fun n758 => castI .i64 (cellN x757 1) fun n759 => castI .i64 (cellN x757 2) fun n760 => castI .i64 (cellN x757 3) fun n761 => match run tab K 57 [I n758, I 0, I (IntKind.i64.wrap (y4 - 1))] with | some r762 => (castB r762 fun b763 => match (!b763) with | true => (some (.tup [I y3, I 3])) | false => (match run tab K 57 [I n761, I 0, I (IntKind.i64.wrap (y4 - 1))] with | some r764 => (castB r764 fun b765 => match (!b765) with | true => (some (.tup [I y3, I 3])) | false => (match run tab K 57 [I n759, I 0, I (IntKind.i64.wrap (y5 - 1))] with | some r766 => (castB r766 fun b767 => match (!b767) with | true => (some (.tup [I y3, I 3])) | false => (match run tab K 57 [I n760, I 0, I (IntKind.i64.wrap (y6 - 1))] with | some r768 => (castB r768 fun b769 => match (!b769) with | true => (some (.tup [I y3, I 3])) | false => (match decide (y3 > (0 : Int)) with | true => (if 0 ≤ (IntKind.i64.wrap (y3 - 1)) then (match y8[(IntKind.i64.wrap (y3 - 1)).toNat]? with | some x770 => (castI .i64 (cellN x770 0) fun n771 => if 0 ≤ (IntKind.i64.wrap (y3 - 1)) then (match y8[(IntKind.i64.wrap (y3 - 1)).toNat]? with | some x772 => (castI .i64 (cellN x772 1) fun n773 => match run tab K 59 [I n771, I n758] with | some r774 => (castI .i64 r774 fun n775 => match run tab K 59 [I n773, I n759] with | some r776 => (castI .i64 r776 fun n777 => match run tab K 58 [.sl 3 [I n775, I n777]] with | some r778 => (castI .i64 r778 fun n779 => match decide (n779 ≥ (0 : Int)) with | true => (some (.tup [I y3, I 14])) | false => (q6 y1 y2 (IntKind.i64.wrap (y3 + 1)) y4 y5 y6 y7 y8)) | none => none) | none => none) | none => none) | none => none) else none) | none => none) else none) | false => (q6 y1 y2 (IntKind.i64.wrap (y3 + 1)) y4 y5 y6 y7 y8))) | none => none)) | none => none)) | none => none)) | none => none) | none => none) else none) | false => (some (.tup [I 0, I 0]))
def tr20 (K : Nat) (q6 : LA → Int → Int → Int → Int → Int → Int → LA → OA) (a0_0 : Int) (a0_1 : Int) (a0_2 : Int) (a0_3 : Int) (a0_4 : LA) : OA :=
  match run tab K 57 [I a0_0, I 1, I 40] with | some r749 => (castB r749 fun b750 => match (!b750) with | true => (some (.tup [I 0, I 3])) | false => (match run tab K 57 [I a0_1, I 1, I 8] with | some r751 => (castB r751 fun b752 => match (!b752) with | true => (some (.tup [I 0, I 3])) | false => (match run tab K 57 [I a0_2, I 1, I 8] with | some r753 => (castB r753 fun b754 => match (!b754) with | true => (some (.tup [I 0, I 3])) | false => (match run tab K 57 [I a0_3, I 0, I (IntKind.i64.wrap (a0_0 - 1))] with | some r755 => (castB r755 fun b756 => match (!b756) with | true => (some (.tup [I 0, I 3])) | false => (match decide ((a0_4.length : Int) > (IntKind.i64.wrap (a0_0 * a0_1))) with | true => (some (.tup [I 0, I 2])) | false => (q6 a0_4 (a0_4.length : Int) (0 : Int) a0_0 a0_1 a0_2 a0_3 a0_4))) | none => none)) | none => none)) | none => none)) | none => none
def lp20_6 (K : Nat) : Nat → LA → Int → Int → Int → Int → Int → Int → LA → OA
  | 0, _, _, _, _, _, _, _, _ => none
  | k + 1, y1, y2, y3, y4, y5, y6, y7, y8 => tr20_6 K (lp20_6 K k) y1 y2 y3 y4 y5 y6 y7 y8
def sh20 (K : Nat) (a0_0 : Int) (a0_1 : Int) (a0_2 : Int) (a0_3 : Int) (a0_4 : LA) : OA := tr20 K (lp20_6 K K) a0_0 a0_1 a0_2 a0_3 a0_4
def fr20_6 (y1 : LA) (y2 : Int) (y3 : Int) (y4 : Int) (y5 : Int) (y6 : Int) (y7 : Int) (y8 : LA) : Fr := { slots := gap 1 ((.undef, .loc 1 0) :: gap 39 ((.sl 97 y1, .uni .lent) :: (I y2, .uni .ro) :: (I y3, .uni .ro) :: gap 68 [])), boxes := [(1, [(I y4, .ro), (I y5, .ro), (I y6, .ro), (I y7, .ro), (.sl 97 y8, .lent)])] }
theorem st20_6 (K : Nat) (k : Nat) (y1 : LA) (y2 : Int) (y3 : Int) (y4 : Int) (y5 : Int) (y6 : Int) (y7 : Int) (y8 : LA) : mlp 20 Tryd.f20 K 6 (fun i_ => fun _ => none) (k + 1) (fr20_6 y1 y2 y3 y4 y5 y6 y7 y8) = tr20_6 K (fun y1 y2 y3 y4 y5 y6 y7 y8 => mlp 20 Tryd.f20 K 6 (fun i_ => fun _ => none) k (fr20_6 y1 y2 y3 y4 y5 y6 y7 y8)) y1 y2 y3 y4 y5 y6 y7 y8 := by kernel_rfl
theorem lq20_6 (K : Nat) : ∀ (k : Nat) (y1 : LA) (y2 : Int) (y3 : Int) (y4 : Int) (y5 : Int) (y6 : Int) (y7 : Int) (y8 : LA), mlp 20 Tryd.f20 K 6 (fun i_ => fun _ => none) k (fr20_6 y1 y2 y3 y4 y5 y6 y7 y8) = lp20_6 K k y1 y2 y3 y4 y5 y6 y7 y8
  | 0, _, _, _, _, _, _, _, _ => rfl
  | k + 1, y1, y2, y3, y4, y5, y6, y7, y8 => by
    rw [st20_6]
    have ih := lq20_6 K k
    try simp only [ih]
    try rfl
theorem eq20 (K : Nat) (a0_0 : Int) (a0_1 : Int) (a0_2 : Int) (a0_3 : Int) (a0_4 : LA) : run tab (K + 1) 20 [.agg [I a0_0, I a0_1, I a0_2, I a0_3, .sl 97 a0_4]] = sh20 K a0_0 a0_1 a0_2 a0_3 a0_4 := by
  have h : run tab (K + 1) 20 [.agg [I a0_0, I a0_1, I a0_2, I a0_3, .sl 97 a0_4]] = tr20 K (fun y1 y2 y3 y4 y5 y6 y7 y8 => mlp 20 Tryd.f20 K 6 (fun i_ => fun _ => none) K (fr20_6 y1 y2 y3 y4 y5 y6 y7 y8)) a0_0 a0_1 a0_2 a0_3 a0_4 := by kernel_rfl
  rw [h]
  simp only [lq20_6]
  rfl

def tr21 (K : Nat) (a0_0 : Int) (a0_1 : Int) (a0_2 : Int) (a0_3 : Int) (a0_4 : LA) : OA :=
  if (([] : LA).length + a0_4.length) * 32 ≤ maxBytes then (some (.agg [I a0_0, I a0_1, I a0_2, I a0_3, .sl 97 (([] : LA) ++ a0_4)])) else none
def sh21 (K : Nat) (a0_0 : Int) (a0_1 : Int) (a0_2 : Int) (a0_3 : Int) (a0_4 : LA) : OA := tr21 K a0_0 a0_1 a0_2 a0_3 a0_4
theorem eq21 (K : Nat) (a0_0 : Int) (a0_1 : Int) (a0_2 : Int) (a0_3 : Int) (a0_4 : LA) : run tab (K + 1) 21 [.agg [I a0_0, I a0_1, I a0_2, I a0_3, .sl 97 a0_4]] = sh21 K a0_0 a0_1 a0_2 a0_3 a0_4 := by kernel_rfl

def tr22_6 (K : Nat) (q6 : Int → Int → Int → Int → Int → LA → OA) (y1 : Int) (y2 : Int) (y3 : Int) (y4 : Int) (y5 : Int) (y6 : LA) : OA :=
  match decide (y1 < (y6.length : Int)) with | true => (if 0 ≤ y1 then (match y6[y1.toNat]? with | some x788 => (castI .i64 (cellN x788 0) fun n789 => castI .i64 (cellN x788 1) fun n790 => castI .i64 (cellN x788 2) fun n791 => castI .i64 (cellN x788 3) fun n792 => match run tab K 29 [I n789, I 0, I (IntKind.i64.wrap (y2 - 1))] with | some r793 => (castB r793 fun b794 => match (!b794) with | true => (some (.tup [I y1, I 3])) | false => (match run tab K 29 [I n792, I 0, I (IntKind.i64.wrap (y2 - 1))] with | some r795 => (castB r795 fun b796 => match (!b796) with | true => (some (.tup [I y1, I 3])) | false => (match run tab K 29 [I n790, I 0, I (IntKind.i64.wrap (y3 - 1))] with | some r797 => (castB r797 fun b798 => match (!b798) with | true => (some (.tup [I y1, I 3])) | false => (match run tab K 29 [I n791, I 0, I (IntKind.i64.wrap (y4 - 1))] with | some r799 => (castB r799 fun b800 => match (!b800) with | true => (some (.tup [I y1, I 3])) | false => (match decide (y1 > (0 : Int)) with | true => (if 0 ≤ (IntKind.i64.wrap (y1 - 1)) then (match y6[(IntKind.i64.wrap (y1 - 1)).toNat]? with | some x801 => (castI .i64 (cellN x801 0) fun n802 => if 0 ≤ (IntKind.i64.wrap (y1 - 1)) then (match y6[(IntKind.i64.wrap (y1 - 1)).toNat]? with | some x803 => (castI .i64 (cellN x803 1) fun n804 => match run tab K 60 [.sl 3 [I n802, I n804], .sl 3 [I n789, I n790]] with | some r805 => (castI .i64 r805 fun n806 => match decide (n806 ≥ (0 : Int)) with | true => (some (.tup [I y1, I 14])) | false => (q6 (IntKind.i64.wrap (y1 + 1)) y2 y3 y4 y5 y6)) | none => none) | none => none) else none) | none => none) else none) | false => (q6 (IntKind.i64.wrap (y1 + 1)) y2 y3 y4 y5 y6))) | none => none)) | none => none)) | none => none)) | none => none) | none => none) else none) | false => (some (.tup [I 0, I 0]))
def tr22 (K : Nat) (q6 : Int → Int → Int → Int → Int → LA → OA) (a0_0 : Int) (a0_1 : Int) (a0_2 : Int) (a0_3 : Int) (a0_4 : LA) : OA :=
  match run tab K 29 [I a0_0, I 1, I 40] with | some r780 => (castB r780 fun b781 => match (!b781) with | true => (some (.tup [I 0, I 3])) | false => (match run tab K 29 [I a0_1, I 1, I 8] with | some r782 => (castB r782 fun b783 => match (!b783) with | true => (some (.tup [I 0, I 3])) | false => (match run tab K 29 [I a0_2, I 1, I 8] with | some r784 => (castB r784 fun b785 => match (!b785) with | true => (some (.tup [I 0, I 3])) | false => (match run tab K 29 [I a0_3, I 0, I (IntKind.i64.wrap (a0_0 - 1))] with | some r786 => (castB r786 fun b787 => match (!b787) with | true => (some (.tup [I 0, I 3])) | false => (match decide ((a0_4.length : Int) > (IntKind.i64.wrap (a0_0 * a0_1))) with | true => (some (.tup [I 0, I 2])) | false => (q6 (0 : Int) a0_0 a0_1 a0_2 a0_3 a0_4))) | none => none)) | none => none)) | none => none)) | none => none
def lp22_6 (K : Nat) : Nat → Int → Int → Int → Int → Int → LA → OA
  | 0, _, _, _, _, _, _ => none
  | k + 1, y1, y2, y3, y4, y5, y6 => tr22_6 K (lp22_6 K k) y1 y2 y3 y4 y5 y6
def sh22 (K : Nat) (a0_0 : Int) (a0_1 : Int) (a0_2 : Int) (a0_3 : Int) (a0_4 : LA) : OA := tr22 K (lp22_6 K K) a0_0 a0_1 a0_2 a0_3 a0_4
def fr22_6 (y1 : Int) (y2 : Int) (y3 : Int) (y4 : Int) (y5 : Int) (y6 : LA) : Fr := { slots := gap 1 ((.undef, .loc 1 0) :: gap 2 ((I y1, .uni .ro) :: gap 109 [])), boxes := [(1, [(I y2, .ro), (I y3, .ro), (I y4, .ro), (I y5, .ro), (.sl 97 y6, .lent)])] }
theorem st22_6 (K : Nat) (k : Nat) (y1 : Int) (y2 : Int) (y3 : Int) (y4 : Int) (y5 : Int) (y6 : LA) : mlp 22 Tryd.f22 K 6 (fun i_ => fun _ => none) (k + 1) (fr22_6 y1 y2 y3 y4 y5 y6) = tr22_6 K (fun y1 y2 y3 y4 y5 y6 => mlp 22 Tryd.f22 K 6 (fun i_ => fun _ => none) k (fr22_6 y1 y2 y3 y4 y5 y6)) y1 y2 y3 y4 y5 y6 := by kernel_rfl
theorem lq22_6 (K : Nat) : ∀ (k : Nat) (y1 : Int) (y2 : Int) (y3 : Int) (y4 : Int) (y5 : Int) (y6 : LA), mlp 22 Tryd.f22 K 6 (fun i_ => fun _ => none) k (fr22_6 y1 y2 y3 y4 y5 y6) = lp22_6 K k y1 y2 y3 y4 y5 y6
  | 0, _, _, _, _, _, _ => rfl
  | k + 1, y1, y2, y3, y4, y5, y6 => by
    rw [st22_6]
    have ih := lq22_6 K k
    try simp only [ih]
    try rfl
theorem eq22 (K : Nat) (a0_0 : Int) (a0_1 : Int) (a0_2 : Int) (a0_3 : Int) (a0_4 : LA) : run tab (K + 1) 22 [.agg [I a0_0, I a0_1, I a0_2, I a0_3, .sl 97 a0_4]] = sh22 K a0_0 a0_1 a0_2 a0_3 a0_4 := by
  have h : run tab (K + 1) 22 [.agg [I a0_0, I a0_1, I a0_2, I a0_3, .sl 97 a0_4]] = tr22 K (fun y1 y2 y3 y4 y5 y6 => mlp 22 Tryd.f22 K 6 (fun i_ => fun _ => none) K (fr22_6 y1 y2 y3 y4 y5 y6)) a0_0 a0_1 a0_2 a0_3 a0_4 := by kernel_rfl
  rw [h]
  simp only [lq22_6]
  rfl

def tr29 (K : Nat) (a0 : Int) (a1 : Int) (a2 : Int) : OA :=
  match decide (a1 ≤ a0) with | true => (some (B (decide (a0 ≤ a2)))) | false => (some (B false))
def sh29 (K : Nat) (a0 : Int) (a1 : Int) (a2 : Int) : OA := tr29 K a0 a1 a2
theorem eq29 (K : Nat) (a0 : Int) (a1 : Int) (a2 : Int) : run tab (K + 1) 29 [I a0, I a1, I a2] = sh29 K a0 a1 a2 := by kernel_rfl

def tr33 (K : Nat) (a0_0 : Int) (a0_1 : Int) (a0_2 : Int) (a0_3 : Int) (a0_4 : LA) : OA :=
  match run tab K 22 [.agg [I a0_0, I a0_1, I a0_2, I a0_3, .sl 97 a0_4]] with | some r938 => (castI .i64 (compN r938 0) fun n939 => castI .i64 (compN r938 1) fun n940 => some (I n940)) | none => none
def sh33 (K : Nat) (a0_0 : Int) (a0_1 : Int) (a0_2 : Int) (a0_3 : Int) (a0_4 : LA) : OA := tr33 K a0_0 a0_1 a0_2 a0_3 a0_4
theorem eq33 (K : Nat) (a0_0 : Int) (a0_1 : Int) (a0_2 : Int) (a0_3 : Int) (a0_4 : LA) : run tab (K + 1) 33 [.agg [I a0_0, I a0_1, I a0_2, I a0_3, .sl 97 a0_4]] = sh33 K a0_0 a0_1 a0_2 a0_3 a0_4 := by kernel_rfl

def tr36_4 (K : Nat) (q4 : LA → Int → Int → OA) (y1 : LA) (y2 : Int) (y3 : Int) : OA :=
  match decide (y3 < (y1.length : Int)) with | true => (if 0 ≤ y3 then (match y1[y3.toNat]? with | some x965 => (castI .i64 x965 fun n966 => match run tab K 29 [I n966, I 0, I (IntKind.i64.wrap (y2 - 1))] with | some r967 => (castB r967 fun b968 => match (!b968) with | true => (some (I 3)) | false => (q4 y1 y2 (IntKind.i64.wrap (y3 + 1)))) | none => none) | none => none) else none) | false => (some (I 0))
def tr36 (K : Nat) (q4 : LA → Int → Int → OA) (a0 : LA) (a1 : Int) (a2 : Int) : OA :=
  match decide ((a0.length : Int) > a2) with | true => (some (I 2)) | false => (q4 a0 a1 (0 : Int))
def lp36_4 (K : Nat) : Nat → LA → Int → Int → OA
  | 0, _, _, _ => none
  | k + 1, y1, y2, y3 => tr36_4 K (lp36_4 K k) y1 y2 y3
def sh36 (K : Nat) (a0 : LA) (a1 : Int) (a2 : Int) : OA := tr36 K (lp36_4 K K) a0 a1 a2
def fr36_4 (y1 : LA) (y2 : Int) (y3 : Int) : Fr := { slots := (.sl 3 y1, .uni .lent) :: (I y2, .uni .ro) :: gap 5 ((I y3, .uni .ro) :: gap 18 []), boxes := [] }
theorem st36_4 (K : Nat) (k : Nat) (y1 : LA) (y2 : Int) (y3 : Int) : mlp 36 Tryd.f36 K 4 (fun i_ => fun _ => none) (k + 1) (fr36_4 y1 y2 y3) = tr36_4 K (fun y1 y2 y3 => mlp 36 Tryd.f36 K 4 (fun i_ => fun _ => none) k (fr36_4 y1 y2 y3)) y1 y2 y3 := by kernel_rfl
theorem lq36_4 (K : Nat) : ∀ (k : Nat) (y1 : LA) (y2 : Int) (y3 : Int), mlp 36 Tryd.f36 K 4 (fun i_ => fun _ => none) k (fr36_4 y1 y2 y3) = lp36_4 K k y1 y2 y3
  | 0, _, _, _ => rfl
  | k + 1, y1, y2, y3 => by
    rw [st36_4]
    have ih := lq36_4 K k
    try simp only [ih]
    try rfl
theorem eq36 (K : Nat) (a0 : LA) (a1 : Int) (a2 : Int) : run tab (K + 1) 36 [.sl 3 a0, I a1, I a2] = sh36 K a0 a1 a2 := by
  have h : run tab (K + 1) 36 [.sl 3 a0, I a1, I a2] = tr36 K (fun y1 y2 y3 => mlp 36 Tryd.f36 K 4 (fun i_ => fun _ => none) K (fr36_4 y1 y2 y3)) a0 a1 a2 := by kernel_rfl
  rw [h]
  simp only [lq36_4]
  rfl

def tr38_11 (K : Nat) (q7 : LA → LA → LA → LA → Int → Int → Int → Int → Int → LA → OA) (q11 : LA → LA → LA → LA → Int → Int → Int → Int → Int → Int → Int → LA → Int → Int → OA) (y1 : LA) (y2 : LA) (y3 : LA) (y4 : LA) (y5 : Int) (y6 : Int) (y7 : Int) (y8 : Int) (y9 : Int) (y10 : Int) (y11 : Int) (y12 : LA) (y13 : Int) (y14 : Int) : OA :=
  match decide (y7 < y6) with | true => (if 0 ≤ y5 then (match y4[y5.toNat]? with | some x992 => (castL 3 x992 fun l993 => match run tab K 70 [.sl 3 l993] with | some r994 => (castL 3 r994 fun l995 => if (l995.length + ([I y7] : LA).length) * 8 ≤ maxBytes then (if 0 ≤ y13 then (match y1[y13.toNat]? with | some x996 => (castL 122 x996 fun l997 => if 0 ≤ y7 then (match l997[y7.toNat]? with | some x998 => (castP x998 fun q999 => if 0 ≤ y14 then (match y2[y14.toNat]? with | some x1000 => (castL 122 x1000 fun l1001 => if 0 ≤ y7 then (match l1001[y7.toNat]? with | some x1002 => (castP x1002 fun q1003 => castNil q999 fun b1004 => match b1004 with | true => (castNil q1003 fun b1005 => match b1005 with | true => (q11 y1 y2 y3 y4 y5 y6 (IntKind.i64.wrap (y7 + 1)) y8 y9 y10 y11 y12 y13 y14) | false => (castNil q999 fun b1006 => match b1006 with | true => (some (.tup [.sl 3 (l995 ++ ([I y7] : LA)), I 0])) | false => (castNil q1003 fun b1007 => match b1007 with | true => (some (.tup [.sl 3 (l995 ++ ([I y7] : LA)), I 0])) | false => (castRef q999 fun p1008 => castRef (.ref p1008) fun p1009 => castI .i64 (p1009.getD 2 .undef) fun n1010 => castRef q1003 fun p1011 => castRef (.ref p1011) fun p1012 => castI .i64 (p1012.getD 2 .undef) fun n1013 => match (n1010 != n1013) with | true => (some (.tup [.sl 3 (l995 ++ ([I y7] : LA)), I 0])) | false => (castRef q999 fun p1014 => castRef (.ref p1014) fun p1015 => castI .i64 (p1015.getD 3 .undef) fun n1016 => castRef q1003 fun p1017 => castRef (.ref p1017) fun p1018 => castI .i64 (p1018.getD 3 .undef) fun n1019 => match run tab K 71 [.sl 52 y3, .agg [I n1016, I n1019]] with | some r1020 => (castB r1020 fun b1021 => match (!b1021) with | true => (if (y3.length + ([.agg [I n1016, I n1019]] : LA).length) * 16 ≤ maxBytes then (if (y4.length + ([.sl 3 (l995 ++ ([I y7] : LA))] : LA).length) * 24 ≤ maxBytes then (q11 y1 y2 (y3 ++ ([.agg [I n1016, I n1019]] : LA)) (y4 ++ ([.sl 3 (l995 ++ ([I y7] : LA))] : LA)) y5 y6 (IntKind.i64.wrap (y7 + 1)) y8 y9 y10 y11 y12 y13 y14) else none) else none) | false => (q11 y1 y2 y3 y4 y5 y6 (IntKind.i64.wrap (y7 + 1)) y8 y9 y10 y11 y12 y13 y14)) | none => none))))) | false => (castNil q999 fun b1022 => match b1022 with | true => (some (.tup [.sl 3 (l995 ++ ([I y7] : LA)), I 0])) | false => (castNil q1003 fun b1023 => match b1023 with | true => (some (.tup [.sl 3 (l995 ++ ([I y7] : LA)), I 0])) | false => (castRef q999 fun p1024 => castRef (.ref p1024) fun p1025 => castI .i64 (p1025.getD 2 .undef) fun n1026 => castRef q1003 fun p1027 => castRef (.ref p1027) fun p1028 => castI .i64 (p1028.getD 2 .undef) fun n1029 => match (n1026 != n1029) with | true => (some (.tup [.sl 3 (l995 ++ ([I y7] : LA)), I 0])) | false => (castRef q999 fun p1030 => castRef (.ref p1030) fun p1031 => castI .i64 (p1031.getD 3 .undef) fun n1032 => castRef q1003 fun p1033 => castRef (.ref p1033) fun p1034 => castI .i64 (p1034.getD 3 .undef) fun n1035 => match run tab K 71 [.sl 52 y3, .agg [I n1032, I n1035]] with | some r1036 => (castB r1036 fun b1037 => match (!b1037) with | true => (if (y3.length + ([.agg [I n1032, I n1035]] : LA).length) * 16 ≤ maxBytes then (if (y4.length + ([.sl 3 (l995 ++ ([I y7] : LA))] : LA).length) * 24 ≤ maxBytes then (q11 y1 y2 (y3 ++ ([.agg [I n1032, I n1035]] : LA)) (y4 ++ ([.sl 3 (l995 ++ ([I y7] : LA))] : LA)) y5 y6 (IntKind.i64.wrap (y7 + 1)) y8 y9 y10 y11 y12 y13 y14) else none) else none) | false => (q11 y1 y2 y3 y4 y5 y6 (IntKind.i64.wrap (y7 + 1)) y8 y9 y10 y11 y12 y13 y14)) | none => none))))) | none => none) else none) | none => none) else none) | none => none) else none) | none => none) else none) else none) | none => none) | none => none) else none) | false => (q7 y1 y2 y3 y4 (IntKind.i64.wrap (y5 + 1)) y8 y9 y10 y11 y12)
def tr38_7 (K : Nat) (q11 : LA → LA → LA → LA → Int → Int → Int → Int → Int → Int → Int → LA → Int → Int → OA) (y1 : LA) (y2 : LA) (y3 : LA) (y4 : LA) (y5 : Int) (y6 : Int) (y7 : Int) (y8 : Int) (y9 : Int) (y10 : LA) : OA :=
  match decide (y5 < (y3.length : Int)) with | true => (if 0 ≤ y5 then (match y3[y5.toNat]? with | some x989 => (castI .i64 (cellN x989 0) fun n990 => castI .i64 (cellN x989 1) fun n991 => q11 y1 y2 y3 y4 y5 y7 (0 : Int) y6 y7 y8 y9 y10 n990 n991) | none => none) else none) | false => (some (.tup [.sl 3 [], I 23]))
def tr38 (K : Nat) (q7 : LA → LA → LA → LA → Int → Int → Int → Int → Int → LA → OA) (a0_0 : Int) (a0_1 : Int) (a0_2 : Int) (a0_3 : Int) (a0_4 : LA) (a1_0 : Int) (a1_1 : Int) (a1_2 : Int) (a1_3 : Int) (a1_4 : LA) : OA :=
  match run tab K 66 [.agg [I a0_0, I a0_1, I a0_2, I a0_3, .sl 97 a0_4]] with | some r977 => (castI .i64 r977 fun n978 => match run tab K 66 [.agg [I a1_0, I a1_1, I a1_2, I a1_3, .sl 97 a1_4]] with | some r979 => (castI .i64 r979 fun n980 => match run tab K 62 [B (a0_1 == a1_1), I 6] with | some r981 => (castI .i64 r981 fun n982 => match run tab K 61 [.sl 32 [I n978, I n980, I n982]] with | some r983 => (castI .i64 r983 fun n984 => match (n984 != (0 : Int)) with | true => (some (.tup [.sl 3 [], I n984])) | false => (match run tab K 67 [.agg [I a0_0, I a0_1, I a0_2, I a0_3, .sl 97 a0_4]] with | some r985 => (castL 121 r985 fun l986 => match run tab K 67 [.agg [I a1_0, I a1_1, I a1_2, I a1_3, .sl 97 a1_4]] with | some r987 => (castL 121 r987 fun l988 => q7 l986 l988 ([.agg [I a0_3, I a1_3]] : LA) ([.sl 3 []] : LA) (0 : Int) a0_0 a0_1 a0_2 a0_3 a0_4) | none => none) | none => none)) | none => none) | none => none) | none => none) | none => none
def lp38_11 (K : Nat) (q7 : LA → LA → LA → LA → Int → Int → Int → Int → Int → LA → OA) : Nat → LA → LA → LA → LA → Int → Int → Int → Int → Int → Int → Int → LA → Int → Int → OA
  | 0, _, _, _, _, _, _, _, _, _, _, _, _, _, _ => none
  | k + 1, y1, y2, y3, y4, y5, y6, y7, y8, y9, y10, y11, y12, y13, y14 => tr38_11 K q7 (lp38_11 K q7 k) y1 y2 y3 y4 y5 y6 y7 y8 y9 y10 y11 y12 y13 y14
def lp38_7 (K : Nat) : Nat → LA → LA → LA → LA → Int → Int → Int → Int → Int → LA → OA
  | 0, _, _, _, _, _, _, _, _, _, _ => none
  | k + 1, y1, y2, y3, y4, y5, y6, y7, y8, y9, y10 => tr38_7 K (lp38_11 K (lp38_7 K k) K) y1 y2 y3 y4 y5 y6 y7 y8 y9 y10
def sh38 (K : Nat) (a0_0 : Int) (a0_1 : Int) (a0_2 : Int) (a0_3 : Int) (a0_4 : LA) (a1_0 : Int) (a1_1 : Int) (a1_2 : Int) (a1_3 : Int) (a1_4 : LA) : OA := tr38 K (lp38_7 K K) a0_0 a0_1 a0_2 a0_3 a0_4 a1_0 a1_1 a1_2 a1_3 a1_4
def fr38_11 (y1 : LA) (y2 : LA) (y3 : LA) (y4 : LA) (y5 : Int) (y6 : Int) (y7 : Int) (y8 : Int) (y9 : Int) (y10 : Int) (y11 : Int) (y12 : LA) (y13 : Int) (y14 : Int) : Fr := { slots := gap 2 ((.undef, .loc 2 0) :: gap 4 ((.sl 121 y1, .uni .ro) :: (.sl 121 y2, .uni .ro) :: (.sl 52 y3, .uni .own) :: (.sl 22 y4, .uni .own) :: (I y5, .uni .ro) :: (.undef, .loc 12 0) :: gap 42 ((I y6, .uni .ro) :: (I y7, .uni .ro) :: gap 72 []))), boxes := [(2, [(I y8, .ro), (I y9, .ro), (I y10, .ro), (I y11, .ro), (.sl 97 y12, .lent)]), (12, [(I y13, .ro), (I y14, .ro)])] }
def fr38_7 (y1 : LA) (y2 : LA) (y3 : LA) (y4 : LA) (y5 : Int) (y6 : Int) (y7 : Int) (y8 : Int) (y9 : Int) (y10 : LA) : Fr := { slots := gap 2 ((.undef, .loc 2 0) :: gap 4 ((.sl 121 y1, .uni .ro) :: (.sl 121 y2, .uni .ro) :: (.sl 52 y3, .uni .own) :: (.sl 22 y4, .uni .own) :: (I y5, .uni .ro) :: gap 117 [])), boxes := [(2, [(I y6, .ro), (I y7, .ro), (I y8, .ro), (I y9, .ro), (.sl 97 y10, .lent)])] }
theorem st38_11 (K : Nat) (RO7 : Fr → OA) (k : Nat) (y1 : LA) (y2 : LA) (y3 : LA) (y4 : LA) (y5 : Int) (y6 : Int) (y7 : Int) (y8 : Int) (y9 : Int) (y10 : Int) (y11 : Int) (y12 : LA) (y13 : Int) (y14 : Int) : mlp 38 Tryd.f38 K 11 (fun i_ => if i_ = 7 then RO7 else fun _ => none) (k + 1) (fr38_11 y1 y2 y3 y4 y5 y6 y7 y8 y9 y10 y11 y12 y13 y14) = tr38_11 K (fun y1 y2 y3 y4 y5 y6 y7 y8 y9 y10 => RO7 (fr38_7 y1 y2 y3 y4 y5 y6 y7 y8 y9 y10)) (fun y1 y2 y3 y4 y5 y6 y7 y8 y9 y10 y11 y12 y13 y14 => mlp 38 Tryd.f38 K 11 (fun i_ => if i_ = 7 then RO7 else fun _ => none) k (fr38_11 y1 y2 y3 y4 y5 y6 y7 y8 y9 y10 y11 y12 y13 y14)) y1 y2 y3 y4 y5 y6 y7 y8 y9 y10 y11 y12 y13 y14 := by kernel_rfl
theorem lq38_11 (K : Nat) (RO7 : Fr → OA) : ∀ (k : Nat) (y1 : LA) (y2 : LA) (y3 : LA) (y4 : LA) (y5 : Int) (y6 : Int) (y7 : Int) (y8 : Int) (y9 : Int) (y10 : Int) (y11 : Int) (y12 : LA) (y13 : Int) (y14 : Int), mlp 38 Tryd.f38 K 11 (fun i_ => if i_ = 7 then RO7 else fun _ => none) k (fr38_11 y1 y2 y3 y4 y5 y6 y7 y8 y9 y10 y11 y12 y13 y14) = lp38_11 K (fun y1 y2 y3 y4 y5 y6 y7 y8 y9 y10 => RO7 (fr38_7 y1 y2 y3 y4 y5 y6 y7 y8 y9 y10)) k y1 y2 y3 y4 y5 y6 y7 y8 y9 y10 y11 y12 y13 y14
  | 0, _, _, _, _, _, _, _, _, _, _, _, _, _, _ => rfl
  | k + 1, y1, y2, y3, y4, y5, y6, y7, y8, y9, y10, y11, y12, y13, y14 => by
    rw [st38_11]
    have ih := lq38_11 K RO7 k
    try simp only [ih]
    try rfl
theorem st38_7 (K : Nat) (k : Nat) (y1 : LA) (y2 : LA) (y3 : LA) (y4 : LA) (y5 : Int) (y6 : Int) (y7 : Int) (y8 : Int) (y9 : Int) (y10 : LA) : mlp 38 Tryd.f38 K 7 (fun i_ => fun _ => none) (k + 1) (fr38_7 y1 y2 y3 y4 y5 y6 y7 y8 y9 y10) = tr38_7 K (fun y1 y2 y3 y4 y5 y6 y7 y8 y9 y10 y11 y12 y13 y14 => mlp 38 Tryd.f38 K 11 (fun i_ => if i_ = 7 then (fun fr_ => mlp 38 Tryd.f38 K 7 (fun i_ => fun _ => none) k fr_) else fun _ => none) K (fr38_11 y1 y2 y3 y4 y5 y6 y7 y8 y9 y10 y11 y12 y13 y14)) y1 y2 y3 y4 y5 y6 y7 y8 y9 y10 := by kernel_rfl
theorem lq38_7 (K : Nat) : ∀ (k : Nat) (y1 : LA) (y2 : LA) (y3 : LA) (y4 : LA) (y5 : Int) (y6 : Int) (y7 : Int) (y8 : Int) (y9 : Int) (y10 : LA), mlp 38 Tryd.f38 K 7 (fun i_ => fun _ => none) k (fr38_7 y1 y2 y3 y4 y5 y6 y7 y8 y9 y10) = lp38_7 K k y1 y2 y3 y4 y5 y6 y7 y8 y9 y10
  | 0, _, _, _, _, _, _, _, _, _, _ => rfl
  | k + 1, y1, y2, y3, y4, y5, y6, y7, y8, y9, y10 => by
    rw [st38_7]
    have ih := lq38_7 K k
    have ih11 := lq38_11 K (fun fr_ => mlp 38 Tryd.f38 K 7 (fun i_ => fun _ => none) k fr_) K
    try simp only [ih, ih11]
    try rfl
theorem eq38 (K : Nat) (a0_0 : Int) (a0_1 : Int) (a0_2 : Int) (a0_3 : Int) (a0_4 : LA) (a1_0 : Int) (a1_1 : Int) (a1_2 : Int) (a1_3 : Int) (a1_4 : LA) : run tab (K + 1) 38 [.agg [I a0_0, I a0_1, I a0_2, I a0_3, .sl 97 a0_4], .agg [I a1_0, I a1_1, I a1_2, I a1_3, .sl 97 a1_4]] = sh38 K a0_0 a0_1 a0_2 a0_3 a0_4 a1_0 a1_1 a1_2 a1_3 a1_4 := by
  have h : run tab (K + 1) 38 [.agg [I a0_0, I a0_1, I a0_2, I a0_3, .sl 97 a0_4], .agg [I a1_0, I a1_1, I a1_2, I a1_3, .sl 97 a1_4]] = tr38 K (fun y1 y2 y3 y4 y5 y6 y7 y8 y9 y10 => mlp 38 Tryd.f38 K 7 (fun i_ => fun _ => none) K (fr38_7 y1 y2 y3 y4 y5 y6 y7 y8 y9 y10)) a0_0 a0_1 a0_2 a0_3 a0_4 a1_0 a1_1 a1_2 a1_3 a1_4 := by kernel_rfl
  rw [h]
  simp only [lq38_7]
  rfl

def tr43_4 (K : Nat) (q4 : LA → LA → LA → Int → Int → Int → Int → Int → LA → OA) (y1 : LA) (y2 : LA) (y3 : LA) (y4 : Int) (y5 : Int) (y6 : Int) (y7 : Int) (y8 : Int) (y9 : LA) : OA :=
  match decide (y4 < (y3.length : Int)) with | true => (if 0 ≤ y4 then (match y3[y4.toNat]? with | some x1105 => (castI .i64 x1105 fun n1106 => if 0 ≤ n1106 then (match y9[n1106.toNat]? with | some x1107 => (castI .i64 (cellN x1107 2) fun n1108 => if 0 ≤ y4 then (match y3[y4.toNat]? with | some x1109 => (castI .i64 x1109 fun n1110 => if 0 ≤ n1110 then (match y9[n1110.toNat]? with | some x1111 => (castI .i64 (cellN x1111 3) fun n1112 => if (y1.length + ([I n1108] : LA).length) * 8 ≤ maxBytes then (if (y2.length + ([I n1112] : LA).length) * 8 ≤ maxBytes then (q4 (y1 ++ ([I n1108] : LA)) (y2 ++ ([I n1112] : LA)) y3 (IntKind.i64.wrap (y4 + 1)) y5 y6 y7 y8 y9) else none) else none) | none => none) else none) | none => none) else none) | none => none) else none) | none => none) else none) | false => (some (.tup [.sl 3 y1, .sl 3 y2]))
def tr43 (K : Nat) (q4 : LA → LA → LA → Int → Int → Int → Int → Int → LA → OA) (a0_0 : Int) (a0_1 : Int) (a0_2 : Int) (a0_3 : Int) (a0_4 : LA) (a1 : Int) (a2 : LA) : OA :=
  match run tab K 77 [.agg [I a0_0, I a0_1, I a0_2, I a0_3, .sl 97 a0_4], I a1, .sl 3 a2] with | some r1103 => (castL 3 r1103 fun l1104 => q4 ([] : LA) ([] : LA) l1104 (0 : Int) a0_0 a0_1 a0_2 a0_3 a0_4) | none => none
def lp43_4 (K : Nat) : Nat → LA → LA → LA → Int → Int → Int → Int → Int → LA → OA
  | 0, _, _, _, _, _, _, _, _, _ => none
  | k + 1, y1, y2, y3, y4, y5, y6, y7, y8, y9 => tr43_4 K (lp43_4 K k) y1 y2 y3 y4 y5 y6 y7 y8 y9
def sh43 (K : Nat) (a0_0 : Int) (a0_1 : Int) (a0_2 : Int) (a0_3 : Int) (a0_4 : LA) (a1 : Int) (a2 : LA) : OA := tr43 K (lp43_4 K K) a0_0 a0_1 a0_2 a0_3 a0_4 a1 a2
def fr43_4 (y1 : LA) (y2 : LA) (y3 : LA) (y4 : Int) (y5 : Int) (y6 : Int) (y7 : Int) (y8 : Int) (y9 : LA) : Fr := { slots := gap 3 ((.undef, .loc 3 0) :: gap 4 ((.sl 3 y1, .uni .own) :: (.sl 3 y2, .uni .own) :: (.sl 3 y3, .uni .own) :: (I y4, .uni .ro) :: gap 36 [])), boxes := [(3, [(I y5, .ro), (I y6, .ro), (I y7, .ro), (I y8, .ro), (.sl 97 y9, .lent)])] }
theorem st43_4 (K : Nat) (k : Nat) (y1 : LA) (y2 : LA) (y3 : LA) (y4 : Int) (y5 : Int) (y6 : Int) (y7 : Int) (y8 : Int) (y9 : LA) : mlp 43 Tryd.f43 K 4 (fun i_ => fun _ => none) (k + 1) (fr43_4 y1 y2 y3 y4 y5 y6 y7 y8 y9) = tr43_4 K (fun y1 y2 y3 y4 y5 y6 y7 y8 y9 => mlp 43 Tryd.f43 K 4 (fun i_ => fun _ => none) k (fr43_4 y1 y2 y3 y4 y5 y6 y7 y8 y9)) y1 y2 y3 y4 y5 y6 y7 y8 y9 := by kernel_rfl
theorem lq43_4 (K : Nat) : ∀ (k : Nat) (y1 : LA) (y2 : LA) (y3 : LA) (y4 : Int) (y5 : Int) (y6 : Int) (y7 : Int) (y8 : Int) (y9 : LA), mlp 43 Tryd.f43 K 4 (fun i_ => fun _ => none) k (fr43_4 y1 y2 y3 y4 y5 y6 y7 y8 y9) = lp43_4 K k y1 y2 y3 y4 y5 y6 y7 y8 y9
  | 0, _, _, _, _, _, _, _, _, _ => rfl
  | k + 1, y1, y2, y3, y4, y5, y6, y7, y8, y9 => by
    rw [st43_4]
    have ih := lq43_4 K k
    try simp only [ih]
    try rfl
theorem eq43 (K : Nat) (a0_0 : Int) (a0_1 : Int) (a0_2 : Int) (a0_3 : Int) (a0_4 : LA) (a1 : Int) (a2 : LA) : run tab (K + 1) 43 [.agg [I a0_0, I a0_1, I a0_2, I a0_3, .sl 97 a0_4], I a1, .sl 3 a2] = sh43 K a0_0 a0_1 a0_2 a0_3 a0_4 a1 a2 := by
  have h : run tab (K + 1) 43 [.agg [I a0_0, I a0_1, I a0_2, I a0_3, .sl 97 a0_4], I a1, .sl 3 a2] = tr43 K (fun y1 y2 y3 y4 y5 y6 y7 y8 y9 => mlp 43 Tryd.f43 K 4 (fun i_ => fun _ => none) K (fr43_4 y1 y2 y3 y4 y5 y6 y7 y8 y9)) a0_0 a0_1 a0_2 a0_3 a0_4 a1 a2 := by kernel_rfl
  rw [h]
  simp only [lq43_4]
  rfl

def tr51_2 (K : Nat) (q2 : LA → AV → Int → Int → OA) (y1 : LA) (y2 : AV) (y3 : Int) (y4 : Int) : OA :=
  match decide (y4 < y3) with | true => (if 0 ≤ y4 then (match y1[y4.toNat]? with | some x1148 => (castL 3 x1148 fun l1149 => castFn y2 fun g1150 c1151 => match run tab K g1150 ([.sl 3 l1149] ++ c1151) with | some r1152 => (castB r1152 fun b1153 => match b1153 with | true => (some (I y4)) | false => (q2 y1 y2 y3 (IntKind.i64.wrap (y4 + 1)))) | none => none) | none => none) else none) | false => (some (I (-1)))
def tr51 (K : Nat) (q2 : LA → AV → Int → Int → OA) (a0 : LA) (a1 : AV) : OA :=
  q2 a0 a1 (a0.length : Int) (0 : Int)
def lp51_2 (K : Nat) : Nat → LA → AV → Int → Int → OA
  | 0, _, _, _, _ => none
  | k + 1, y1, y2, y3, y4 => tr51_2 K (lp51_2 K k) y1 y2 y3 y4
def sh51 (K : Nat) (a0 : LA) (a1 : AV) : OA := tr51 K (lp51_2 K K) a0 a1
def fr51_2 (y1 : LA) (y2 : AV) (y3 : Int) (y4 : Int) : Fr := { slots := (.sl 22 y1, .uni .lent) :: (y2, .uni .lent) :: gap 5 ((I y3, .uni .ro) :: (I y4, .uni .ro) :: gap 10 []), boxes := [] }
theorem st51_2 (K : Nat) (k : Nat) (y1 : LA) (y2 : AV) (y3 : Int) (y4 : Int) : mlp 51 Tryd.f51 K 2 (fun i_ => fun _ => none) (k + 1) (fr51_2 y1 y2 y3 y4) = tr51_2 K (fun y1 y2 y3 y4 => mlp 51 Tryd.f51 K 2 (fun i_ => fun _ => none) k (fr51_2 y1 y2 y3 y4)) y1 y2 y3 y4 := by kernel_rfl
theorem lq51_2 (K : Nat) : ∀ (k : Nat) (y1 : LA) (y2 : AV) (y3 : Int) (y4 : Int), mlp 51 Tryd.f51 K 2 (fun i_ => fun _ => none) k (fr51_2 y1 y2 y3 y4) = lp51_2 K k y1 y2 y3 y4
  | 0, _, _, _, _ => rfl
  | k + 1, y1, y2, y3, y4 => by
    rw [st51_2]
    have ih := lq51_2 K k
    try simp only [ih]
    try rfl
theorem eq51 (K : Nat) (a0 : LA) (a1 : AV) : run tab (K + 1) 51 [.sl 22 a0, a1] = sh51 K a0 a1 := by
  have h : run tab (K + 1) 51 [.sl 22 a0, a1] = tr51 K (fun y1 y2 y3 y4 => mlp 51 Tryd.f51 K 2 (fun i_ => fun _ => none) K (fr51_2 y1 y2 y3 y4)) a0 a1 := by kernel_rfl
  rw [h]
  simp only [lq51_2]
  rfl

def tr53_4 (K : Nat) (q4 : LA → LA → Int → Int → OA) (y1 : LA) (y2 : LA) (y3 : Int) (y4 : Int) : OA :=
  match decide (y4 < y3) with | true => (if 0 ≤ y4 then (match y1[y4.toNat]? with | some x1159 => (castI .i64 x1159 fun n1160 => if 0 ≤ y4 then (match y2[y4.toNat]? with | some x1161 => (castI .i64 x1161 fun n1162 => match (n1160 != n1162) with | true => (some (B false)) | false => (q4 y1 y2 y3 (IntKind.i64.wrap (y4 + 1)))) | none => none) else none) | none => none) else none) | false => (some (B true))
def tr53 (K : Nat) (q4 : LA → LA → Int → Int → OA) (a0 : LA) (a1 : LA) : OA :=
  match ((a0.length : Int) != (a1.length : Int)) with | true => (some (B false)) | false => (q4 a0 a1 (a0.length : Int) (0 : Int))
def lp53_4 (K : Nat) : Nat → LA → LA → Int → Int → OA
  | 0, _, _, _, _ => none
  | k + 1, y1, y2, y3, y4 => tr53_4 K (lp53_4 K k) y1 y2 y3 y4
def sh53 (K : Nat) (a0 : LA) (a1 : LA) : OA := tr53 K (lp53_4 K K) a0 a1
def fr53_4 (y1 : LA) (y2 : LA) (y3 : Int) (y4 : Int) : Fr := { slots := (.sl 3 y1, .uni .lent) :: (.sl 3 y2, .uni .lent) :: gap 10 ((I y3, .uni .ro) :: (I y4, .uni .ro) :: gap 12 []), boxes := [] }
theorem st53_4 (K : Nat) (k : Nat) (y1 : LA) (y2 : LA) (y3 : Int) (y4 : Int) : mlp 53 Tryd.f53 K 4 (fun i_ => fun _ => none) (k + 1) (fr53_4 y1 y2 y3 y4) = tr53_4 K (fun y1 y2 y3 y4 => mlp 53 Tryd.f53 K 4 (fun i_ => fun _ => none) k (fr53_4 y1 y2 y3 y4)) y1 y2 y3 y4 := by kernel_rfl
theorem lq53_4 (K : Nat) : ∀ (k : Nat) (y1 : LA) (y2 : LA) (y3 : Int) (y4 : Int), mlp 53 Tryd.f53 K 4 (fun i_ => fun _ => none) k (fr53_4 y1 y2 y3 y4) = lp53_4 K k y1 y2 y3 y4
  | 0, _, _, _, _ => rfl
  | k + 1, y1, y2, y3, y4 => by
    rw [st53_4]
    have ih := lq53_4 K k
    try simp only [ih]
    try rfl
theorem eq53 (K : Nat) (a0 : LA) (a1 : LA) : run tab (K + 1) 53 [.sl 3 a0, .sl 3 a1] = sh53 K a0 a1 := by
  have h : run tab (K + 1) 53 [.sl 3 a0, .sl 3 a1] = tr53 K (fun y1 y2 y3 y4 => mlp 53 Tryd.f53 K 4 (fun i_ => fun _ => none) K (fr53_4 y1 y2 y3 y4)) a0 a1 := by kernel_rfl
  rw [h]
  simp only [lq53_4]
  rfl

def tr60_2 (K : Nat) (q2 : LA → LA → Int → OA) (y1 : LA) (y2 : LA) (y3 : Int) : OA :=
  match decide (y3 < (y1.length : Int)) with | true => (match decide (y3 < (y2.length : Int)) with | true => (if 0 ≤ y3 then (match y1[y3.toNat]? with | some x1209 => (castI .i64 x1209 fun n1210 => if 0 ≤ y3 then (match y2[y3.toNat]? with | some x1211 => (castI .i64 x1211 fun n1212 => match (n1210 != n1212) with | true => (if 0 ≤ y3 then (match y1[y3.toNat]? with | some x1213 => (castI .i64 x1213 fun n1214 => if 0 ≤ y3 then (match y2[y3.toNat]? with | some x1215 => (castI .i64 x1215 fun n1216 => match run tab K 81 [B (decide (n1214 > n1216))] with | some r1217 => (castI .i64 r1217 fun n1218 => some (I (IntKind.i64.wrap ((IntKind.i64.wrap (2 * n1218)) - 1)))) | none => none) | none => none) else none) | none => none) else none) | false => (q2 y1 y2 (IntKind.i64.wrap (y3 + 1)))) | none => none) else none) | none => none) else none) | false => (match run tab K 81 [B (decide ((y1.length : Int) > (y2.length : Int)))] with | some r1219 => (castI .i64 r1219 fun n1220 => match run tab K 81 [B (decide ((y1.length : Int) < (y2.length : Int)))] with | some r1221 => (castI .i64 r1221 fun n1222 => some (I (IntKind.i64.wrap (n1220 - n1222)))) | none => none) | none => none)) | false => (match run tab K 81 [B (decide ((y1.length : Int) > (y2.length : Int)))] with | some r1223 => (castI .i64 r1223 fun n1224 => match run tab K 81 [B (decide ((y1.length : Int) < (y2.length : Int)))] with | some r1225 => (castI .i64 r1225 fun n1226 => some (I (IntKind.i64.wrap (n1224 - n1226)))) | none => none) | none => none)
def tr60 (K : Nat) (q2 : LA → LA → Int → OA) (a0 : LA) (a1 : LA) : OA :=
  q2 a0 a1 (0 : Int)
def lp60_2 (K : Nat) : Nat → LA → LA → Int → OA
  | 0, _, _, _ => none
  | k + 1, y1, y2, y3 => tr60_2 K (lp60_2 K k) y1 y2 y3
def sh60 (K : Nat) (a0 : LA) (a1 : LA) : OA := tr60 K (lp60_2 K K) a0 a1
def fr60_2 (y1 : LA) (y2 : LA) (y3 : Int) : Fr := { slots := (.sl 3 y1, .uni .lent) :: (.sl 3 y2, .uni .lent) :: gap 3 ((I y3, .uni .ro) :: gap 46 []), boxes := [] }
theorem st60_2 (K : Nat) (k : Nat) (y1 : LA) (y2 : LA) (y3 : Int) : mlp 60 Tryd.f60 K 2 (fun i_ => fun _ => none) (k + 1) (fr60_2 y1 y2 y3) = tr60_2 K (fun y1 y2 y3 => mlp 60 Tryd.f60 K 2 (fun i_ => fun _ => none) k (fr60_2 y1 y2 y3)) y1 y2 y3 := by kernel_rfl
theorem lq60_2 (K : Nat) : ∀ (k : Nat) (y1 : LA) (y2 : LA) (y3 : Int), mlp 60 Tryd.f60 K 2 (fun i_ => fun _ => none) k (fr60_2 y1 y2 y3) = lp60_2 K k y1 y2 y3
  | 0, _, _, _ => rfl
  | k + 1, y1, y2, y3 => by
    rw [st60_2]
    have ih := lq60_2 K k
    try simp only [ih]
    try rfl
theorem eq60 (K : Nat) (a0 : LA) (a1 : LA) : run tab (K + 1) 60 [.sl 3 a0, .sl 3 a1] = sh60 K a0 a1 := by
  have h : run tab (K + 1) 60 [.sl 3 a0, .sl 3 a1] = tr60 K (fun y1 y2 y3 => mlp 60 Tryd.f60 K 2 (fun i_ => fun _ => none) K (fr60_2 y1 y2 y3)) a0 a1 := by kernel_rfl
  rw [h]
  simp only [lq60_2]
  rfl

def tr66 (K : Nat) (a0_0 : Int) (a0_1 : Int) (a0_2 : Int) (a0_3 : Int) (a0_4 : LA) : OA :=
  match run tab K 20 [.agg [I a0_0, I a0_1, I a0_2, I a0_3, .sl 97 a0_4]] with | some r1360 => (castI .i64 (compN r1360 0) fun n1361 => castI .i64 (compN r1360 1) fun n1362 => some (I n1362)) | none => none
def sh66 (K : Nat) (a0_0 : Int) (a0_1 : Int) (a0_2 : Int) (a0_3 : Int) (a0_4 : LA) : OA := tr66 K a0_0 a0_1 a0_2 a0_3 a0_4
theorem eq66 (K : Nat) (a0_0 : Int) (a0_1 : Int) (a0_2 : Int) (a0_3 : Int) (a0_4 : LA) : run tab (K + 1) 66 [.agg [I a0_0, I a0_1, I a0_2, I a0_3, .sl 97 a0_4]] = sh66 K a0_0 a0_1 a0_2 a0_3 a0_4 := by kernel_rfl

def tr68_2 (K : Nat) (q2 : Int → Int → Int → Int → Int → Int → Int → LA → OA) (y1 : Int) (y2 : Int) (y3 : Int) (y4 : Int) (y5 : Int) (y6 : Int) (y7 : Int) (y8 : LA) : OA :=
  match decide (y3 < (y8.length : Int)) with | true => (if 0 ≤ y3 then (match y8[y3.toNat]? with | some x1363 => (castI .i64 (cellN x1363 0) fun n1364 => match (n1364 == y1) with | true => (if 0 ≤ y3 then (match y8[y3.toNat]? with | some x1365 => (castI .i64 (cellN x1365 1) fun n1366 => match (n1366 == y2) with | true => (some (I y3)) | false => (q2 y1 y2 (IntKind.i64.wrap (y3 + 1)) y4 y5 y6 y7 y8)) | none => none) else none) | false => (q2 y1 y2 (IntKind.i64.wrap (y3 + 1)) y4 y5 y6 y7 y8)) | none => none) else none) | false => (some (I (-1)))
def tr68 (K : Nat) (q2 : Int → Int → Int → Int → Int → Int → Int → LA → OA) (a0_0 : Int) (a0_1 : Int) (a0_2 : Int) (a0_3 : Int) (a0_4 : LA) (a1 : Int) (a2 : Int) : OA :=
  q2 a1 a2 (0 : Int) a0_0 a0_1 a0_2 a0_3 a0_4
def lp68_2 (K : Nat) : Nat → Int → Int → Int → Int → Int → Int → Int → LA → OA
  | 0, _, _, _, _, _, _, _, _ => none
  | k + 1, y1, y2, y3, y4, y5, y6, y7, y8 => tr68_2 K (lp68_2 K k) y1 y2 y3 y4 y5 y6 y7 y8
def sh68 (K : Nat) (a0_0 : Int) (a0_1 : Int) (a0_2 : Int) (a0_3 : Int) (a0_4 : LA) (a1 : Int) (a2 : Int) : OA := tr68 K (lp68_2 K K) a0_0 a0_1 a0_2 a0_3 a0_4 a1 a2
def fr68_2 (y1 : Int) (y2 : Int) (y3 : Int) (y4 : Int) (y5 : Int) (y6 : Int) (y7 : Int) (y8 : LA) : Fr := { slots := gap 1 ((I y1, .uni .ro) :: (I y2, .uni .ro) :: (.undef, .loc 3 0) :: gap 3 ((I y3, .uni .ro) :: gap 26 [])), boxes := [(3, [(I y4, .ro), (I y5, .ro), (I y6, .ro), (I y7, .ro), (.sl 97 y8, .lent)])] }
theorem st68_2 (K : Nat) (k : Nat) (y1 : Int) (y2 : Int) (y3 : Int) (y4 : Int) (y5 : Int) (y6 : Int) (y7 : Int) (y8 : LA) : mlp 68 Tryd.f68 K 2 (fun i_ => fun _ => none) (k + 1) (fr68_2 y1 y2 y3 y4 y5 y6 y7 y8) = tr68_2 K (fun y1 y2 y3 y4 y5 y6 y7 y8 => mlp 68 Tryd.f68 K 2 (fun i_ => fun _ => none) k (fr68_2 y1 y2 y3 y4 y5 y6 y7 y8)) y1 y2 y3 y4 y5 y6 y7 y8 := by kernel_rfl
theorem lq68_2 (K : Nat) : ∀ (k : Nat) (y1 : Int) (y2 : Int) (y3 : Int) (y4 : Int) (y5 : Int) (y6 : Int) (y7 : Int) (y8 : LA), mlp 68 Tryd.f68 K 2 (fun i_ => fun _ => none) k (fr68_2 y1 y2 y3 y4 y5 y6 y7 y8) = lp68_2 K k y1 y2 y3 y4 y5 y6 y7 y8
  | 0, _, _, _, _, _, _, _, _ => rfl
  | k + 1, y1, y2, y3, y4, y5, y6, y7, y8 => by
    rw [st68_2]
    have ih := lq68_2 K k
    try simp only [ih]
    try rfl
theorem eq68 (K : Nat) (a0_0 : Int) (a0_1 : Int) (a0_2 : Int) (a0_3 : Int) (a0_4 : LA) (a1 : Int) (a2 : Int) : run tab (K + 1) 68 [.agg [I a0_0, I a0_1, I a0_2, I a0_3, .sl 97 a0_4], I a1, I a2] = sh68 K a0_0 a0_1 a0_2 a0_3 a0_4 a1 a2 := by
  have h : run tab (K + 1) 68 [.agg [I a0_0, I a0_1, I a0_2, I a0_3, .sl 97 a0_4], I a1, I a2] = tr68 K (fun y1 y2 y3 y4 y5 y6 y7 y8 => mlp 68 Tryd.f68 K 2 (fun i_ => fun _ => none) K (fr68_2 y1 y2 y3 y4 y5 y6 y7 y8)) a0_0 a0_1 a0_2 a0_3 a0_4 a1 a2 := by kernel_rfl
  rw [h]
  simp only [lq68_2]
  rfl

def tr71 (K : Nat) (a0 : LA) (a1_0 : Int) (a1_1 : Int) : OA :=
  match run tab K 92 [.sl 52 a0, .agg [I a1_0, I a1_1]] with | some r1371 => (castI .i64 r1371 fun n1372 => some (B (decide (n1372 ≥ (0 : Int))))) | none => none
def sh71 (K : Nat) (a0 : LA) (a1_0 : Int) (a1_1 : Int) : OA := tr71 K a0 a1_0 a1_1
theorem eq71 (K : Nat) (a0 : LA) (a1_0 : Int) (a1_1 : Int) : run tab (K + 1) 71 [.sl 52 a0, .agg [I a1_0, I a1_1]] = sh71 K a0 a1_0 a1_1 := by kernel_rfl

def tr73_11 (K : Nat) (q7 : LA → LA → Int → LA → LA → LA → Int → Int → Int → Int → Int → Int → LA → OA) (q11 : LA → LA → Int → LA → LA → Int → LA → Int → Int → LA → Int → Int → Int → Int → Int → Int → LA → LA → OA) (y1 : LA) (y2 : LA) (y3 : Int) (y4 : LA) (y5 : LA) (y6 : Int) (y7 : LA) (y8 : Int) (y9 : Int) (y10 : LA) (y11 : Int) (y12 : Int) (y13 : Int) (y14 : Int) (y15 : Int) (y16 : Int) (y17 : LA) (y18 : LA) : OA :=
  match decide (y12 < y11) with | true => (if 0 ≤ y12 then (match y10[y12.toNat]? with | some x1411 => (castP x1411 fun q1412 => castNil q1412 fun b1413 => match b1413 with | true => (if (y18.length + ([I (-1), I (-1)] : LA).length) * 8 ≤ maxBytes then (q11 y1 y2 y3 y4 y5 y6 y7 y8 y9 y10 y11 (IntKind.i64.wrap (y12 + 1)) y13 y14 y15 y16 y17 (y18 ++ ([I (-1), I (-1)] : LA))) else none) | false => (castRef q1412 fun p1414 => castRef (.ref p1414) fun p1415 => castI .i64 (p1415.getD 2 .undef) fun n1416 => castRef q1412 fun p1417 => castRef (.ref p1417) fun p1418 => castI .i64 (p1418.getD 3 .undef) fun n1419 => if 0 ≤ n1419 then (match y2[n1419.toNat]? with | some x1420 => (castI .i64 x1420 fun n1421 => if (y18.length + ([I n1416, I n1421] : LA).length) * 8 ≤ maxBytes then (q11 y1 y2 y3 y4 y5 y6 y7 y8 y9 y10 y11 (IntKind.i64.wrap (y12 + 1)) y13 y14 y15 y16 y17 (y18 ++ ([I n1416, I n1421] : LA))) else none) | none => none) else none)) | none => none) else none) | false => (match run tab K 51 [.sl 22 y4, .fn 94 [.ref [.sl 3 y18]]] with | some r1422 => (castI .i64 r1422 fun n1423 => match decide (n1423 < (0 : Int)) with | true => (if (y4.length + ([.sl 3 y18] : LA).length) * 24 ≤ maxBytes then (if 0 ≤ y6 then (match y5[y6.toNat]? with | some x1424 => (if y6.toNat < y5.length then (q7 y1 y2 y3 (y4 ++ ([.sl 3 y18] : LA)) (y5.set y6.toNat (I (y4.length : Int) : AV)) y7 y8 (IntKind.i64.wrap (y9 + 1)) y13 y14 y15 y16 y17) else none) | none => none) else none) else none) | false => (if 0 ≤ y6 then (match y5[y6.toNat]? with | some x1425 => (if y6.toNat < y5.length then (q7 y1 y2 y3 y4 (y5.set y6.toNat (I n1423 : AV)) y7 y8 (IntKind.i64.wrap (y9 + 1)) y13 y14 y15 y16 y17) else none) | none => none) else none)) | none => none)
def tr73_7 (K : Nat) (q4 : LA → LA → Int → Int → Int → Int → Int → LA → OA) (q11 : LA → LA → Int → LA → LA → Int → LA → Int → Int → LA → Int → Int → Int → Int → Int → Int → LA → LA → OA) (y1 : LA) (y2 : LA) (y3 : Int) (y4 : LA) (y5 : LA) (y6 : LA) (y7 : Int) (y8 : Int) (y9 : Int) (y10 : Int) (y11 : Int) (y12 : Int) (y13 : LA) : OA :=
  match decide (y8 < y7) with | true => (if 0 ≤ y8 then (match y6[y8.toNat]? with | some x1407 => (castL 122 x1407 fun l1408 => if 0 ≤ y8 then (match y2[y8.toNat]? with | some x1409 => (castI .i64 x1409 fun n1410 => q11 y1 y2 y3 y4 y5 y8 y6 y7 y8 l1408 (l1408.length : Int) (0 : Int) y9 y10 y11 y12 y13 ([I n1410] : LA)) | none => none) else none) | none => none) else none) | false => (match ((y4.length : Int) == y3) with | true => (some (.sl 3 y5)) | false => (q4 y1 y5 (y4.length : Int) y9 y10 y11 y12 y13))
def tr73_4 (K : Nat) (q7 : LA → LA → Int → LA → LA → LA → Int → Int → Int → Int → Int → Int → LA → OA) (y1 : LA) (y2 : LA) (y3 : Int) (y4 : Int) (y5 : Int) (y6 : Int) (y7 : Int) (y8 : LA) : OA :=
  if y4 = y4 ∧ 0 ≤ y4 ∧ y4.toNat * 8 ≤ maxBytes then (q7 y1 y2 y3 ([] : LA) (List.replicate y4.toNat (I 0 : AV)) y1 (y1.length : Int) (0 : Int) y4 y5 y6 y7 y8) else none
def tr73 (K : Nat) (q4 : LA → LA → Int → Int → Int → Int → Int → LA → OA) (a0_0 : Int) (a0_1 : Int) (a0_2 : Int) (a0_3 : Int) (a0_4 : LA) : OA :=
  match run tab K 67 [.agg [I a0_0, I a0_1, I a0_2, I a0_3, .sl 97 a0_4]] with | some r1405 => (castL 121 r1405 fun l1406 => if a0_0 = a0_0 ∧ 0 ≤ a0_0 ∧ a0_0.toNat * 8 ≤ maxBytes then (q4 l1406 (List.replicate a0_0.toNat (I 0 : AV)) (1 : Int) a0_0 a0_1 a0_2 a0_3 a0_4) else none) | none => none
def lp73_11 (K : Nat) (q4 : LA → LA → Int → Int → Int → Int → Int → LA → OA) (q7 : LA → LA → Int → LA → LA → LA → Int → Int → Int → Int → Int → Int → LA → OA) : Nat → LA → LA → Int → LA → LA → Int → LA → Int → Int → LA → Int → Int → Int → Int → Int → Int → LA → LA → OA
  | 0, _, _, _, _, _, _, _, _, _, _, _, _, _, _, _, _, _, _ => none
  | k + 1, y1, y2, y3, y4, y5, y6, y7, y8, y9, y10, y11, y12, y13, y14, y15, y16, y17, y18 => tr73_11 K q7 (lp73_11 K q4 q7 k) y1 y2 y3 y4 y5 y6 y7 y8 y9 y10 y11 y12 y13 y14 y15 y16 y17 y18
def lp73_7 (K : Nat) (q4 : LA → LA → Int → Int → Int → Int → Int → LA → OA) : Nat → LA → LA → Int → LA → LA → LA → Int → Int → Int → Int → Int → Int → LA → OA
  | 0, _, _, _, _, _, _, _, _, _, _, _, _, _ => none
  | k + 1, y1, y2, y3, y4, y5, y6, y7, y8, y9, y10, y11, y12, y13 => tr73_7 K q4 (lp73_11 K q4 (lp73_7 K q4 k) K) y1 y2 y3 y4 y5 y6 y7 y8 y9 y10 y11 y12 y13
def lp73_4 (K : Nat) : Nat → LA → LA → Int → Int → Int → Int → Int → LA → OA
  | 0, _, _, _, _, _, _, _, _ => none
  | k + 1, y1, y2, y3, y4, y5, y6, y7, y8 => tr73_4 K (lp73_7 K (lp73_4 K k) K) y1 y2 y3 y4 y5 y6 y7 y8
def sh73 (K : Nat) (a0_0 : Int) (a0_1 : Int) (a0_2 : Int) (a0_3 : Int) (a0_4 : LA) : OA := tr73 K (lp73_4 K K) a0_0 a0_1 a0_2 a0_3 a0_4
def fr73_11 (y1 : LA) (y2 : LA) (y3 : Int) (y4 : LA) (y5 : LA) (y6 : Int) (y7 : LA) (y8 : Int) (y9 : Int) (y10 : LA) (y11 : Int) (y12 : Int) (y13 : Int) (y14 : Int) (y15 : Int) (y16 : Int) (y17 : LA) (y18 : LA) : Fr := { slots := gap 1 ((.undef, .loc 1 0) :: gap 1 ((.sl 121 y1, .uni .ro) :: (.sl 3 y2, .uni .own) :: (I y3, .uni .ro) :: (.sl 22 y4, .uni .own) :: (.sl 3 y5, .uni .own) :: (I y6, .uni .ro) :: gap 1 ((.undef, .loc 10 0) :: gap 11 ((.sl 121 y7, .uni .ro) :: (I y8, .uni .ro) :: (I y9, .uni .ro) :: gap 9 ((.sl 122 y10, .uni .ro) :: (I y11, .uni .ro) :: (I y12, .uni .ro) :: gap 47 []))))), boxes := [(1, [(I y13, .ro), (I y14, .ro), (I y15, .ro), (I y16, .ro), (.sl 97 y17, .lent)]), (10, [(.sl 3 y18, .own)])] }
def fr73_7 (y1 : LA) (y2 : LA) (y3 : Int) (y4 : LA) (y5 : LA) (y6 : LA) (y7 : Int) (y8 : Int) (y9 : Int) (y10 : Int) (y11 : Int) (y12 : Int) (y13 : LA) : Fr := { slots := gap 1 ((.undef, .loc 1 0) :: gap 1 ((.sl 121 y1, .uni .ro) :: (.sl 3 y2, .uni .own) :: (I y3, .uni .ro) :: (.sl 22 y4, .uni .own) :: (.sl 3 y5, .uni .own) :: gap 14 ((.sl 121 y6, .uni .ro) :: (I y7, .uni .ro) :: (I y8, .uni .ro) :: gap 59 []))), boxes := [(1, [(I y9, .ro), (I y10, .ro), (I y11, .ro), (I y12, .ro), (.sl 97 y13, .lent)])] }
def fr73_4 (y1 : LA) (y2 : LA) (y3 : Int) (y4 : Int) (y5 : Int) (y6 : Int) (y7 : Int) (y8 : LA) : Fr := { slots := gap 1 ((.undef, .loc 1 0) :: gap 1 ((.sl 121 y1, .uni .ro) :: (.sl 3 y2, .uni .own) :: (I y3, .uni .ro) :: gap 78 [])), boxes := [(1, [(I y4, .ro), (I y5, .ro), (I y6, .ro), (I y7, .ro), (.sl 97 y8, .lent)])] }
theorem st73_11 (K : Nat) (RO4 : Fr → OA) (RO7 : Fr → OA) (k : Nat) (y1 : LA) (y2 : LA) (y3 : Int) (y4 : LA) (y5 : LA) (y6 : Int) (y7 : LA) (y8 : Int) (y9 : Int) (y10 : LA) (y11 : Int) (y12 : Int) (y13 : Int) (y14 : Int) (y15 : Int) (y16 : Int) (y17 : LA) (y18 : LA) : mlp 73 Tryd.f73 K 11 (fun i_ => if i_ = 4 then RO4 else if i_ = 7 then RO7 else fun _ => none) (k + 1) (fr73_11 y1 y2 y3 y4 y5 y6 y7 y8 y9 y10 y11 y12 y13 y14 y15 y16 y17 y18) = tr73_11 K (fun y1 y2 y3 y4 y5 y6 y7 y8 y9 y10 y11 y12 y13 => RO7 (fr73_7 y1 y2 y3 y4 y5 y6 y7 y8 y9 y10 y11 y12 y13)) (fun y1 y2 y3 y4 y5 y6 y7 y8 y9 y10 y11 y12 y13 y14 y15 y16 y17 y18 => mlp 73 Tryd.f73 K 11 (fun i_ => if i_ = 4 then RO4 else if i_ = 7 then RO7 else fun _ => none) k (fr73_11 y1 y2 y3 y4 y5 y6 y7 y8 y9 y10 y11 y12 y13 y14 y15 y16 y17 y18)) y1 y2 y3 y4 y5 y6 y7 y8 y9 y10 y11 y12 y13 y14 y15 y16 y17 y18 := by kernel_rfl
theorem lq73_11 (K : Nat) (RO4 : Fr → OA) (RO7 : Fr → OA) : ∀ (k : Nat) (y1 : LA) (y2 : LA) (y3 : Int) (y4 : LA) (y5 : LA) (y6 : Int) (y7 : LA) (y8 : Int) (y9 : Int) (y10 : LA) (y11 : Int) (y12 : Int) (y13 : Int) (y14 : Int) (y15 : Int) (y16 : Int) (y17 : LA) (y18 : LA), mlp 73 Tryd.f73 K 11 (fun i_ => if i_ = 4 then RO4 else if i_ = 7 then RO7 else fun _ => none) k (fr73_11 y1 y2 y3 y4 y5 y6 y7 y8 y9 y10 y11 y12 y13 y14 y15 y16 y17 y18) = lp73_11 K (fun y1 y2 y3 y4 y5 y6 y7 y8 => RO4 (fr73_4 y1 y2 y3 y4 y5 y6 y7 y8)) (fun y1 y2 y3 y4 y5 y6 y7 y8 y9 y10 y11 y12 y13 => RO7 (fr73_7 y1 y2 y3 y4 y5 y6 y7 y8 y9 y10 y11 y12 y13)) k y1 y2 y3 y4 y5 y6 y7 y8 y9 y10 y11 y12 y13 y14 y15 y16 y17 y18
  | 0, _, _, _, _, _, _, _, _, _, _, _, _, _, _, _, _, _, _ => rfl
  | k + 1, y1, y2, y3, y4, y5, y6, y7, y8, y9, y10, y11, y12, y13, y14, y15, y16, y17, y18 => by
    rw [st73_11]
    have ih := lq73_11 K RO4 RO7 k
    try simp only [ih]
    try rfl
theorem st73_7 (K : Nat) (RO4 : Fr → OA) (k : Nat) (y1 : LA) (y2 : LA) (y3 : Int) (y4 : LA) (y5 : LA) (y6 : LA) (y7 : Int) (y8 : Int) (y9 : Int) (y10 : Int) (y11 : Int) (y12 : Int) (y13 : LA) : mlp 73 Tryd.f73 K 7 (fun i_ => if i_ = 4 then RO4 else fun _ => none) (k + 1) (fr73_7 y1 y2 y3 y4 y5 y6 y7 y8 y9 y10 y11 y12 y13) = tr73_7 K (fun y1 y2 y3 y4 y5 y6 y7 y8 => RO4 (fr73_4 y1 y2 y3 y4 y5 y6 y7 y8)) (fun y1 y2 y3 y4 y5 y6 y7 y8 y9 y10 y11 y12 y13 y14 y15 y16 y17 y18 => mlp 73 Tryd.f73 K 11 (fun i_ => if i_ = 4 then RO4 else if i_ = 7 then (fun fr_ => mlp 73 Tryd.f73 K 7 (fun i_ => if i_ = 4 then RO4 else fun _ => none) k fr_) else fun _ => none) K (fr73_11 y1 y2 y3 y4 y5 y6 y7 y8 y9 y10 y11 y12 y13 y14 y15 y16 y17 y18)) y1 y2 y3 y4 y5 y6 y7 y8 y9 y10 y11 y12 y13 := by kernel_rfl
theorem lq73_7 (K : Nat) (RO4 : Fr → OA) : ∀ (k : Nat) (y1 : LA) (y2 : LA) (y3 : Int) (y4 : LA) (y5 : LA) (y6 : LA) (y7 : Int) (y8 : Int) (y9 : Int) (y10 : Int) (y11 : Int) (y12 : Int) (y13 : LA), mlp 73 Tryd.f73 K 7 (fun i_ => if i_ = 4 then RO4 else fun _ => none) k (fr73_7 y1 y2 y3 y4 y5 y6 y7 y8 y9 y10 y11 y12 y13) = lp73_7 K (fun y1 y2 y3 y4 y5 y6 y7 y8 => RO4 (fr73_4 y1 y2 y3 y4 y5 y6 y7 y8)) k y1 y2 y3 y4 y5 y6 y7 y8 y9 y10 y11 y12 y13
  | 0, _, _, _, _, _, _, _, _, _, _, _, _, _ => rfl
  | k + 1, y1, y2, y3, y4, y5, y6, y7, y8, y9, y10, y11, y12, y13 => by
    rw [st73_7]
    have ih := lq73_7 K RO4 k
    have ih11 := lq73_11 K RO4 (fun fr_ => mlp 73 Tryd.f73 K 7 (fun i_ => if i_ = 4 then RO4 else fun _ => none) k fr_) K
    try simp only [ih, ih11]
    try rfl
theorem st73_4 (K : Nat) (k : Nat) (y1 : LA) (y2 : LA) (y3 : Int) (y4 : Int) (y5 : Int) (y6 : Int) (y7 : Int) (y8 : LA) : mlp 73 Tryd.f73 K 4 (fun i_ => fun _ => none) (k + 1) (fr73_4 y1 y2 y3 y4 y5 y6 y7 y8) = tr73_4 K (fun y1 y2 y3 y4 y5 y6 y7 y8 y9 y10 y11 y12 y13 => mlp 73 Tryd.f73 K 7 (fun i_ => if i_ = 4 then (fun fr_ => mlp 73 Tryd.f73 K 4 (fun i_ => fun _ => none) k fr_) else fun _ => none) K (fr73_7 y1 y2 y3 y4 y5 y6 y7 y8 y9 y10 y11 y12 y13)) y1 y2 y3 y4 y5 y6 y7 y8 := by kernel_rfl
theorem lq73_4 (K : Nat) : ∀ (k : Nat) (y1 : LA) (y2 : LA) (y3 : Int) (y4 : Int) (y5 : Int) (y6 : Int) (y7 : Int) (y8 : LA), mlp 73 Tryd.f73 K 4 (fun i_ => fun _ => none) k (fr73_4 y1 y2 y3 y4 y5 y6 y7 y8) = lp73_4 K k y1 y2 y3 y4 y5 y6 y7 y8
  | 0, _, _, _, _, _, _, _, _ => rfl
  | k + 1, y1, y2, y3, y4, y5, y6, y7, y8 => by
    rw [st73_4]
    have ih := lq73_4 K k
    have ih7 := lq73_7 K (fun fr_ => mlp 73 Tryd.f73 K 4 (fun i_ => fun _ => none) k fr_) K
    try simp only [ih, ih7]
    try rfl
theorem eq73 (K : Nat) (a0_0 : Int) (a0_1 : Int) (a0_2 : Int) (a0_3 : Int) (a0_4 : LA) : run tab (K + 1) 73 [.agg [I a0_0, I a0_1, I a0_2, I a0_3, .sl 97 a0_4]] = sh73 K a0_0 a0_1 a0_2 a0_3 a0_4 := by
  have h : run tab (K + 1) 73 [.agg [I a0_0, I a0_1, I a0_2, I a0_3, .sl 97 a0_4]] = tr73 K (fun y1 y2 y3 y4 y5 y6 y7 y8 => mlp 73 Tryd.f73 K 4 (fun i_ => fun _ => none) K (fr73_4 y1 y2 y3 y4 y5 y6 y7 y8)) a0_0 a0_1 a0_2 a0_3 a0_4 := by kernel_rfl
  rw [h]
  simp only [lq73_4]
  rfl

def tr74_7 (K : Nat) (q4 : LA → LA → LA → Int → OA) (q7 : LA → LA → LA → Int → LA → Int → Int → OA) (y1 : LA) (y2 : LA) (y3 : LA) (y4 : Int) (y5 : LA) (y6 : Int) (y7 : Int) : OA :=
  match decide (y7 < y6) with | true => (if 0 ≤ y7 then (match y5[y7.toNat]? with | some x1432 => (castP x1432 fun q1433 => castNil q1433 fun b1434 => match (!b1434) with | true => (castRef q1433 fun p1435 => castRef (.ref p1435) fun p1436 => castI .i64 (p1436.getD 3 .undef) fun n1437 => match run tab K 95 [.sl 3 y2, I n1437] with | some r1438 => (castB r1438 fun b1439 => match (!b1439) with | true => (castRef q1433 fun p1440 => castRef (.ref p1440) fun p1441 => castI .i64 (p1441.getD 3 .undef) fun n1442 => if 0 ≤ y4 then (match y3[y4.toNat]? with | some x1443 => (castL 3 x1443 fun l1444 => if (y2.length + ([I n1442] : LA).length) * 8 ≤ maxBytes then (match run tab K 70 [.sl 3 l1444] with | some r1445 => (castL 3 r1445 fun l1446 => if (l1446.length + ([I y7] : LA).length) * 8 ≤ maxBytes then (if (y3.length + ([.sl 3 (l1446 ++ ([I y7] : LA))] : LA).length) * 24 ≤ maxBytes then (q7 y1 (y2 ++ ([I n1442] : LA)) (y3 ++ ([.sl 3 (l1446 ++ ([I y7] : LA))] : LA)) y4 y5 y6 (IntKind.i64.wrap (y7 + 1))) else none) else none) | none => none) else none) | none => none) else none) | false => (q7 y1 y2 y3 y4 y5 y6 (IntKind.i64.wrap (y7 + 1)))) | none => none) | false => (q7 y1 y2 y3 y4 y5 y6 (IntKind.i64.wrap (y7 + 1)))) | none => none) else none) | false => (q4 y1 y2 y3 (IntKind.i64.wrap (y4 + 1)))
def tr74_4 (K : Nat) (q7 : LA → LA → LA → Int → LA → Int → Int → OA) (y1 : LA) (y2 : LA) (y3 : LA) (y4 : Int) : OA :=
  match decide (y4 < (y2.length : Int)) with | true => (if 0 ≤ y4 then (match y2[y4.toNat]? with | some x1428 => (castI .i64 x1428 fun n1429 => if 0 ≤ n1429 then (match y1[n1429.toNat]? with | some x1430 => (castL 122 x1430 fun l1431 => q7 y1 y2 y3 y4 l1431 (l1431.length : Int) (0 : Int)) | none => none) else none) | none => none) else none) | false => (some (.tup [.sl 3 y2, .sl 22 y3]))
def tr74 (K : Nat) (q4 : LA → LA → LA → Int → OA) (a0_0 : Int) (a0_1 : Int) (a0_2 : Int) (a0_3 : Int) (a0_4 : LA) : OA :=
  match run tab K 67 [.agg [I a0_0, I a0_1, I a0_2, I a0_3, .sl 97 a0_4]] with | some r1426 => (castL 121 r1426 fun l1427 => q4 l1427 ([I a0_3] : LA) ([.sl 3 []] : LA) (0 : Int)) | none => none
def lp74_7 (K : Nat) (q4 : LA → LA → LA → Int → OA) : Nat → LA → LA → LA → Int → LA → Int → Int → OA
  | 0, _, _, _, _, _, _, _ => none
  | k + 1, y1, y2, y3, y4, y5, y6, y7 => tr74_7 K q4 (lp74_7 K q4 k) y1 y2 y3 y4 y5 y6 y7
def lp74_4 (K : Nat) : Nat → LA → LA → LA → Int → OA
  | 0, _, _, _, _ => none
  | k + 1, y1, y2, y3, y4 => tr74_4 K (lp74_7 K (lp74_4 K k) K) y1 y2 y3 y4
def sh74 (K : Nat) (a0_0 : Int) (a0_1 : Int) (a0_2 : Int) (a0_3 : Int) (a0_4 : LA) : OA := tr74 K (lp74_4 K K) a0_0 a0_1 a0_2 a0_3 a0_4
def fr74_7 (y1 : LA) (y2 : LA) (y3 : LA) (y4 : Int) (y5 : LA) (y6 : Int) (y7 : Int) : Fr := { slots := gap 4 ((.sl 121 y1, .uni .ro) :: (.sl 3 y2, .uni .own) :: (.sl 22 y3, .uni .own) :: (I y4, .uni .ro) :: gap 20 ((.sl 122 y5, .uni .ro) :: (I y6, .uni .ro) :: (I y7, .uni .ro) :: gap 36 [])), boxes := [] }
def fr74_4 (y1 : LA) (y2 : LA) (y3 : LA) (y4 : Int) : Fr := { slots := gap 4 ((.sl 121 y1, .uni .ro) :: (.sl 3 y2, .uni .own) :: (.sl 22 y3, .uni .own) :: (I y4, .uni .ro) :: gap 59 []), boxes := [] }
theorem st74_7 (K : Nat) (RO4 : Fr → OA) (k : Nat) (y1 : LA) (y2 : LA) (y3 : LA) (y4 : Int) (y5 : LA) (y6 : Int) (y7 : Int) : mlp 74 Tryd.f74 K 7 (fun i_ => if i_ = 4 then RO4 else fun _ => none) (k + 1) (fr74_7 y1 y2 y3 y4 y5 y6 y7) = tr74_7 K (fun y1 y2 y3 y4 => RO4 (fr74_4 y1 y2 y3 y4)) (fun y1 y2 y3 y4 y5 y6 y7 => mlp 74 Tryd.f74 K 7 (fun i_ => if i_ = 4 then RO4 else fun _ => none) k (fr74_7 y1 y2 y3 y4 y5 y6 y7)) y1 y2 y3 y4 y5 y6 y7 := by kernel_rfl
theorem lq74_7 (K : Nat) (RO4 : Fr → OA) : ∀ (k : Nat) (y1 : LA) (y2 : LA) (y3 : LA) (y4 : Int) (y5 : LA) (y6 : Int) (y7 : Int), mlp 74 Tryd.f74 K 7 (fun i_ => if i_ = 4 then RO4 else fun _ => none) k (fr74_7 y1 y2 y3 y4 y5 y6 y7) = lp74_7 K (fun y1 y2 y3 y4 => RO4 (fr74_4 y1 y2 y3 y4)) k y1 y2 y3 y4 y5 y6 y7
  | 0, _, _, _, _, _, _, _ => rfl
  | k + 1, y1, y2, y3, y4, y5, y6, y7 => by
    rw [st74_7]
    have ih := lq74_7 K RO4 k
    try simp only [ih]
    try rfl
theorem st74_4 (K : Nat) (k : Nat) (y1 : LA) (y2 : LA) (y3 : LA) (y4 : Int) : mlp 74 Tryd.f74 K 4 (fun i_ => fun _ => none) (k + 1) (fr74_4 y1 y2 y3 y4) = tr74_4 K (fun y1 y2 y3 y4 y5 y6 y7 => mlp 74 Tryd.f74 K 7 (fun i_ => if i_ = 4 then (fun fr_ => mlp 74 Tryd.f74 K 4 (fun i_ => fun _ => none) k fr_) else fun _ => none) K (fr74_7 y1 y2 y3 y4 y5 y6 y7)) y1 y2 y3 y4 := by kernel_rfl
theorem lq74_4 (K : Nat) : ∀ (k : Nat) (y1 : LA) (y2 : LA) (y3 : LA) (y4 : Int), mlp 74 Tryd.f74 K 4 (fun i_ => fun _ => none) k (fr74_4 y1 y2 y3 y4) = lp74_4 K k y1 y2 y3 y4
  | 0, _, _, _, _ => rfl
  | k + 1, y1, y2, y3, y4 => by
    rw [st74_4]
    have ih := lq74_4 K k
    have ih7 := lq74_7 K (fun fr_ => mlp 74 Tryd.f74 K 4 (fun i_ => fun _ => none) k fr_) K
    try simp only [ih, ih7]
    try rfl
theorem eq74 (K : Nat) (a0_0 : Int) (a0_1 : Int) (a0_2 : Int) (a0_3 : Int) (a0_4 : LA) : run tab (K + 1) 74 [.agg [I a0_0, I a0_1, I a0_2, I a0_3, .sl 97 a0_4]] = sh74 K a0_0 a0_1 a0_2 a0_3 a0_4 := by
  have h : run tab (K + 1) 74 [.agg [I a0_0, I a0_1, I a0_2, I a0_3, .sl 97 a0_4]] = tr74 K (fun y1 y2 y3 y4 => mlp 74 Tryd.f74 K 4 (fun i_ => fun _ => none) K (fr74_4 y1 y2 y3 y4)) a0_0 a0_1 a0_2 a0_3 a0_4 := by kernel_rfl
  rw [h]
  simp only [lq74_4]
  rfl

def tr77_3 (K : Nat) (q3 : Int → LA → LA → Int → Int → Int → Int → Int → LA → OA) (y1 : Int) (y2 : LA) (y3 : LA) (y4 : Int) (y5 : Int) (y6 : Int) (y7 : Int) (y8 : Int) (y9 : LA) : OA :=
  match decide (y4 < (y2.length : Int)) with | true => (if 0 ≤ y4 then (match y2[y4.toNat]? with | some x1457 => (castI .i64 x1457 fun n1458 => match run tab K 68 [.agg [I y5, I y6, I y7, I y8, .sl 97 y9], I y1, I n1458] with | some r1459 => (castI .i64 r1459 fun n1460 => match (n1460 == (-1 : Int)) with | true => (some (.sl 3 y3)) | false => (if (y3.length + ([I n1460] : LA).length) * 8 ≤ maxBytes then (if 0 ≤ n1460 then (match y9[n1460.toNat]? with | some x1461 => (castI .i64 (cellN x1461 3) fun n1462 => q3 n1462 y2 (y3 ++ ([I n1460] : LA)) (IntKind.i64.wrap (y4 + 1)) y5 y6 y7 y8 y9) | none => none) else none) else none)) | none => none) | none => none) else none) | false => (some (.sl 3 y3))
def tr77 (K : Nat) (q3 : Int → LA → LA → Int → Int → Int → Int → Int → LA → OA) (a0_0 : Int) (a0_1 : Int) (a0_2 : Int) (a0_3 : Int) (a0_4 : LA) (a1 : Int) (a2 : LA) : OA :=
  q3 a1 a2 ([] : LA) (0 : Int) a0_0 a0_1 a0_2 a0_3 a0_4
def lp77_3 (K : Nat) : Nat → Int → LA → LA → Int → Int → Int → Int → Int → LA → OA
  | 0, _, _, _, _, _, _, _, _, _ => none
  | k + 1, y1, y2, y3, y4, y5, y6, y7, y8, y9 => tr77_3 K (lp77_3 K k) y1 y2 y3 y4 y5 y6 y7 y8 y9
def sh77 (K : Nat) (a0_0 : Int) (a0_1 : Int) (a0_2 : Int) (a0_3 : Int) (a0_4 : LA) (a1 : Int) (a2 : LA) : OA := tr77 K (lp77_3 K K) a0_0 a0_1 a0_2 a0_3 a0_4 a1 a2
def fr77_3 (y1 : Int) (y2 : LA) (y3 : LA) (y4 : Int) (y5 : Int) (y6 : Int) (y7 : Int) (y8 : Int) (y9 : LA) : Fr := { slots := gap 1 ((I y1, .uni .ro) :: (.sl 3 y2, .uni .lent) :: (.undef, .loc 3 0) :: gap 3 ((.sl 3 y3, .uni .own) :: (I y4, .uni .ro) :: gap 28 [])), boxes := [(3, [(I y5, .ro), (I y6, .ro), (I y7, .ro), (I y8, .ro), (.sl 97 y9, .lent)])] }
theorem st77_3 (K : Nat) (k : Nat) (y1 : Int) (y2 : LA) (y3 : LA) (y4 : Int) (y5 : Int) (y6 : Int) (y7 : Int) (y8 : Int) (y9 : LA) : mlp 77 Tryd.f77 K 3 (fun i_ => fun _ => none) (k + 1) (fr77_3 y1 y2 y3 y4 y5 y6 y7 y8 y9) = tr77_3 K (fun y1 y2 y3 y4 y5 y6 y7 y8 y9 => mlp 77 Tryd.f77 K 3 (fun i_ => fun _ => none) k (fr77_3 y1 y2 y3 y4 y5 y6 y7 y8 y9)) y1 y2 y3 y4 y5 y6 y7 y8 y9 := by kernel_rfl
theorem lq77_3 (K : Nat) : ∀ (k : Nat) (y1 : Int) (y2 : LA) (y3 : LA) (y4 : Int) (y5 : Int) (y6 : Int) (y7 : Int) (y8 : Int) (y9 : LA), mlp 77 Tryd.f77 K 3 (fun i_ => fun _ => none) k (fr77_3 y1 y2 y3 y4 y5 y6 y7 y8 y9) = lp77_3 K k y1 y2 y3 y4 y5 y6 y7 y8 y9
  | 0, _, _, _, _, _, _, _, _, _ => rfl
  | k + 1, y1, y2, y3, y4, y5, y6, y7, y8, y9 => by
    rw [st77_3]
    have ih := lq77_3 K k
    try simp only [ih]
    try rfl
theorem eq77 (K : Nat) (a0_0 : Int) (a0_1 : Int) (a0_2 : Int) (a0_3 : Int) (a0_4 : LA) (a1 : Int) (a2 : LA) : run tab (K + 1) 77 [.agg [I a0_0, I a0_1, I a0_2, I a0_3, .sl 97 a0_4], I a1, .sl 3 a2] = sh77 K a0_0 a0_1 a0_2 a0_3 a0_4 a1 a2 := by
  have h : run tab (K + 1) 77 [.agg [I a0_0, I a0_1, I a0_2, I a0_3, .sl 97 a0_4], I a1, .sl 3 a2] = tr77 K (fun y1 y2 y3 y4 y5 y6 y7 y8 y9 => mlp 77 Tryd.f77 K 3 (fun i_ => fun _ => none) K (fr77_3 y1 y2 y3 y4 y5 y6 y7 y8 y9)) a0_0 a0_1 a0_2 a0_3 a0_4 a1 a2 := by kernel_rfl
  rw [h]
  simp only [lq77_3]
  rfl

def tr81 (K : Nat) (a0 : Bool) : OA :=
  match a0 with | true => (some (I 1)) | false => (some (I 0))
def sh81 (K : Nat) (a0 : Bool) : OA := tr81 K a0
theorem eq81 (K : Nat) (a0 : Bool) : run tab (K + 1) 81 [B a0] = sh81 K a0 := by kernel_rfl

def tr84 (K : Nat) (a0 : Int) : OA :=
  some (B (a0 != a0))
def sh84 (K : Nat) (a0 : Int) : OA := tr84 K a0
theorem eq84 (K : Nat) (a0 : Int) : run tab (K + 1) 84 [I a0] = sh84 K a0 := by kernel_rfl

def tr92_2 (K : Nat) (q2 : LA → Int → Int → Int → Int → OA) (y1 : LA) (y2 : Int) (y3 : Int) (y4 : Int) (y5 : Int) : OA :=
  match decide (y3 < y2) with | true => (if 0 ≤ y3 then (match y1[y3.toNat]? with | some x1524 => (castI .i64 (cellN x1524 0) fun n1525 => castI .i64 (cellN x1524 1) fun n1526 => match ((y4 == n1525) && ((y5 == n1526) && true)) with | true => (some (I y3)) | false => (q2 y1 y2 (IntKind.i64.wrap (y3 + 1)) y4 y5)) | none => none) else none) | false => (some (I (-1)))
def tr92 (K : Nat) (q2 : LA → Int → Int → Int → Int → OA) (a0 : LA) (a1_0 : Int) (a1_1 : Int) : OA :=
  q2 a0 (a0.length : Int) (0 : Int) a1_0 a1_1
def lp92_2 (K : Nat) : Nat → LA → Int → Int → Int → Int → OA
  | 0, _, _, _, _, _ => none
  | k + 1, y1, y2, y3, y4, y5 => tr92_2 K (lp92_2 K k) y1 y2 y3 y4 y5
def sh92 (K : Nat) (a0 : LA) (a1_0 : Int) (a1_1 : Int) : OA := tr92 K (lp92_2 K K) a0 a1_0 a1_1
def fr92_2 (y1 : LA) (y2 : Int) (y3 : Int) (y4 : Int) (y5 : Int) : Fr := { slots := (.sl 52 y1, .uni .lent) :: gap 2 ((.undef, .loc 3 0) :: gap 3 ((I y2, .uni .ro) :: (I y3, .uni .ro) :: gap 10 [])), boxes := [(3, [(I y4, .ro), (I y5, .ro)])] }
theorem st92_2 (K : Nat) (k : Nat) (y1 : LA) (y2 : Int) (y3 : Int) (y4 : Int) (y5 : Int) : mlp 92 Tryd.f92 K 2 (fun i_ => fun _ => none) (k + 1) (fr92_2 y1 y2 y3 y4 y5) = tr92_2 K (fun y1 y2 y3 y4 y5 => mlp 92 Tryd.f92 K 2 (fun i_ => fun _ => none) k (fr92_2 y1 y2 y3 y4 y5)) y1 y2 y3 y4 y5 := by kernel_rfl
theorem lq92_2 (K : Nat) : ∀ (k : Nat) (y1 : LA) (y2 : Int) (y3 : Int) (y4 : Int) (y5 : Int), mlp 92 Tryd.f92 K 2 (fun i_ => fun _ => none) k (fr92_2 y1 y2 y3 y4 y5) = lp92_2 K k y1 y2 y3 y4 y5
  | 0, _, _, _, _, _ => rfl
  | k + 1, y1, y2, y3, y4, y5 => by
    rw [st92_2]
    have ih := lq92_2 K k
    try simp only [ih]
    try rfl
theorem eq92 (K : Nat) (a0 : LA) (a1_0 : Int) (a1_1 : Int) : run tab (K + 1) 92 [.sl 52 a0, .agg [I a1_0, I a1_1]] = sh92 K a0 a1_0 a1_1 := by
  have h : run tab (K + 1) 92 [.sl 52 a0, .agg [I a1_0, I a1_1]] = tr92 K (fun y1 y2 y3 y4 y5 => mlp 92 Tryd.f92 K 2 (fun i_ => fun _ => none) K (fr92_2 y1 y2 y3 y4 y5)) a0 a1_0 a1_1 := by kernel_rfl
  rw [h]
  simp only [lq92_2]
  rfl

def tr94 (K : Nat) (a0 : LA) (c0 : AV) : OA :=
  castRef c0 fun p1531 => castL 3 (p1531.getD 0 .undef) fun l1532 => match run tab K 53 [.sl 3 a0, .sl 3 l1532] with | some r1533 => (castB r1533 fun b1534 => some (B b1534)) | none => none
def sh94 (K : Nat) (a0 : LA) (c0 : AV) : OA := tr94 K a0 c0
theorem eq94 (K : Nat) (a0 : LA) (c0 : AV) : run tab (K + 1) 94 [.sl 3 a0, c0] = sh94 K a0 c0 := by kernel_rfl

def tr95 (K : Nat) (a0 : LA) (a1 : Int) : OA :=
  match run tab K 108 [.sl 3 a0, I a1] with | some r1535 => (castI .i64 r1535 fun n1536 => some (B (decide (n1536 ≥ (0 : Int))))) | none => none
def sh95 (K : Nat) (a0 : LA) (a1 : Int) : OA := tr95 K a0 a1
theorem eq95 (K : Nat) (a0 : LA) (a1 : Int) : run tab (K + 1) 95 [.sl 3 a0, I a1] = sh95 K a0 a1 := by kernel_rfl

def tr108_2 (K : Nat) (q2 : LA → Int → Int → Int → OA) (y1 : LA) (y2 : Int) (y3 : Int) (y4 : Int) : OA :=
  match decide (y4 < y3) with | true => (if 0 ≤ y4 then (match y1[y4.toNat]? with | some x1570 => (castI .i64 x1570 fun n1571 => match (y2 == n1571) with | true => (some (I y4)) | false => (q2 y1 y2 y3 (IntKind.i64.wrap (y4 + 1)))) | none => none) else none) | false => (some (I (-1)))
def tr108 (K : Nat) (q2 : LA → Int → Int → Int → OA) (a0 : LA) (a1 : Int) : OA :=
  q2 a0 a1 (a0.length : Int) (0 : Int)
def lp108_2 (K : Nat) : Nat → LA → Int → Int → Int → OA
  | 0, _, _, _, _ => none
  | k + 1, y1, y2, y3, y4 => tr108_2 K (lp108_2 K k) y1 y2 y3 y4
def sh108 (K : Nat) (a0 : LA) (a1 : Int) : OA := tr108 K (lp108_2 K K) a0 a1
def fr108_2 (y1 : LA) (y2 : Int) (y3 : Int) (y4 : Int) : Fr := { slots := (.sl 3 y1, .uni .lent) :: (I y2, .uni .ro) :: gap 5 ((I y3, .uni .ro) :: (I y4, .uni .ro) :: gap 10 []), boxes := [] }
theorem st108_2 (K : Nat) (k : Nat) (y1 : LA) (y2 : Int) (y3 : Int) (y4 : Int) : mlp 108 Tryd.f108 K 2 (fun i_ => fun _ => none) (k + 1) (fr108_2 y1 y2 y3 y4) = tr108_2 K (fun y1 y2 y3 y4 => mlp 108 Tryd.f108 K 2 (fun i_ => fun _ => none) k (fr108_2 y1 y2 y3 y4)) y1 y2 y3 y4 := by kernel_rfl
theorem lq108_2 (K : Nat) : ∀ (k : Nat) (y1 : LA) (y2 : Int) (y3 : Int) (y4 : Int), mlp 108 Tryd.f108 K 2 (fun i_ => fun _ => none) k (fr108_2 y1 y2 y3 y4) = lp108_2 K k y1 y2 y3 y4
  | 0, _, _, _, _ => rfl
  | k + 1, y1, y2, y3, y4 => by
    rw [st108_2]
    have ih := lq108_2 K k
    try simp only [ih]
    try rfl
theorem eq108 (K : Nat) (a0 : LA) (a1 : Int) : run tab (K + 1) 108 [.sl 3 a0, I a1] = sh108 K a0 a1 := by
  have h : run tab (K + 1) 108 [.sl 3 a0, I a1] = tr108 K (fun y1 y2 y3 y4 => mlp 108 Tryd.f108 K 2 (fun i_ => fun _ => none) K (fr108_2 y1 y2 y3 y4)) a0 a1 := by kernel_rfl
  rw [h]
  simp only [lq108_2]
  rfl

def tr41_21 (K : Nat) (q18 : LA → LA → LA → LA → LA → Int → Int → Int → Int → Int → Int → LA → Int → Int → Int → Int → LA → LA → Int → Int → Int → Int → LA → OA) (q21 : LA → LA → LA → LA → Int → LA → Int → Int → LA → Int → Int → Int → Int → Int → Int → LA → Int → Int → Int → Int → LA → LA → Int → Int → Int → Int → LA → OA) (y1 : LA) (y2 : LA) (y3 : LA) (y4 : LA) (y5 : Int) (y6 : LA) (y7 : Int) (y8 : Int) (y9 : LA) (y10 : Int) (y11 : Int) (y12 : Int) (y13 : Int) (y14 : Int) (y15 : Int) (y16 : LA) (y17 : Int) (y18 : Int) (y19 : Int) (y20 : Int) (y21 : LA) (y22 : LA) (y23 : Int) (y24 : Int) (y25 : Int) (y26 : Int) (y27 : LA) : OA :=
  match decide (y11 < y10) with | true => (if 0 ≤ y11 then (match y9[y11.toNat]? with | some x1602 => (castP x1602 fun q1603 => castNil q1603 fun b1604 => match (!b1604) with | true => (castRef q1603 fun p1605 => castRef (.ref p1605) fun p1606 => castI .i64 (p1606.getD 2 .undef) fun n1607 => castRef q1603 fun p1608 => castRef (.ref p1608) fun p1609 => castI .i64 (p1609.getD 3 .undef) fun n1610 => if 0 ≤ n1610 then (match y1[n1610.toNat]? with | some x1611 => (castI .i64 x1611 fun n1612 => castI .i64 ((mget (I n1612 : AV) y22).getD (I 0 : AV)) fun n1613 => if (y27.length + ([.agg [I y5, I y11, I n1607, I n1613]] : LA).length) * 32 ≤ maxBytes then (q21 y1 y2 y3 y4 y5 y6 y7 y8 y9 y10 (IntKind.i64.wrap (y11 + 1)) y12 y13 y14 y15 y16 y17 y18 y19 y20 y21 y22 y23 y24 y25 y26 (y27 ++ ([.agg [I y5, I y11, I n1607, I n1613]] : LA))) else none) | none => none) else none) | false => (q21 y1 y2 y3 y4 y5 y6 y7 y8 y9 y10 (IntKind.i64.wrap (y11 + 1)) y12 y13 y14 y15 y16 y17 y18 y19 y20 y21 y22 y23 y24 y25 y26 y27)) | none => none) else none) | false => (q18 y1 y2 y3 y4 y6 y7 (IntKind.i64.wrap (y8 + 1)) y12 y13 y14 y15 y16 y17 y18 y19 y20 y21 y22 y23 y24 y25 y26 y27)
def tr41_29 (K : Nat) (q29 : LA → LA → LA → LA → Int → Int → Int → Int → Int → Int → LA → LA → Int → Int → Int → Int → LA → OA) (y1 : LA) (y2 : LA) (y3 : LA) (y4 : LA) (y5 : Int) (y6 : Int) (y7 : Int) (y8 : Int) (y9 : Int) (y10 : Int) (y11 : LA) (y12 : LA) (y13 : Int) (y14 : Int) (y15 : Int) (y16 : Int) (y17 : LA) : OA :=
  match decide (y6 < y5) with | true => (if 0 ≤ y6 then (match y4[y6.toNat]? with | some x1616 => (castI .i64 x1616 fun n1617 => if 0 ≤ n1617 then (match y1[n1617.toNat]? with | some x1618 => (castI .i64 x1618 fun n1619 => castI .i64 ((mget (I n1619 : AV) y12).getD (I 0 : AV)) fun n1620 => if 0 ≤ n1617 then (match y3[n1617.toNat]? with | some x1621 => (if n1617.toNat < y3.length then (q29 y1 y2 (y3.set n1617.toNat (I n1620 : AV)) y4 y5 (IntKind.i64.wrap (y6 + 1)) y7 y8 y9 y10 y11 y12 y13 y14 y15 y16 y17) else none) | none => none) else none) | none => none) else none) | none => none) else none) | false => (some (.tup [.agg [I y13, I y14, I y15, I y16, .sl 97 y17], .sl 3 y3, I 0]))
def tr41_18 (K : Nat) (q21 : LA → LA → LA → LA → Int → LA → Int → Int → LA → Int → Int → Int → Int → Int → Int → LA → Int → Int → Int → Int → LA → LA → Int → Int → Int → Int → LA → OA) (q29 : LA → LA → LA → LA → Int → Int → Int → Int → Int → Int → LA → LA → Int → Int → Int → Int → LA → OA) (y1 : LA) (y2 : LA) (y3 : LA) (y4 : LA) (y5 : LA) (y6 : Int) (y7 : Int) (y8 : Int) (y9 : Int) (y10 : Int) (y11 : Int) (y12 : LA) (y13 : Int) (y14 : Int) (y15 : Int) (y16 : Int) (y17 : LA) (y18 : LA) (y19 : Int) (y20 : Int) (y21 : Int) (y22 : Int) (y23 : LA) : OA :=
  match decide (y7 < y6) with | true => (if 0 ≤ y7 then (match y5[y7.toNat]? with | some x1598 => (castI .i64 x1598 fun n1599 => if 0 ≤ n1599 then (match y2[n1599.toNat]? with | some x1600 => (castL 122 x1600 fun l1601 => q21 y1 y2 y3 y4 y7 y5 y6 y7 l1601 (l1601.length : Int) (0 : Int) y8 y9 y10 y11 y12 y13 y14 y15 y16 y17 y18 y19 y20 y21 y22 y23) | none => none) else none) | none => none) else none) | false => (match run tab K 75 [.sl 3 [I (-1)], I y8] with | some r1614 => (castL 3 r1614 fun l1615 => q29 y1 y3 l1615 y3 (y3.length : Int) (0 : Int) y13 y14 y15 y16 y17 y18 y19 y20 y21 y22 y23) | none => none)
def tr41_9 (K : Nat) (q9 : LA → LA → LA → LA → LA → Int → Int → Int → Int → Int → Int → LA → Int → Int → Int → Int → LA → LA → OA) (q18 : LA → LA → LA → LA → LA → Int → Int → Int → Int → Int → Int → LA → Int → Int → Int → Int → LA → LA → Int → Int → Int → Int → LA → OA) (y1 : LA) (y2 : LA) (y3 : LA) (y4 : LA) (y5 : LA) (y6 : Int) (y7 : Int) (y8 : Int) (y9 : Int) (y10 : Int) (y11 : Int) (y12 : LA) (y13 : Int) (y14 : Int) (y15 : Int) (y16 : Int) (y17 : LA) (y18 : LA) : OA :=
  match decide (y7 < y6) with | true => (if 0 ≤ y7 then (match y5[y7.toNat]? with | some x1591 => (castI .i64 x1591 fun n1592 => if 0 ≤ n1592 then (match y1[n1592.toNat]? with | some x1593 => (castI .i64 x1593 fun n1594 => castI .i64 ((mget (I n1594 : AV) y18).getD (I 0 : AV)) fun n1595 => match (!((mget (I n1594 : AV) y18).isSome)) with | true => (if 0 ≤ n1592 then (match y1[n1592.toNat]? with | some x1596 => (castI .i64 x1596 fun n1597 => if (y4.length + ([I n1592] : LA).length) * 8 ≤ maxBytes then (q9 y1 y2 y3 (y4 ++ ([I n1592] : LA)) y5 y6 (IntKind.i64.wrap (y7 + 1)) y8 y9 y10 y11 y12 y13 y14 y15 y16 y17 (mset (I n1597 : AV) (I (y4.length : Int) : AV) y18)) else none) | none => none) else none) | false => (q9 y1 y2 y3 y4 y5 y6 (IntKind.i64.wrap (y7 + 1)) y8 y9 y10 y11 y12 y13 y14 y15 y16 y17 y18)) | none => none) else none) | none => none) else none) | false => (q18 y1 y2 y3 y4 y4 (y4.length : Int) (0 : Int) y8 y9 y10 y11 y12 y13 y14 y15 y16 y17 y18 (y4.length : Int) y9 y10 (0 : Int) ([] : LA))
def tr41 (K : Nat) (q9 : LA → LA → LA → LA → LA → Int → Int → Int → Int → Int → Int → LA → Int → Int → Int → Int → LA → LA → OA) (a0_0 : Int) (a0_1 : Int) (a0_2 : Int) (a0_3 : Int) (a0_4 : LA) : OA :=
  match run tab K 66 [.agg [I a0_0, I a0_1, I a0_2, I a0_3, .sl 97 a0_4]] with | some r1582 => (castI .i64 r1582 fun n1583 => match (n1583 != (0 : Int)) with | true => (some (.tup [.agg [I 0, I 0, I 0, I 0, .sl 97 []], .sl 3 [], I n1583])) | false => (match run tab K 73 [.agg [I a0_0, I a0_1, I a0_2, I a0_3, .sl 97 a0_4]] with | some r1584 => (castL 3 r1584 fun l1585 => match run tab K 67 [.agg [I a0_0, I a0_1, I a0_2, I a0_3, .sl 97 a0_4]] with | some r1586 => (castL 121 r1586 fun l1587 => match run tab K 74 [.agg [I a0_0, I a0_1, I a0_2, I a0_3, .sl 97 a0_4]] with | some r1588 => (castL 3 (compN r1588 0) fun l1589 => castL 22 (compN r1588 1) fun l1590 => q9 l1585 l1587 l1589 ([] : LA) l1589 (l1589.length : Int) (0 : Int) a0_0 a0_1 a0_2 a0_3 a0_4 (0 : Int) (0 : Int) (0 : Int) (0 : Int) ([] : LA) ([] : LA)) | none => none) | none => none) | none => none)) | none => none
def lp41_21 (K : Nat) (q9 : LA → LA → LA → LA → LA → Int → Int → Int → Int → Int → Int → LA → Int → Int → Int → Int → LA → LA → OA) (q18 : LA → LA → LA → LA → LA → Int → Int → Int → Int → Int → Int → LA → Int → Int → Int → Int → LA → LA → Int → Int → Int → Int → LA → OA) : Nat → LA → LA → LA → LA → Int → LA → Int → Int → LA → Int → Int → Int → Int → Int → Int → LA → Int → Int → Int → Int → LA → LA → Int → Int → Int → Int → LA → OA
  | 0, _, _, _, _, _, _, _, _, _, _, _, _, _, _, _, _, _, _, _, _, _, _, _, _, _, _, _ => none
  | k + 1, y1, y2, y3, y4, y5, y6, y7, y8, y9, y10, y11, y12, y13, y14, y15, y16, y17, y18, y19, y20, y21, y22, y23, y24, y25, y26, y27 => tr41_21 K q18 (lp41_21 K q9 q18 k) y1 y2 y3 y4 y5 y6 y7 y8 y9 y10 y11 y12 y13 y14 y15 y16 y17 y18 y19 y20 y21 y22 y23 y24 y25 y26 y27
def lp41_29 (K : Nat) (q9 : LA → LA → LA → LA → LA → Int → Int → Int → Int → Int → Int → LA → Int → Int → Int → Int → LA → LA → OA) (q18 : LA → LA → LA → LA → LA → Int → Int → Int → Int → Int → Int → LA → Int → Int → Int → Int → LA → LA → Int → Int → Int → Int → LA → OA) : Nat → LA → LA → LA → LA → Int → Int → Int → Int → Int → Int → LA → LA → Int → Int → Int → Int → LA → OA
  | 0, _, _, _, _, _, _, _, _, _, _, _, _, _, _, _, _, _ => none
  | k + 1, y1, y2, y3, y4, y5, y6, y7, y8, y9, y10, y11, y12, y13, y14, y15, y16, y17 => tr41_29 K (lp41_29 K q9 q18 k) y1 y2 y3 y4 y5 y6 y7 y8 y9 y10 y11 y12 y13 y14 y15 y16 y17
def lp41_18 (K : Nat) (q9 : LA → LA → LA → LA → LA → Int → Int → Int → Int → Int → Int → LA → Int → Int → Int → Int → LA → LA → OA) : Nat → LA → LA → LA → LA → LA → Int → Int → Int → Int → Int → Int → LA → Int → Int → Int → Int → LA → LA → Int → Int → Int → Int → LA → OA
  | 0, _, _, _, _, _, _, _, _, _, _, _, _, _, _, _, _, _, _, _, _, _, _, _ => none
  | k + 1, y1, y2, y3, y4, y5, y6, y7, y8, y9, y10, y11, y12, y13, y14, y15, y16, y17, y18, y19, y20, y21, y22, y23 => tr41_18 K (lp41_21 K q9 (lp41_18 K q9 k) K) (lp41_29 K q9 (lp41_18 K q9 k) K) y1 y2 y3 y4 y5 y6 y7 y8 y9 y10 y11 y12 y13 y14 y15 y16 y17 y18 y19 y20 y21 y22 y23
def lp41_9 (K : Nat) : Nat → LA → LA → LA → LA → LA → Int → Int → Int → Int → Int → Int → LA → Int → Int → Int → Int → LA → LA → OA
  | 0, _, _, _, _, _, _, _, _, _, _, _, _, _, _, _, _, _, _ => none
  | k + 1, y1, y2, y3, y4, y5, y6, y7, y8, y9, y10, y11, y12, y13, y14, y15, y16, y17, y18 => tr41_9 K (lp41_9 K k) (lp41_18 K (lp41_9 K k) K) y1 y2 y3 y4 y5 y6 y7 y8 y9 y10 y11 y12 y13 y14 y15 y16 y17 y18
def sh41 (K : Nat) (a0_0 : Int) (a0_1 : Int) (a0_2 : Int) (a0_3 : Int) (a0_4 : LA) : OA := tr41 K (lp41_9 K K) a0_0 a0_1 a0_2 a0_3 a0_4
def fr41_21 (y1 : LA) (y2 : LA) (y3 : LA) (y4 : LA) (y5 : Int) (y6 : LA) (y7 : Int) (y8 : Int) (y9 : LA) (y10 : Int) (y11 : Int) (y12 : Int) (y13 : Int) (y14 : Int) (y15 : Int) (y16 : LA) (y17 : Int) (y18 : Int) (y19 : Int) (y20 : Int) (y21 : LA) (y22 : LA) (y23 : Int) (y24 : Int) (y25 : Int) (y26 : Int) (y27 : LA) : Fr := { slots := gap 1 ((.undef, .loc 1 0) :: (.undef, .loc 2 0) :: gap 3 ((.sl 3 y1, .uni .own) :: (.sl 121 y2, .uni .ro) :: (.sl 3 y3, .uni .own) :: gap 1 ((.undef, .mapAt 39) :: (.sl 3 y4, .uni .own) :: gap 4 ((.undef, .loc 16 0) :: (I y5, .uni .ro) :: gap 21 ((.undef, .mapAt 39) :: gap 36 ((.sl 3 y6, .uni (.brw ⟨false, 11, 0, 0⟩ true)) :: (I y7, .uni .ro) :: (I y8, .uni .ro) :: gap 7 ((.sl 122 y9, .uni .ro) :: (I y10, .uni .ro) :: (I y11, .uni .ro) :: gap 51 []))))))), boxes := [(1, [(I y12, .ro), (I y13, .ro), (I y14, .ro), (I y15, .ro), (.sl 97 y16, .lent)]), (2, [(I y17, .ro), (I y18, .ro), (I y19, .ro), (I y20, .ro), (.sl 97 y21, .own)]), (39, [(.mp 134 y22, .ro)]), (16, [(I y23, .ro), (I y24, .ro), (I y25, .ro), (I y26, .ro), (.sl 97 y27, .own)])] }
def fr41_29 (y1 : LA) (y2 : LA) (y3 : LA) (y4 : LA) (y5 : Int) (y6 : Int) (y7 : Int) (y8 : Int) (y9 : Int) (y10 : Int) (y11 : LA) (y12 : LA) (y13 : Int) (y14 : Int) (y15 : Int) (y16 : Int) (y17 : LA) : Fr := { slots := gap 2 ((.undef, .loc 2 0) :: gap 3 ((.sl 3 y1, .uni .own) :: gap 1 ((.sl 3 y2, .uni .own) :: gap 1 ((.undef, .mapAt 39) :: gap 5 ((.undef, .loc 16 0) :: gap 4 ((.sl 3 y3, .uni .own) :: gap 17 ((.undef, .mapAt 39) :: gap 82 ((.sl 3 y4, .uni (.brw ⟨false, 8, 0, 0⟩ true)) :: (I y5, .uni .ro) :: (I y6, .uni .ro) :: gap 15 [])))))))), boxes := [(2, [(I y7, .ro), (I y8, .ro), (I y9, .ro), (I y10, .ro), (.sl 97 y11, .own)]), (39, [(.mp 134 y12, .ro)]), (16, [(I y13, .ro), (I y14, .ro), (I y15, .ro), (I y16, .ro), (.sl 97 y17, .own)])] }
def fr41_18 (y1 : LA) (y2 : LA) (y3 : LA) (y4 : LA) (y5 : LA) (y6 : Int) (y7 : Int) (y8 : Int) (y9 : Int) (y10 : Int) (y11 : Int) (y12 : LA) (y13 : Int) (y14 : Int) (y15 : Int) (y16 : Int) (y17 : LA) (y18 : LA) (y19 : Int) (y20 : Int) (y21 : Int) (y22 : Int) (y23 : LA) : Fr := { slots := gap 1 ((.undef, .loc 1 0) :: (.undef, .loc 2 0) :: gap 3 ((.sl 3 y1, .uni .own) :: (.sl 121 y2, .uni .ro) :: (.sl 3 y3, .uni .own) :: gap 1 ((.undef, .mapAt 39) :: (.sl 3 y4, .uni .own) :: gap 4 ((.undef, .loc 16 0) :: gap 22 ((.undef, .mapAt 39) :: gap 36 ((.sl 3 y5, .uni (.brw ⟨false, 11, 0, 0⟩ true)) :: (I y6, .uni .ro) :: (I y7, .uni .ro) :: gap 61 [])))))), boxes := [(1, [(I y8, .ro), (I y9, .ro), (I y10, .ro), (I y11, .ro), (.sl 97 y12, .lent)]), (2, [(I y13, .ro), (I y14, .ro), (I y15, .ro), (I y16, .ro), (.sl 97 y17, .own)]), (39, [(.mp 134 y18, .ro)]), (16, [(I y19, .ro), (I y20, .ro), (I y21, .ro), (I y22, .ro), (.sl 97 y23, .own)])] }
def fr41_9 (y1 : LA) (y2 : LA) (y3 : LA) (y4 : LA) (y5 : LA) (y6 : Int) (y7 : Int) (y8 : Int) (y9 : Int) (y10 : Int) (y11 : Int) (y12 : LA) (y13 : Int) (y14 : Int) (y15 : Int) (y16 : Int) (y17 : LA) (y18 : LA) : Fr := { slots := gap 1 ((.undef, .loc 1 0) :: (.undef, .loc 2 0) :: gap 3 ((.sl 3 y1, .uni .own) :: (.sl 121 y2, .uni .ro) :: (.sl 3 y3, .uni .own) :: gap 1 ((.undef, .mapAt 39) :: (.sl 3 y4, .uni .own) :: gap 27 ((.undef, .mapAt 39) :: (.sl 3 y5, .uni (.brw ⟨false, 8, 0, 0⟩ true)) :: (I y6, .uni .ro) :: (I y7, .uni .ro) :: gap 97 [])))), boxes := [(1, [(I y8, .ro), (I y9, .ro), (I y10, .ro), (I y11, .ro), (.sl 97 y12, .lent)]), (2, [(I y13, .ro), (I y14, .ro), (I y15, .ro), (I y16, .ro), (.sl 97 y17, .own)]), (39, [(.mp 134 y18, .ro)])] }
theorem st41_21 (K : Nat) (RO9 : Fr → OA) (RO18 : Fr → OA) (k : Nat) (y1 : LA) (y2 : LA) (y3 : LA) (y4 : LA) (y5 : Int) (y6 : LA) (y7 : Int) (y8 : Int) (y9 : LA) (y10 : Int) (y11 : Int) (y12 : Int) (y13 : Int) (y14 : Int) (y15 : Int) (y16 : LA) (y17 : Int) (y18 : Int) (y19 : Int) (y20 : Int) (y21 : LA) (y22 : LA) (y23 : Int) (y24 : Int) (y25 : Int) (y26 : Int) (y27 : LA) : mlp 41 Tryd.f41 K 21 (fun i_ => if i_ = 9 then RO9 else if i_ = 18 then RO18 else fun _ => none) (k + 1) (fr41_21 y1 y2 y3 y4 y5 y6 y7 y8 y9 y10 y11 y12 y13 y14 y15 y16 y17 y18 y19 y20 y21 y22 y23 y24 y25 y26 y27) = tr41_21 K (fun y1 y2 y3 y4 y5 y6 y7 y8 y9 y10 y11 y12 y13 y14 y15 y16 y17 y18 y19 y20 y21 y22 y23 => RO18 (fr41_18 y1 y2 y3 y4 y5 y6 y7 y8 y9 y10 y11 y12 y13 y14 y15 y16 y17 y18 y19 y20 y21 y22 y23)) (fun y1 y2 y3 y4 y5 y6 y7 y8 y9 y10 y11 y12 y13 y14 y15 y16 y17 y18 y19 y20 y21 y22 y23 y24 y25 y26 y27 => mlp 41 Tryd.f41 K 21 (fun i_ => if i_ = 9 then RO9 else if i_ = 18 then RO18 else fun _ => none) k (fr41_21 y1 y2 y3 y4 y5 y6 y7 y8 y9 y10 y11 y12 y13 y14 y15 y16 y17 y18 y19 y20 y21 y22 y23 y24 y25 y26 y27)) y1 y2 y3 y4 y5 y6 y7 y8 y9 y10 y11 y12 y13 y14 y15 y16 y17 y18 y19 y20 y21 y22 y23 y24 y25 y26 y27 := by kernel_rfl
theorem lq41_21 (K : Nat) (RO9 : Fr → OA) (RO18 : Fr → OA) : ∀ (k : Nat) (y1 : LA) (y2 : LA) (y3 : LA) (y4 : LA) (y5 : Int) (y6 : LA) (y7 : Int) (y8 : Int) (y9 : LA) (y10 : Int) (y11 : Int) (y12 : Int) (y13 : Int) (y14 : Int) (y15 : Int) (y16 : LA) (y17 : Int) (y18 : Int) (y19 : Int) (y20 : Int) (y21 : LA) (y22 : LA) (y23 : Int) (y24 : Int) (y25 : Int) (y26 : Int) (y27 : LA), mlp 41 Tryd.f41 K 21 (fun i_ => if i_ = 9 then RO9 else if i_ = 18 then RO18 else fun _ => none) k (fr41_21 y1 y2 y3 y4 y5 y6 y7 y8 y9 y10 y11 y12 y13 y14 y15 y16 y17 y18 y19 y20 y21 y22 y23 y24 y25 y26 y27) = lp41_21 K (fun y1 y2 y3 y4 y5 y6 y7 y8 y9 y10 y11 y12 y13 y14 y15 y16 y17 y18 => RO9 (fr41_9 y1 y2 y3 y4 y5 y6 y7 y8 y9 y10 y11 y12 y13 y14 y15 y16 y17 y18)) (fun y1 y2 y3 y4 y5 y6 y7 y8 y9 y10 y11 y12 y13 y14 y15 y16 y17 y18 y19 y20 y21 y22 y23 => RO18 (fr41_18 y1 y2 y3 y4 y5 y6 y7 y8 y9 y10 y11 y12 y13 y14 y15 y16 y17 y18 y19 y20 y21 y22 y23)) k y1 y2 y3 y4 y5 y6 y7 y8 y9 y10 y11 y12 y13 y14 y15 y16 y17 y18 y19 y20 y21 y22 y23 y24 y25 y26 y27
  | 0, _, _, _, _, _, _, _, _, _, _, _, _, _, _, _, _, _, _, _, _, _, _, _, _, _, _, _ => rfl
  | k + 1, y1, y2, y3, y4, y5, y6, y7, y8, y9, y10, y11, y12, y13, y14, y15, y16, y17, y18, y19, y20, y21, y22, y23, y24, y25, y26, y27 => by
    rw [st41_21]
    have ih := lq41_21 K RO9 RO18 k
    try simp only [ih]
    try rfl
theorem st41_29 (K : Nat) (RO9 : Fr → OA) (RO18 : Fr → OA) (k : Nat) (y1 : LA) (y2 : LA) (y3 : LA) (y4 : LA) (y5 : Int) (y6 : Int) (y7 : Int) (y8 : Int) (y9 : Int) (y10 : Int) (y11 : LA) (y12 : LA) (y13 : Int) (y14 : Int) (y15 : Int) (y16 : Int) (y17 : LA) : mlp 41 Tryd.f41 K 29 (fun i_ => if i_ = 9 then RO9 else if i_ = 18 then RO18 else fun _ => none) (k + 1) (fr41_29 y1 y2 y3 y4 y5 y6 y7 y8 y9 y10 y11 y12 y13 y14 y15 y16 y17) = tr41_29 K (fun y1 y2 y3 y4 y5 y6 y7 y8 y9 y10 y11 y12 y13 y14 y15 y16 y17 => mlp 41 Tryd.f41 K 29 (fun i_ => if i_ = 9 then RO9 else if i_ = 18 then RO18 else fun _ => none) k (fr41_29 y1 y2 y3 y4 y5 y6 y7 y8 y9 y10 y11 y12 y13 y14 y15 y16 y17)) y1 y2 y3 y4 y5 y6 y7 y8 y9 y10 y11 y12 y13 y14 y15 y16 y17 := by kernel_rfl
theorem lq41_29 (K : Nat) (RO9 : Fr → OA) (RO18 : Fr → OA) : ∀ (k : Nat) (y1 : LA) (y2 : LA) (y3 : LA) (y4 : LA) (y5 : Int) (y6 : Int) (y7 : Int) (y8 : Int) (y9 : Int) (y10 : Int) (y11 : LA) (y12 : LA) (y13 : Int) (y14 : Int) (y15 : Int) (y16 : Int) (y17 : LA), mlp 41 Tryd.f41 K 29 (fun i_ => if i_ = 9 then RO9 else if i_ = 18 then RO18 else fun _ => none) k (fr41_29 y1 y2 y3 y4 y5 y6 y7 y8 y9 y10 y11 y12 y13 y14 y15 y16 y17) = lp41_29 K (fun y1 y2 y3 y4 y5 y6 y7 y8 y9 y10 y11 y12 y13 y14 y15 y16 y17 y18 => RO9 (fr41_9 y1 y2 y3 y4 y5 y6 y7 y8 y9 y10 y11 y12 y13 y14 y15 y16 y17 y18)) (fun y1 y2 y3 y4 y5 y6 y7 y8 y9 y10 y11 y12 y13 y14 y15 y16 y17 y18 y19 y20 y21 y22 y23 => RO18 (fr41_18 y1 y2 y3 y4 y5 y6 y7 y8 y9 y10 y11 y12 y13 y14 y15 y16 y17 y18 y19 y20 y21 y22 y23)) k y1 y2 y3 y4 y5 y6 y7 y8 y9 y10 y11 y12 y13 y14 y15 y16 y17
  | 0, _, _, _, _, _, _, _, _, _, _, _, _, _, _, _, _, _ => rfl
  | k + 1, y1, y2, y3, y4, y5, y6, y7, y8, y9, y10, y11, y12, y13, y14, y15, y16, y17 => by
    rw [st41_29]
    have ih := lq41_29 K RO9 RO18 k
    try simp only [ih]
    try rfl
theorem st41_18 (K : Nat) (RO9 : Fr → OA) (k : Nat) (y1 : LA) (y2 : LA) (y3 : LA) (y4 : LA) (y5 : LA) (y6 : Int) (y7 : Int) (y8 : Int) (y9 : Int) (y10 : Int) (y11 : Int) (y12 : LA) (y13 : Int) (y14 : Int) (y15 : Int) (y16 : Int) (y17 : LA) (y18 : LA) (y19 : Int) (y20 : Int) (y21 : Int) (y22 : Int) (y23 : LA) : mlp 41 Tryd.f41 K 18 (fun i_ => if i_ = 9 then RO9 else fun _ => none) (k + 1) (fr41_18 y1 y2 y3 y4 y5 y6 y7 y8 y9 y10 y11 y12 y13 y14 y15 y16 y17 y18 y19 y20 y21 y22 y23) = tr41_18 K (fun y1 y2 y3 y4 y5 y6 y7 y8 y9 y10 y11 y12 y13 y14 y15 y16 y17 y18 y19 y20 y21 y22 y23 y24 y25 y26 y27 => mlp 41 Tryd.f41 K 21 (fun i_ => if i_ = 9 then RO9 else if i_ = 18 then (fun fr_ => mlp 41 Tryd.f41 K 18 (fun i_ => if i_ = 9 then RO9 else fun _ => none) k fr_) else fun _ => none) K (fr41_21 y1 y2 y3 y4 y5 y6 y7 y8 y9 y10 y11 y12 y13 y14 y15 y16 y17 y18 y19 y20 y21 y22 y23 y24 y25 y26 y27)) (fun y1 y2 y3 y4 y5 y6 y7 y8 y9 y10 y11 y12 y13 y14 y15 y16 y17 => mlp 41 Tryd.f41 K 29 (fun i_ => if i_ = 9 then RO9 else if i_ = 18 then (fun fr_ => mlp 41 Tryd.f41 K 18 (fun i_ => if i_ = 9 then RO9 else fun _ => none) k fr_) else fun _ => none) K (fr41_29 y1 y2 y3 y4 y5 y6 y7 y8 y9 y10 y11 y12 y13 y14 y15 y16 y17)) y1 y2 y3 y4 y5 y6 y7 y8 y9 y10 y11 y12 y13 y14 y15 y16 y17 y18 y19 y20 y21 y22 y23 := by kernel_rfl
theorem lq41_18 (K : Nat) (RO9 : Fr → OA) : ∀ (k : Nat) (y1 : LA) (y2 : LA) (y3 : LA) (y4 : LA) (y5 : LA) (y6 : Int) (y7 : Int) (y8 : Int) (y9 : Int) (y10 : Int) (y11 : Int) (y12 : LA) (y13 : Int) (y14 : Int) (y15 : Int) (y16 : Int) (y17 : LA) (y18 : LA) (y19 : Int) (y20 : Int) (y21 : Int) (y22 : Int) (y23 : LA), mlp 41 Tryd.f41 K 18 (fun i_ => if i_ = 9 then RO9 else fun _ => none) k (fr41_18 y1 y2 y3 y4 y5 y6 y7 y8 y9 y10 y11 y12 y13 y14 y15 y16 y17 y18 y19 y20 y21 y22 y23) = lp41_18 K (fun y1 y2 y3 y4 y5 y6 y7 y8 y9 y10 y11 y12 y13 y14 y15 y16 y17 y18 => RO9 (fr41_9 y1 y2 y3 y4 y5 y6 y7 y8 y9 y10 y11 y12 y13 y14 y15 y16 y17 y18)) k y1 y2 y3 y4 y5 y6 y7 y8 y9 y10 y11 y12 y13 y14 y15 y16 y17 y18 y19 y20 y21 y22 y23
  | 0, _, _, _, _, _, _, _, _, _, _, _, _, _, _, _, _, _, _, _, _, _, _, _ => rfl
  | k + 1, y1, y2, y3, y4, y5, y6, y7, y8, y9, y10, y11, y12, y13, y14, y15, y16, y17, y18, y19, y20, y21, y22, y23 => by
    rw [st41_18]
    have ih := lq41_18 K RO9 k
    have ih21 := lq41_21 K RO9 (fun fr_ => mlp 41 Tryd.f41 K 18 (fun i_ => if i_ = 9 then RO9 else fun _ => none) k fr_) K
    have ih29 := lq41_29 K RO9 (fun fr_ => mlp 41 Tryd.f41 K 18 (fun i_ => if i_ = 9 then RO9 else fun _ => none) k fr_) K
    try simp only [ih, ih21, ih29]
    try rfl
theorem st41_9 (K : Nat) (k : Nat) (y1 : LA) (y2 : LA) (y3 : LA) (y4 : LA) (y5 : LA) (y6 : Int) (y7 : Int) (y8 : Int) (y9 : Int) (y10 : Int) (y11 : Int) (y12 : LA) (y13 : Int) (y14 : Int) (y15 : Int) (y16 : Int) (y17 : LA) (y18 : LA) : mlp 41 Tryd.f41 K 9 (fun i_ => fun _ => none) (k + 1) (fr41_9 y1 y2 y3 y4 y5 y6 y7 y8 y9 y10 y11 y12 y13 y14 y15 y16 y17 y18) = tr41_9 K (fun y1 y2 y3 y4 y5 y6 y7 y8 y9 y10 y11 y12 y13 y14 y15 y16 y17 y18 => mlp 41 Tryd.f41 K 9 (fun i_ => fun _ => none) k (fr41_9 y1 y2 y3 y4 y5 y6 y7 y8 y9 y10 y11 y12 y13 y14 y15 y16 y17 y18)) (fun y1 y2 y3 y4 y5 y6 y7 y8 y9 y10 y11 y12 y13 y14 y15 y16 y17 y18 y19 y20 y21 y22 y23 => mlp 41 Tryd.f41 K 18 (fun i_ => if i_ = 9 then (fun fr_ => mlp 41 Tryd.f41 K 9 (fun i_ => fun _ => none) k fr_) else fun _ => none) K (fr41_18 y1 y2 y3 y4 y5 y6 y7 y8 y9 y10 y11 y12 y13 y14 y15 y16 y17 y18 y19 y20 y21 y22 y23)) y1 y2 y3 y4 y5 y6 y7 y8 y9 y10 y11 y12 y13 y14 y15 y16 y17 y18 := by kernel_rfl
theorem lq41_9 (K : Nat) : ∀ (k : Nat) (y1 : LA) (y2 : LA) (y3 : LA) (y4 : LA) (y5 : LA) (y6 : Int) (y7 : Int) (y8 : Int) (y9 : Int) (y10 : Int) (y11 : Int) (y12 : LA) (y13 : Int) (y14 : Int) (y15 : Int) (y16 : Int) (y17 : LA) (y18 : LA), mlp 41 Tryd.f41 K 9 (fun i_ => fun _ => none) k (fr41_9 y1 y2 y3 y4 y5 y6 y7 y8 y9 y10 y11 y12 y13 y14 y15 y16 y17 y18) = lp41_9 K k y1 y2 y3 y4 y5 y6 y7 y8 y9 y10 y11 y12 y13 y14 y15 y16 y17 y18
  | 0, _, _, _, _, _, _, _, _, _, _, _, _, _, _, _, _, _, _ => rfl
  | k + 1, y1, y2, y3, y4, y5, y6, y7, y8, y9, y10, y11, y12, y13, y14, y15, y16, y17, y18 => by
    rw [st41_9]
    have ih := lq41_9 K k
    have ih18 := lq41_18 K (fun fr_ => mlp 41 Tryd.f41 K 9 (fun i_ => fun _ => none) k fr_) K
    try simp only [ih, ih18]
    try rfl
theorem eq41 (K : Nat) (a0_0 : Int) (a0_1 : Int) (a0_2 : Int) (a0_3 : Int) (a0_4 : LA) : run tab (K + 1) 41 [.agg [I a0_0, I a0_1, I a0_2, I a0_3, .sl 97 a0_4]] = sh41 K a0_0 a0_1 a0_2 a0_3 a0_4 := by
  have h : run tab (K + 1) 41 [.agg [I a0_0, I a0_1, I a0_2, I a0_3, .sl 97 a0_4]] = tr41 K (fun y1 y2 y3 y4 y5 y6 y7 y8 y9 y10 y11 y12 y13 y14 y15 y16 y17 y18 => mlp 41 Tryd.f41 K 9 (fun i_ => fun _ => none) K (fr41_9 y1 y2 y3 y4 y5 y6 y7 y8 y9 y10 y11 y12 y13 y14 y15 y16 y17 y18)) a0_0 a0_1 a0_2 a0_3 a0_4 := by kernel_rfl
  rw [h]
  simp only [lq41_9]
  rfl

end
end Go.Proofs.YtahifpeggdcamaaDoor
