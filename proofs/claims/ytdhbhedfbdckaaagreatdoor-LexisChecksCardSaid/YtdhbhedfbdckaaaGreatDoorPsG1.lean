/- A part of an interpreter of the model's code that is proved sound, and of laws told by it: DamG2. -/
import Derived.Test.YtdhbhedfbdckaaaGreatDoorPsF4
import Derived.KernelRfl
set_option linter.unusedVariables false
set_option linter.unusedSimpArgs false
namespace Go.Proofs.YtdhbhedfbdckaaaGreatDoor
open Go.Dam
set_option linter.unusedVariables false
set_option maxRecDepth 100000
noncomputable section
def mlp2 (f : Nat) (fn : Func) (K j : Nat) (outs : Nat → Fr → OA) : Nat → Fr → OA := loopN (atLoop tab2 (run tab2 K) f K j outs (bodyOf fn) (doneK tab2 (tab2.roF f) fn) (fun _ _ => none) (doneK tab2 (tab2.roF f) fn)) (tab2.keep f j)

def tr3_10 (K : Nat) (q10 : LA → AV → Int → OA) (y1 : LA) (y2 : AV) (y3 : Int) : OA :=
  match decide (y3 < (y1.length : Int)) with | true => (if 0 ≤ y3 then (match y1[y3.toNat]? with | some x22 => (castI .i64 (cellN x22 2) fun n23 => castRef y2 fun p24 => castRef (.ref p24) fun p25 => castL 35 (p25.getD 0 .undef) fun l26 => if 0 ≤ y3 then (match l26[y3.toNat]? with | some x27 => (castI .i64 (cellN x27 2) fun n28 => match (n23 != n28) with | true => (some (B false)) | false => (q10 y1 y2 (IntKind.i64.wrap (y3 + 1)))) | none => none) else none) | none => none) else none) | false => (some (B true))
def tr3 (K : Nat) (q10 : LA → AV → Int → OA) (a0 : Int) (a1 : ByteArray) : OA :=
  match run tab2 K 12 [] with | some r1 => (castB r1 fun b2 => match (!b2) with | true => (some (B false)) | false => (match run tab2 K 13 [St a1] with | some r3 => (castB r3 fun b4 => match (!b4) with | true => (some (B true)) | false => (match run tab2 K 14 [I a0, St a1] with | some r5 => (castL 35 (compN r5 0) fun l6 => castI .i64 (compN r5 1) fun n7 => castI .i64 (compN r5 2) fun n8 => match run tab2 K 15 [I a0, St a1] with | some r9 => (castP r9 fun u10 => castRef u10 fun p11 => castRef (.ref p11) fun p12 => castI .i64 (p12.getD 3 .undef) fun n13 => match (n8 != n13) with | true => (some (B false)) | false => (castRef u10 fun p14 => castRef (.ref p14) fun p15 => castI .i64 (p15.getD 2 .undef) fun n16 => match (n7 != n16) with | true => (some (B false)) | false => (castRef u10 fun p17 => castRef (.ref p17) fun p18 => castL 35 (p18.getD 0 .undef) fun l19 => match run tab2 K 16 [.sl 35 l6, .sl 35 l19] with | some r20 => (castB r20 fun b21 => match (!b21) with | true => (some (B false)) | false => (q10 l6 u10 (0 : Int))) | none => none))) | none => none) | none => none)) | none => none)) | none => none
def lp3_10 (K : Nat) : Nat → LA → AV → Int → OA
  | 0, _, _, _ => none
  | k + 1, y1, y2, y3 => tr3_10 K (lp3_10 K k) y1 y2 y3
def sh3 (K : Nat) (a0 : Int) (a1 : ByteArray) : OA := tr3 K (lp3_10 K K) a0 a1
def fr3_10 (y1 : LA) (y2 : AV) (y3 : Int) : Fr := { slots := gap 5 ((.sl 35 y1, .uni .ro) :: gap 2 ((y2, .uni .ro) :: (I y3, .uni .ro) :: gap 58 [])), boxes := [] }
theorem st3_10 (K : Nat) (k : Nat) (y1 : LA) (y2 : AV) (y3 : Int) : mlp2 3 Tryz.f3 K 10 (fun i_ => fun _ => none) (k + 1) (fr3_10 y1 y2 y3) = tr3_10 K (fun y1 y2 y3 => mlp2 3 Tryz.f3 K 10 (fun i_ => fun _ => none) k (fr3_10 y1 y2 y3)) y1 y2 y3 := by kernel_rfl
theorem lq3_10 (K : Nat) : ∀ (k : Nat) (y1 : LA) (y2 : AV) (y3 : Int), mlp2 3 Tryz.f3 K 10 (fun i_ => fun _ => none) k (fr3_10 y1 y2 y3) = lp3_10 K k y1 y2 y3
  | 0, _, _, _ => rfl
  | k + 1, y1, y2, y3 => by
    rw [st3_10]
    have ih := lq3_10 K k
    try simp only [ih]
    try rfl
theorem eq3 (K : Nat) (a0 : Int) (a1 : ByteArray) : run tab2 (K + 1) 3 [I a0, St a1] = sh3 K a0 a1 := by
  have h : run tab2 (K + 1) 3 [I a0, St a1] = tr3 K (fun y1 y2 y3 => mlp2 3 Tryz.f3 K 10 (fun i_ => fun _ => none) K (fr3_10 y1 y2 y3)) a0 a1 := by kernel_rfl
  rw [h]
  simp only [lq3_10]
  rfl

def tr4_10 (K : Nat) (q10 : LA → AV → Int → OA) (y1 : LA) (y2 : AV) (y3 : Int) : OA :=
  match decide (y3 < (y1.length : Int)) with | true => (if 0 ≤ y3 then (match y1[y3.toNat]? with | some x48 => (castI .i64 (cellN x48 0) fun n49 => castI .i64 (cellN x48 1) fun n50 => castRef y2 fun p51 => castRef (.ref p51) fun p52 => castL 40 (p52.getD 1 .undef) fun l53 => if 0 ≤ y3 then (match l53[y3.toNat]? with | some x54 => (castI .i64 (cellN x54 0) fun n55 => castI .i64 (cellN x54 1) fun n56 => match (!((n49 == n55) && ((n50 == n56) && true))) with | true => (some (B false)) | false => (q10 y1 y2 (IntKind.i64.wrap (y3 + 1)))) | none => none) else none) | none => none) else none) | false => (some (B true))
def tr4 (K : Nat) (q10 : LA → AV → Int → OA) (a0 : Int) (a1 : ByteArray) : OA :=
  match run tab2 K 12 [] with | some r29 => (castB r29 fun b30 => match (!b30) with | true => (some (B false)) | false => (match run tab2 K 13 [St a1] with | some r31 => (castB r31 fun b32 => match (!b32) with | true => (some (B true)) | false => (match run tab2 K 17 [I a0, St a1] with | some r33 => (castL 40 (compN r33 0) fun l34 => castI .i64 (compN r33 1) fun n35 => castI .i64 (compN r33 2) fun n36 => match run tab2 K 15 [I a0, St a1] with | some r37 => (castP r37 fun u38 => castRef u38 fun p39 => castRef (.ref p39) fun p40 => castI .i64 (p40.getD 3 .undef) fun n41 => match (n36 != n41) with | true => (some (B false)) | false => (castRef u38 fun p42 => castRef (.ref p42) fun p43 => castI .i64 (p43.getD 2 .undef) fun n44 => match (n35 != n44) with | true => (some (B false)) | false => (castRef u38 fun p45 => castRef (.ref p45) fun p46 => castL 40 (p46.getD 1 .undef) fun l47 => match ((l34.length : Int) != (l47.length : Int)) with | true => (some (B false)) | false => (q10 l34 u38 (0 : Int))))) | none => none) | none => none)) | none => none)) | none => none
def lp4_10 (K : Nat) : Nat → LA → AV → Int → OA
  | 0, _, _, _ => none
  | k + 1, y1, y2, y3 => tr4_10 K (lp4_10 K k) y1 y2 y3
def sh4 (K : Nat) (a0 : Int) (a1 : ByteArray) : OA := tr4 K (lp4_10 K K) a0 a1
def fr4_10 (y1 : LA) (y2 : AV) (y3 : Int) : Fr := { slots := gap 5 ((.sl 40 y1, .uni .ro) :: gap 2 ((y2, .uni .ro) :: (I y3, .uni .ro) :: gap 57 [])), boxes := [] }
theorem st4_10 (K : Nat) (k : Nat) (y1 : LA) (y2 : AV) (y3 : Int) : mlp2 4 Tryz.f4 K 10 (fun i_ => fun _ => none) (k + 1) (fr4_10 y1 y2 y3) = tr4_10 K (fun y1 y2 y3 => mlp2 4 Tryz.f4 K 10 (fun i_ => fun _ => none) k (fr4_10 y1 y2 y3)) y1 y2 y3 := by kernel_rfl
theorem lq4_10 (K : Nat) : ∀ (k : Nat) (y1 : LA) (y2 : AV) (y3 : Int), mlp2 4 Tryz.f4 K 10 (fun i_ => fun _ => none) k (fr4_10 y1 y2 y3) = lp4_10 K k y1 y2 y3
  | 0, _, _, _ => rfl
  | k + 1, y1, y2, y3 => by
    rw [st4_10]
    have ih := lq4_10 K k
    try simp only [ih]
    try rfl
theorem eq4 (K : Nat) (a0 : Int) (a1 : ByteArray) : run tab2 (K + 1) 4 [I a0, St a1] = sh4 K a0 a1 := by
  have h : run tab2 (K + 1) 4 [I a0, St a1] = tr4 K (fun y1 y2 y3 => mlp2 4 Tryz.f4 K 10 (fun i_ => fun _ => none) K (fr4_10 y1 y2 y3)) a0 a1 := by kernel_rfl
  rw [h]
  simp only [lq4_10]
  rfl

def tr5 (K : Nat) (a0 : Int) (a1_0 : Int) (a1_1 : ByteArray) (a1_2 : Int) : OA :=
  match run tab2 K 12 [] with | some r57 => (castB r57 fun b58 => match (!b58) with | true => (some (B false)) | false => (match decide ((a1_1.size : Int) > (300 : Int)) with | true => (some (B true)) | false => (match run tab2 K 18 [I a0, .agg [I a1_0, St a1_1, I a1_2]] with | some r59 => (castI .i64 r59 fun n60 => match run tab2 K 19 [I a0] with | some r61 => (castB r61 fun b62 => match (!b62) with | true => (some (B (n60 == (4 : Int)))) | false => (match run tab2 K 20 [I a0, .agg [I a1_0, St a1_1, I a1_2]] with | some r63 => (castI .i64 r63 fun n64 => some (B (n60 == n64))) | none => none)) | none => none) | none => none))) | none => none
def sh5 (K : Nat) (a0 : Int) (a1_0 : Int) (a1_1 : ByteArray) (a1_2 : Int) : OA := tr5 K a0 a1_0 a1_1 a1_2
theorem eq5 (K : Nat) (a0 : Int) (a1_0 : Int) (a1_1 : ByteArray) (a1_2 : Int) : run tab2 (K + 1) 5 [I a0, .agg [I a1_0, St a1_1, I a1_2]] = sh5 K a0 a1_0 a1_1 a1_2 := by kernel_rfl

def tr6 (K : Nat) (a0 : Int) (a1 : LA) : OA :=
  match run tab2 K 12 [] with | some r65 => (castB r65 fun b66 => match (!b66) with | true => (some (B false)) | false => (match run tab2 K 21 [.sl 35 a1] with | some r67 => (castB r67 fun b68 => match (!b68) with | true => (some (B true)) | false => (match run tab2 K 23 [.sl 35 a1] with | some r69 => (castL 35 r69 fun l70 => match run tab2 K 22 [I a0, .sl 35 l70] with | some r71 => (castS (compN r71 0) fun s72 => castI .i64 (compN r71 1) fun n73 => match run tab2 K 24 [I a0, .sl 35 a1] with | some r74 => (castS (compN r74 0) fun s75 => castI .i64 (compN r74 1) fun n76 => match (n73 == n76) with | true => (some (B (s72 == s75))) | false => (some (B false))) | none => none) | none => none) | none => none)) | none => none)) | none => none
def sh6 (K : Nat) (a0 : Int) (a1 : LA) : OA := tr6 K a0 a1
theorem eq6 (K : Nat) (a0 : Int) (a1 : LA) : run tab2 (K + 1) 6 [I a0, .sl 35 a1] = sh6 K a0 a1 := by kernel_rfl

def tr11_16 (K : Nat) (q16 : ByteArray → Int → Int → Int → Int → Int → Int → Int → OA) (y1 : ByteArray) (y2 : Int) (y3 : Int) (y4 : Int) (y5 : Int) (y6 : Int) (y7 : Int) (y8 : Int) : OA :=
  match decide (y8 < y2) with | true => (if 0 ≤ y8 then (match y1[y8.toNat]? with | some c134 => (match ((c134.toNat : Int) == (10 : Int)) with | true => (q16 y1 y2 y3 y4 y5 (IntKind.i64.wrap (y6 + 1)) (IntKind.i64.wrap (y8 + 1)) (IntKind.i64.wrap (y8 + 1))) | false => (q16 y1 y2 y3 y4 y5 y6 y7 (IntKind.i64.wrap (y8 + 1)))) | none => none) else none) | false => (match (y5 == (0 : Int)) with | true => (match (y3 == y6) with | true => (some (B (y4 == (IntKind.i64.wrap ((IntKind.i64.wrap (y2 - y7)) + 1))))) | false => (some (B false))) | false => (some (B false)))
def tr11 (K : Nat) (q16 : ByteArray → Int → Int → Int → Int → Int → Int → Int → OA) (a0 : ByteArray) (a1 : Int) : OA :=
  match run tab2 K 12 [] with | some r118 => (castB r118 fun b119 => match (!b119) with | true => (some (B false)) | false => (match run tab2 K 13 [St a0] with | some r120 => (castB r120 fun b121 => match (!b121) with | true => (some (B true)) | false => (match run tab2 K 33 [St a0] with | some r122 => (castI .i64 (compN r122 0) fun n123 => castI .i64 (compN r122 1) fun n124 => match run tab2 K 34 [St a0] with | some r125 => (castI .i64 (compN r125 0) fun n126 => castI .i64 (compN r125 1) fun n127 => match (n124 != n127) with | true => (some (B false)) | false => (match (n123 != n126) with | true => (some (B false)) | false => (match run tab2 K 35 [St a0, I a1] with | some r128 => (castI .i64 (compN r128 0) fun n129 => castI .i64 (compN r128 1) fun n130 => castI .i64 (compN r128 2) fun n131 => match (n127 == (0 : Int)) with | true => (match run tab2 K 25 [I a1, I 0, I (a0.size : Int)] with | some r132 => (castB r132 fun b133 => match (!b133) with | true => (match (n131 == (3 : Int)) with | true => (match (n129 == (0 : Int)) with | true => (some (B (n130 == (0 : Int)))) | false => (some (B false))) | false => (some (B false))) | false => (match (n127 != (0 : Int)) with | true => (match (n131 == n127) with | true => (match (n129 == (0 : Int)) with | true => (some (B (n130 == (0 : Int)))) | false => (some (B false))) | false => (some (B false))) | false => (q16 a0 a1 n129 n130 n131 (1 : Int) (0 : Int) (0 : Int)))) | none => none) | false => (match (n127 != (0 : Int)) with | true => (match (n131 == n127) with | true => (match (n129 == (0 : Int)) with | true => (some (B (n130 == (0 : Int)))) | false => (some (B false))) | false => (some (B false))) | false => (q16 a0 a1 n129 n130 n131 (1 : Int) (0 : Int) (0 : Int)))) | none => none))) | none => none) | none => none)) | none => none)) | none => none
def lp11_16 (K : Nat) : Nat → ByteArray → Int → Int → Int → Int → Int → Int → Int → OA
  | 0, _, _, _, _, _, _, _, _ => none
  | k + 1, y1, y2, y3, y4, y5, y6, y7, y8 => tr11_16 K (lp11_16 K k) y1 y2 y3 y4 y5 y6 y7 y8
def sh11 (K : Nat) (a0 : ByteArray) (a1 : Int) : OA := tr11 K (lp11_16 K K) a0 a1
def fr11_16 (y1 : ByteArray) (y2 : Int) (y3 : Int) (y4 : Int) (y5 : Int) (y6 : Int) (y7 : Int) (y8 : Int) : Fr := { slots := (St y1, .uni .ro) :: (I y2, .uni .ro) :: gap 7 ((I y3, .uni .ro) :: (I y4, .uni .ro) :: (I y5, .uni .ro) :: (I y6, .uni .ro) :: (I y7, .uni .ro) :: (I y8, .uni .ro) :: gap 80 []), boxes := [] }
theorem st11_16 (K : Nat) (k : Nat) (y1 : ByteArray) (y2 : Int) (y3 : Int) (y4 : Int) (y5 : Int) (y6 : Int) (y7 : Int) (y8 : Int) : mlp2 11 Tryz.f11 K 16 (fun i_ => fun _ => none) (k + 1) (fr11_16 y1 y2 y3 y4 y5 y6 y7 y8) = tr11_16 K (fun y1 y2 y3 y4 y5 y6 y7 y8 => mlp2 11 Tryz.f11 K 16 (fun i_ => fun _ => none) k (fr11_16 y1 y2 y3 y4 y5 y6 y7 y8)) y1 y2 y3 y4 y5 y6 y7 y8 := by kernel_rfl
theorem lq11_16 (K : Nat) : ∀ (k : Nat) (y1 : ByteArray) (y2 : Int) (y3 : Int) (y4 : Int) (y5 : Int) (y6 : Int) (y7 : Int) (y8 : Int), mlp2 11 Tryz.f11 K 16 (fun i_ => fun _ => none) k (fr11_16 y1 y2 y3 y4 y5 y6 y7 y8) = lp11_16 K k y1 y2 y3 y4 y5 y6 y7 y8
  | 0, _, _, _, _, _, _, _, _ => rfl
  | k + 1, y1, y2, y3, y4, y5, y6, y7, y8 => by
    rw [st11_16]
    have ih := lq11_16 K k
    try simp only [ih]
    try rfl
theorem eq11 (K : Nat) (a0 : ByteArray) (a1 : Int) : run tab2 (K + 1) 11 [St a0, I a1] = sh11 K a0 a1 := by
  have h : run tab2 (K + 1) 11 [St a0, I a1] = tr11 K (fun y1 y2 y3 y4 y5 y6 y7 y8 => mlp2 11 Tryz.f11 K 16 (fun i_ => fun _ => none) K (fr11_16 y1 y2 y3 y4 y5 y6 y7 y8)) a0 a1 := by kernel_rfl
  rw [h]
  simp only [lq11_16]
  rfl

def tr12 (K : Nat) : OA :=
  match run tab2 K 36 [] with | some r135 => (castS r135 fun s136 => match run tab2 K 14 [I 0, St s136] with | some r137 => (castL 35 (compN r137 0) fun l138 => castI .i64 (compN r137 1) fun n139 => castI .i64 (compN r137 2) fun n140 => match run tab2 K 36 [] with | some r141 => (castS r141 fun s142 => match run tab2 K 17 [I 0, St s142] with | some r143 => (castL 40 (compN r143 0) fun l144 => castI .i64 (compN r143 1) fun n145 => castI .i64 (compN r143 2) fun n146 => match run tab2 K 22 [I 0, .sl 35 [.agg [I 0, St (⟨#[97]⟩ : ByteArray), I 0], .agg [I 6, St (⟨#[46]⟩ : ByteArray), I 0], .agg [I 0, St (⟨#[98]⟩ : ByteArray), I 0]]] with | some r147 => (castS (compN r147 0) fun s148 => castI .i64 (compN r147 1) fun n149 => match (n140 == (0 : Int)) with | true => (match ((l138.length : Int) == (8 : Int)) with | true => (match (n146 == (0 : Int)) with | true => (match ((l144.length : Int) == (1 : Int)) with | true => (match (n149 == (0 : Int)) with | true => (some (B (s148 == (⟨#[97, 46, 98]⟩ : ByteArray)))) | false => (some (B false))) | false => (some (B false))) | false => (some (B false))) | false => (some (B false))) | false => (some (B false))) | none => none) | none => none) | none => none) | none => none) | none => none
def sh12 (K : Nat) : OA := tr12 K 
theorem eq12 (K : Nat) : run tab2 (K + 1) 12 [] = sh12 K  := by kernel_rfl

end
end Go.Proofs.YtdhbhedfbdckaaaGreatDoor
