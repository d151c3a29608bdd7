/- A part of an interpreter of the model's code that is proved sound, and of laws told by it: DamG1. -/
import Derived.Test.YtdehjednpdbhaaaDoorPvD1
import Derived.KernelRfl
set_option linter.unusedVariables false
set_option linter.unusedSimpArgs false
namespace Go.Proofs.YtdehjednpdbhaaaDoor
open Go.Dam
set_option linter.unusedVariables false
set_option maxRecDepth 100000
noncomputable section
abbrev LA := List AV
abbrev OA := Option AV
abbrev gap (n : Nat) (l : List (AV × Md)) : List (AV × Md) := Nat.rec l (fun _ r => none1 :: r) n
def mlp (f : Nat) (fn : Func) (K j : Nat) (outs : Nat → Fr → OA) : Nat → Fr → OA := loopN (atLoop tab (run tab K) f K j outs (bodyOf fn) (doneK tab (tab.roF f) fn) (fun _ _ => none) (doneK tab (tab.roF f) fn)) (tab.keep f j)
abbrev I (n : Int) : AV := .sc (.int .i64 n)
abbrev B (b : Bool) : AV := .sc (.bool b)
abbrev St (s : ByteArray) : AV := .sc (.string s)

def tr5 (K : Nat) (a0 : LA) : OA :=
  match run tab K 14 [.sl 46 a0] with | some r1 => (castI .i64 (compN r1 0) fun n2 => castI .i64 (compN r1 1) fun n3 => some (I n3)) | none => none
def sh5 (K : Nat) (a0 : LA) : OA := tr5 K a0
theorem eq5 (K : Nat) (a0 : LA) : run tab (K + 1) 5 [.sl 46 a0] = sh5 K a0 := by kernel_rfl

def tr6_14 (K : Nat) (q14 : Int → LA → LA → Int → Int → OA) (y1 : Int) (y2 : LA) (y3 : LA) (y4 : Int) (y5 : Int) : OA :=
  match decide (y5 < y4) with | true => (if 0 ≤ y5 then (match y3[y5.toNat]? with | some x13 => (castS (cellN x13 0) fun s14 => castI .i64 (cellN x13 1) fun n15 => castI .i64 (cellN x13 2) fun n16 => castI .i64 (cellN x13 3) fun n17 => match run tab K 19 [.agg [St s14, I n15, I n16, I n17]] with | some r18 => (castS r18 fun s19 => if (y2.length + ([.agg [I (IntKind.i64.wrap (y1 + y5)), St s19]] : LA).length) * 24 ≤ maxBytes then (q14 y1 (y2 ++ ([.agg [I (IntKind.i64.wrap (y1 + y5)), St s19]] : LA)) y3 y4 (IntKind.i64.wrap (y5 + 1))) else none) | none => none) | none => none) else none) | false => (some (.tup [.sl 57 y2, I 0]))
def tr6 (K : Nat) (q14 : Int → LA → LA → Int → Int → OA) (a0 : ByteArray) (a1 : LA) : OA :=
  match run tab K 15 [St a0] with | some r4 => (castI .i64 r4 fun n5 => match (n5 != (0 : Int)) with | true => (some (.tup [.sl 57 [], I n5])) | false => (match run tab K 16 [St a0] with | some r6 => (castL 46 r6 fun l7 => match run tab K 17 [St a0] with | some r8 => (castL 9 r8 fun l9 => match ((l7.length : Int) != (l9.length : Int)) with | true => (some (.tup [.sl 57 [], I 33])) | false => (match run tab K 18 [.sl 46 a1] with | some r10 => (castI .i64 (compN r10 0) fun n11 => castI .i64 (compN r10 1) fun n12 => match (n12 != (0 : Int)) with | true => (some (.tup [.sl 57 [], I n12])) | false => (match decide ((IntKind.i64.wrap ((l7.length : Int) + (a1.length : Int))) > (48 : Int)) with | true => (some (.tup [.sl 57 [], I 32])) | false => (q14 (l7.length : Int) ([] : LA) a1 (a1.length : Int) (0 : Int)))) | none => none)) | none => none) | none => none)) | none => none
def lp6_14 (K : Nat) : Nat → Int → LA → LA → Int → Int → OA
  | 0, _, _, _, _, _ => none
  | k + 1, y1, y2, y3, y4, y5 => tr6_14 K (lp6_14 K k) y1 y2 y3 y4 y5
def sh6 (K : Nat) (a0 : ByteArray) (a1 : LA) : OA := tr6 K (lp6_14 K K) a0 a1
def fr6_14 (y1 : Int) (y2 : LA) (y3 : LA) (y4 : Int) (y5 : Int) : Fr := { slots := gap 7 ((I y1, .uni .ro) :: gap 2 ((.sl 57 y2, .uni .own) :: gap 28 ((.sl 46 y3, .uni .lent) :: (I y4, .uni .ro) :: (I y5, .uni .ro) :: gap 15 []))), boxes := [] }
theorem st6_14 (K : Nat) (k : Nat) (y1 : Int) (y2 : LA) (y3 : LA) (y4 : Int) (y5 : Int) : mlp 6 Tryd.f6 K 14 (fun i_ => fun _ => none) (k + 1) (fr6_14 y1 y2 y3 y4 y5) = tr6_14 K (fun y1 y2 y3 y4 y5 => mlp 6 Tryd.f6 K 14 (fun i_ => fun _ => none) k (fr6_14 y1 y2 y3 y4 y5)) y1 y2 y3 y4 y5 := by kernel_rfl
theorem lq6_14 (K : Nat) : ∀ (k : Nat) (y1 : Int) (y2 : LA) (y3 : LA) (y4 : Int) (y5 : Int), mlp 6 Tryd.f6 K 14 (fun i_ => fun _ => none) k (fr6_14 y1 y2 y3 y4 y5) = lp6_14 K k y1 y2 y3 y4 y5
  | 0, _, _, _, _, _ => rfl
  | k + 1, y1, y2, y3, y4, y5 => by
    rw [st6_14]
    have ih := lq6_14 K k
    try simp only [ih]
    try rfl
theorem eq6 (K : Nat) (a0 : ByteArray) (a1 : LA) : run tab (K + 1) 6 [St a0, .sl 46 a1] = sh6 K a0 a1 := by
  have h : run tab (K + 1) 6 [St a0, .sl 46 a1] = tr6 K (fun y1 y2 y3 y4 y5 => mlp 6 Tryd.f6 K 14 (fun i_ => fun _ => none) K (fr6_14 y1 y2 y3 y4 y5)) a0 a1 := by kernel_rfl
  rw [h]
  simp only [lq6_14]
  rfl

def tr9_4 (K : Nat) (q4 : LA → LA → Int → OA) (y1 : LA) (y2 : LA) (y3 : Int) : OA :=
  match decide (y3 < (y1.length : Int)) with | true => (if 0 ≤ y3 then (match y1[y3.toNat]? with | some x20 => (castS (cellN x20 0) fun s21 => castI .i64 (cellN x20 1) fun n22 => castI .i64 (cellN x20 2) fun n23 => castI .i64 (cellN x20 3) fun n24 => if 0 ≤ y3 then (match y2[y3.toNat]? with | some x25 => (castS (cellN x25 0) fun s26 => castI .i64 (cellN x25 1) fun n27 => castI .i64 (cellN x25 2) fun n28 => castI .i64 (cellN x25 3) fun n29 => match (!((s21 == s26) && ((n22 == n27) && ((n23 == n28) && ((n24 == n29) && true))))) with | true => (some (B false)) | false => (q4 y1 y2 (IntKind.i64.wrap (y3 + 1)))) | none => none) else none) | none => none) else none) | false => (some (B true))
def tr9 (K : Nat) (q4 : LA → LA → Int → OA) (a0 : LA) (a1 : LA) : OA :=
  match ((a0.length : Int) != (a1.length : Int)) with | true => (some (B false)) | false => (q4 a0 a1 (0 : Int))
def lp9_4 (K : Nat) : Nat → LA → LA → Int → OA
  | 0, _, _, _ => none
  | k + 1, y1, y2, y3 => tr9_4 K (lp9_4 K k) y1 y2 y3
def sh9 (K : Nat) (a0 : LA) (a1 : LA) : OA := tr9 K (lp9_4 K K) a0 a1
def fr9_4 (y1 : LA) (y2 : LA) (y3 : Int) : Fr := { slots := (.sl 46 y1, .uni .lent) :: (.sl 46 y2, .uni .lent) :: gap 3 ((I y3, .uni .ro) :: gap 20 []), boxes := [] }
theorem st9_4 (K : Nat) (k : Nat) (y1 : LA) (y2 : LA) (y3 : Int) : mlp 9 Tryd.f9 K 4 (fun i_ => fun _ => none) (k + 1) (fr9_4 y1 y2 y3) = tr9_4 K (fun y1 y2 y3 => mlp 9 Tryd.f9 K 4 (fun i_ => fun _ => none) k (fr9_4 y1 y2 y3)) y1 y2 y3 := by kernel_rfl
theorem lq9_4 (K : Nat) : ∀ (k : Nat) (y1 : LA) (y2 : LA) (y3 : Int), mlp 9 Tryd.f9 K 4 (fun i_ => fun _ => none) k (fr9_4 y1 y2 y3) = lp9_4 K k y1 y2 y3
  | 0, _, _, _ => rfl
  | k + 1, y1, y2, y3 => by
    rw [st9_4]
    have ih := lq9_4 K k
    try simp only [ih]
    try rfl
theorem eq9 (K : Nat) (a0 : LA) (a1 : LA) : run tab (K + 1) 9 [.sl 46 a0, .sl 46 a1] = sh9 K a0 a1 := by
  have h : run tab (K + 1) 9 [.sl 46 a0, .sl 46 a1] = tr9 K (fun y1 y2 y3 => mlp 9 Tryd.f9 K 4 (fun i_ => fun _ => none) K (fr9_4 y1 y2 y3)) a0 a1 := by kernel_rfl
  rw [h]
  simp only [lq9_4]
  rfl

def tr10_3 (K : Nat) (q3 : Int → LA → Int → OA) (y1 : Int) (y2 : LA) (y3 : Int) : OA :=
  match decide (y3 < y1) with | true => (if (y2.length + ([I 32] : LA).length) * 8 ≤ maxBytes then (q3 y1 (y2 ++ ([I 32] : LA)) (IntKind.i64.wrap (y3 + 1))) else none) | false => (some (.sl 3 y2))
def tr10 (K : Nat) (q3 : Int → LA → Int → OA) (a0 : Int) : OA :=
  q3 a0 ([] : LA) (0 : Int)
def lp10_3 (K : Nat) : Nat → Int → LA → Int → OA
  | 0, _, _, _ => none
  | k + 1, y1, y2, y3 => tr10_3 K (lp10_3 K k) y1 y2 y3
def sh10 (K : Nat) (a0 : Int) : OA := tr10 K (lp10_3 K K) a0
def fr10_3 (y1 : Int) (y2 : LA) (y3 : Int) : Fr := { slots := (I y1, .uni .ro) :: gap 2 ((.sl 3 y2, .uni .own) :: (I y3, .uni .ro) :: gap 9 []), boxes := [] }
theorem st10_3 (K : Nat) (k : Nat) (y1 : Int) (y2 : LA) (y3 : Int) : mlp 10 Tryd.f10 K 3 (fun i_ => fun _ => none) (k + 1) (fr10_3 y1 y2 y3) = tr10_3 K (fun y1 y2 y3 => mlp 10 Tryd.f10 K 3 (fun i_ => fun _ => none) k (fr10_3 y1 y2 y3)) y1 y2 y3 := by kernel_rfl
theorem lq10_3 (K : Nat) : ∀ (k : Nat) (y1 : Int) (y2 : LA) (y3 : Int), mlp 10 Tryd.f10 K 3 (fun i_ => fun _ => none) k (fr10_3 y1 y2 y3) = lp10_3 K k y1 y2 y3
  | 0, _, _, _ => rfl
  | k + 1, y1, y2, y3 => by
    rw [st10_3]
    have ih := lq10_3 K k
    try simp only [ih]
    try rfl
theorem eq10 (K : Nat) (a0 : Int) : run tab (K + 1) 10 [I a0] = sh10 K a0 := by
  have h : run tab (K + 1) 10 [I a0] = tr10 K (fun y1 y2 y3 => mlp 10 Tryd.f10 K 3 (fun i_ => fun _ => none) K (fr10_3 y1 y2 y3)) a0 := by kernel_rfl
  rw [h]
  simp only [lq10_3]
  rfl

def tr11 (K : Nat) (a0 : Int) : OA :=
  if a0 = a0 ∧ 0 ≤ a0 ∧ a0.toNat * 1 ≤ maxBytes then (bytesK (List.replicate a0.toNat (.sc (.int .u8 0) : AV)) fun z30 => some (St (⟨z30.toArray⟩ : ByteArray))) else none
def sh11 (K : Nat) (a0 : Int) : OA := tr11 K a0
theorem eq11 (K : Nat) (a0 : Int) : run tab (K + 1) 11 [I a0] = sh11 K a0 := by kernel_rfl

def tr12 (K : Nat) (a0 : ByteArray) : OA :=
  match run tab K 15 [St a0] with | some r31 => (castI .i64 r31 fun n32 => match (n32 != (0 : Int)) with | true => (some (.tup [.sl 46 [], I 0, I n32])) | false => (match run tab K 16 [St a0] with | some r33 => (castL 46 r33 fun l34 => some (.tup [.sl 46 l34, I (l34.length : Int), I 0])) | none => none)) | none => none
def sh12 (K : Nat) (a0 : ByteArray) : OA := tr12 K a0
theorem eq12 (K : Nat) (a0 : ByteArray) : run tab (K + 1) 12 [St a0] = sh12 K a0 := by kernel_rfl

def tr14_4 (K : Nat) (q4 : LA → Int → OA) (y1 : LA) (y2 : Int) : OA :=
  match decide (y2 < (y1.length : Int)) with | true => (if 0 ≤ y2 then (match y1[y2.toNat]? with | some x35 => (castS (cellN x35 0) fun s36 => castI .i64 (cellN x35 1) fun n37 => castI .i64 (cellN x35 2) fun n38 => castI .i64 (cellN x35 3) fun n39 => match run tab K 23 [.agg [St s36, I n37, I n38, I n39]] with | some r40 => (castI .i64 r40 fun n41 => match (n41 != (0 : Int)) with | true => (some (.tup [I y2, I n41])) | false => (q4 y1 (IntKind.i64.wrap (y2 + 1)))) | none => none) | none => none) else none) | false => (some (.tup [I 0, I 0]))
def tr14 (K : Nat) (q4 : LA → Int → OA) (a0 : LA) : OA :=
  match decide ((a0.length : Int) > (60 : Int)) with | true => (some (.tup [I 0, I 2])) | false => (q4 a0 (0 : Int))
def lp14_4 (K : Nat) : Nat → LA → Int → OA
  | 0, _, _ => none
  | k + 1, y1, y2 => tr14_4 K (lp14_4 K k) y1 y2
def sh14 (K : Nat) (a0 : LA) : OA := tr14 K (lp14_4 K K) a0
def fr14_4 (y1 : LA) (y2 : Int) : Fr := { slots := (.sl 46 y1, .uni .lent) :: gap 3 ((I y2, .uni .ro) :: gap 19 []), boxes := [] }
theorem st14_4 (K : Nat) (k : Nat) (y1 : LA) (y2 : Int) : mlp 14 Tryd.f14 K 4 (fun i_ => fun _ => none) (k + 1) (fr14_4 y1 y2) = tr14_4 K (fun y1 y2 => mlp 14 Tryd.f14 K 4 (fun i_ => fun _ => none) k (fr14_4 y1 y2)) y1 y2 := by kernel_rfl
theorem lq14_4 (K : Nat) : ∀ (k : Nat) (y1 : LA) (y2 : Int), mlp 14 Tryd.f14 K 4 (fun i_ => fun _ => none) k (fr14_4 y1 y2) = lp14_4 K k y1 y2
  | 0, _, _ => rfl
  | k + 1, y1, y2 => by
    rw [st14_4]
    have ih := lq14_4 K k
    try simp only [ih]
    try rfl
theorem eq14 (K : Nat) (a0 : LA) : run tab (K + 1) 14 [.sl 46 a0] = sh14 K a0 := by
  have h : run tab (K + 1) 14 [.sl 46 a0] = tr14 K (fun y1 y2 => mlp 14 Tryd.f14 K 4 (fun i_ => fun _ => none) K (fr14_4 y1 y2)) a0 := by kernel_rfl
  rw [h]
  simp only [lq14_4]
  rfl

def tr15 (K : Nat) (a0 : ByteArray) : OA :=
  match ((Int.tmod (a0.size : Int) 32) != (0 : Int)) with | true => (some (I 19)) | false => (match decide ((a0.size : Int) > (1536 : Int)) with | true => (some (I 2)) | false => (some (I 0)))
def sh15 (K : Nat) (a0 : ByteArray) : OA := tr15 K a0
theorem eq15 (K : Nat) (a0 : ByteArray) : run tab (K + 1) 15 [St a0] = sh15 K a0 := by kernel_rfl

def tr16_3 (K : Nat) (q3 : LA → LA → Int → Int → OA) (y1 : LA) (y2 : LA) (y3 : Int) (y4 : Int) : OA :=
  match decide (y4 < y3) with | true => (if 0 ≤ y4 then (match y2[y4.toNat]? with | some x44 => (castS x44 fun s45 => match run tab K 24 [St s45] with | some r46 => (castS (cellN (compN r46 0) 0) fun s47 => castI .i64 (cellN (compN r46 0) 1) fun n48 => castI .i64 (cellN (compN r46 0) 2) fun n49 => castI .i64 (cellN (compN r46 0) 3) fun n50 => castB (compN r46 1) fun b51 => match (!b51) with | true => (some (.sl 46 y1)) | false => (if (y1.length + ([.agg [St s47, I n48, I n49, I n50]] : LA).length) * 40 ≤ maxBytes then (q3 (y1 ++ ([.agg [St s47, I n48, I n49, I n50]] : LA)) y2 y3 (IntKind.i64.wrap (y4 + 1))) else none)) | none => none) | none => none) else none) | false => (some (.sl 46 y1))
def tr16 (K : Nat) (q3 : LA → LA → Int → Int → OA) (a0 : ByteArray) : OA :=
  match run tab K 17 [St a0] with | some r42 => (castL 9 r42 fun l43 => q3 ([] : LA) l43 (l43.length : Int) (0 : Int)) | none => none
def lp16_3 (K : Nat) : Nat → LA → LA → Int → Int → OA
  | 0, _, _, _, _ => none
  | k + 1, y1, y2, y3, y4 => tr16_3 K (lp16_3 K k) y1 y2 y3 y4
def sh16 (K : Nat) (a0 : ByteArray) : OA := tr16 K (lp16_3 K K) a0
def fr16_3 (y1 : LA) (y2 : LA) (y3 : Int) (y4 : Int) : Fr := { slots := gap 3 ((.sl 46 y1, .uni .own) :: gap 5 ((.sl 9 y2, .uni .own) :: (I y3, .uni .ro) :: (I y4, .uni .ro) :: gap 16 [])), boxes := [] }
theorem st16_3 (K : Nat) (k : Nat) (y1 : LA) (y2 : LA) (y3 : Int) (y4 : Int) : mlp 16 Tryd.f16 K 3 (fun i_ => fun _ => none) (k + 1) (fr16_3 y1 y2 y3 y4) = tr16_3 K (fun y1 y2 y3 y4 => mlp 16 Tryd.f16 K 3 (fun i_ => fun _ => none) k (fr16_3 y1 y2 y3 y4)) y1 y2 y3 y4 := by kernel_rfl
theorem lq16_3 (K : Nat) : ∀ (k : Nat) (y1 : LA) (y2 : LA) (y3 : Int) (y4 : Int), mlp 16 Tryd.f16 K 3 (fun i_ => fun _ => none) k (fr16_3 y1 y2 y3 y4) = lp16_3 K k y1 y2 y3 y4
  | 0, _, _, _, _ => rfl
  | k + 1, y1, y2, y3, y4 => by
    rw [st16_3]
    have ih := lq16_3 K k
    try simp only [ih]
    try rfl
theorem eq16 (K : Nat) (a0 : ByteArray) : run tab (K + 1) 16 [St a0] = sh16 K a0 := by
  have h : run tab (K + 1) 16 [St a0] = tr16 K (fun y1 y2 y3 y4 => mlp 16 Tryd.f16 K 3 (fun i_ => fun _ => none) K (fr16_3 y1 y2 y3 y4)) a0 := by kernel_rfl
  rw [h]
  simp only [lq16_3]
  rfl

def tr18_4 (K : Nat) (q4 : LA → Int → Int → OA) (y1 : LA) (y2 : Int) (y3 : Int) : OA :=
  match decide (y3 < y2) with | true => (if 0 ≤ y3 then (match y1[y3.toNat]? with | some x52 => (castS (cellN x52 0) fun s53 => castI .i64 (cellN x52 1) fun n54 => castI .i64 (cellN x52 2) fun n55 => castI .i64 (cellN x52 3) fun n56 => match run tab K 26 [.agg [St s53, I n54, I n55, I n56]] with | some r57 => (castI .i64 r57 fun n58 => match (n58 != (0 : Int)) with | true => (some (.tup [I y3, I n58])) | false => (q4 y1 y2 (IntKind.i64.wrap (y3 + 1)))) | none => none) | none => none) else none) | false => (some (.tup [I 0, I 0]))
def tr18 (K : Nat) (q4 : LA → Int → Int → OA) (a0 : LA) : OA :=
  match decide ((a0.length : Int) > (60 : Int)) with | true => (some (.tup [I 0, I 2])) | false => (q4 a0 (a0.length : Int) (0 : Int))
def lp18_4 (K : Nat) : Nat → LA → Int → Int → OA
  | 0, _, _, _ => none
  | k + 1, y1, y2, y3 => tr18_4 K (lp18_4 K k) y1 y2 y3
def sh18 (K : Nat) (a0 : LA) : OA := tr18 K (lp18_4 K K) a0
def fr18_4 (y1 : LA) (y2 : Int) (y3 : Int) : Fr := { slots := gap 10 ((.sl 46 y1, .uni .lent) :: (I y2, .uni .ro) :: (I y3, .uni .ro) :: gap 11 []), boxes := [] }
theorem st18_4 (K : Nat) (k : Nat) (y1 : LA) (y2 : Int) (y3 : Int) : mlp 18 Tryd.f18 K 4 (fun i_ => fun _ => none) (k + 1) (fr18_4 y1 y2 y3) = tr18_4 K (fun y1 y2 y3 => mlp 18 Tryd.f18 K 4 (fun i_ => fun _ => none) k (fr18_4 y1 y2 y3)) y1 y2 y3 := by kernel_rfl
theorem lq18_4 (K : Nat) : ∀ (k : Nat) (y1 : LA) (y2 : Int) (y3 : Int), mlp 18 Tryd.f18 K 4 (fun i_ => fun _ => none) k (fr18_4 y1 y2 y3) = lp18_4 K k y1 y2 y3
  | 0, _, _, _ => rfl
  | k + 1, y1, y2, y3 => by
    rw [st18_4]
    have ih := lq18_4 K k
    try simp only [ih]
    try rfl
theorem eq18 (K : Nat) (a0 : LA) : run tab (K + 1) 18 [.sl 46 a0] = sh18 K a0 := by
  have h : run tab (K + 1) 18 [.sl 46 a0] = tr18 K (fun y1 y2 y3 => mlp 18 Tryd.f18 K 4 (fun i_ => fun _ => none) K (fr18_4 y1 y2 y3)) a0 := by kernel_rfl
  rw [h]
  simp only [lq18_4]
  rfl

def tr20_4 (K : Nat) (q4 : LA → LA → LA → Int → Int → OA) (y1 : LA) (y2 : LA) (y3 : LA) (y4 : Int) (y5 : Int) : OA :=
  match decide (y5 < y4) with | true => (if 0 ≤ y5 then (match y3[y5.toNat]? with | some x59 => (castI .i64 (cellN x59 0) fun n60 => castS (cellN x59 1) fun s61 => match decide (n60 < (0 : Int)) with | true => (some (I 3)) | false => (match decide (n60 ≥ (48 : Int)) with | true => (some (I 3)) | false => (match ((s61.size : Int) != (32 : Int)) with | true => (some (I 19)) | false => (q4 y1 y2 y3 y4 (IntKind.i64.wrap (y5 + 1)))))) | none => none) else none) | false => (match ((y2.length : Int) != (y1.length : Int)) with | true => (some (I 6)) | false => (match run tab K 27 [.sl 3 y2, .fn 28 []] with | some r62 => (castB r62 fun b63 => match b63 with | true => (some (I 3)) | false => (some (I 0))) | none => none))
def tr20 (K : Nat) (q4 : LA → LA → LA → Int → Int → OA) (a0 : LA) (a1 : LA) : OA :=
  match decide ((a0.length : Int) > (96 : Int)) with | true => (some (I 2)) | false => (q4 a0 a1 a0 (a0.length : Int) (0 : Int))
def lp20_4 (K : Nat) : Nat → LA → LA → LA → Int → Int → OA
  | 0, _, _, _, _, _ => none
  | k + 1, y1, y2, y3, y4, y5 => tr20_4 K (lp20_4 K k) y1 y2 y3 y4 y5
def sh20 (K : Nat) (a0 : LA) (a1 : LA) : OA := tr20 K (lp20_4 K K) a0 a1
def fr20_4 (y1 : LA) (y2 : LA) (y3 : LA) (y4 : Int) (y5 : Int) : Fr := { slots := (.sl 57 y1, .uni .lent) :: (.sl 3 y2, .uni .lent) :: gap 8 ((.sl 57 y3, .uni .lent) :: (I y4, .uni .ro) :: (I y5, .uni .ro) :: gap 27 []), boxes := [] }
theorem st20_4 (K : Nat) (k : Nat) (y1 : LA) (y2 : LA) (y3 : LA) (y4 : Int) (y5 : Int) : mlp 20 Tryd.f20 K 4 (fun i_ => fun _ => none) (k + 1) (fr20_4 y1 y2 y3 y4 y5) = tr20_4 K (fun y1 y2 y3 y4 y5 => mlp 20 Tryd.f20 K 4 (fun i_ => fun _ => none) k (fr20_4 y1 y2 y3 y4 y5)) y1 y2 y3 y4 y5 := by kernel_rfl
theorem lq20_4 (K : Nat) : ∀ (k : Nat) (y1 : LA) (y2 : LA) (y3 : LA) (y4 : Int) (y5 : Int), mlp 20 Tryd.f20 K 4 (fun i_ => fun _ => none) k (fr20_4 y1 y2 y3 y4 y5) = lp20_4 K k y1 y2 y3 y4 y5
  | 0, _, _, _, _, _ => rfl
  | k + 1, y1, y2, y3, y4, y5 => by
    rw [st20_4]
    have ih := lq20_4 K k
    try simp only [ih]
    try rfl
theorem eq20 (K : Nat) (a0 : LA) (a1 : LA) : run tab (K + 1) 20 [.sl 57 a0, .sl 3 a1] = sh20 K a0 a1 := by
  have h : run tab (K + 1) 20 [.sl 57 a0, .sl 3 a1] = tr20 K (fun y1 y2 y3 y4 y5 => mlp 20 Tryd.f20 K 4 (fun i_ => fun _ => none) K (fr20_4 y1 y2 y3 y4 y5)) a0 a1 := by kernel_rfl
  rw [h]
  simp only [lq20_4]
  rfl

def tr23 (K : Nat) (a0_0 : ByteArray) (a0_1 : Int) (a0_2 : Int) (a0_3 : Int) : OA :=
  match run tab K 30 [St a0_0] with | some r64 => (castB r64 fun b65 => match (!b65) with | true => (some (I 7)) | false => (match run tab K 31 [I a0_1, I 0, I 1099511627775] with | some r66 => (castB r66 fun b67 => match (!b67) with | true => (some (I 3)) | false => (match run tab K 31 [I a0_2, I 0, I 4] with | some r68 => (castB r68 fun b69 => match (!b69) with | true => (some (I 3)) | false => (match run tab K 31 [I a0_3, I 0, I 200] with | some r70 => (castB r70 fun b71 => match (!b71) with | true => (some (I 3)) | false => (some (I 0))) | none => none)) | none => none)) | none => none)) | none => none
def sh23 (K : Nat) (a0_0 : ByteArray) (a0_1 : Int) (a0_2 : Int) (a0_3 : Int) : OA := tr23 K a0_0 a0_1 a0_2 a0_3
theorem eq23 (K : Nat) (a0_0 : ByteArray) (a0_1 : Int) (a0_2 : Int) (a0_3 : Int) : run tab (K + 1) 23 [.agg [St a0_0, I a0_1, I a0_2, I a0_3]] = sh23 K a0_0 a0_1 a0_2 a0_3 := by kernel_rfl

def tr24_6 (K : Nat) (q6 : ByteArray → LA → Int → Int → ByteArray → Int → Int → Int → ByteArray → Int → Int → Int → OA) (y1 : ByteArray) (y2 : LA) (y3 : Int) (y4 : Int) (y5 : ByteArray) (y6 : Int) (y7 : Int) (y8 : Int) (y9 : ByteArray) (y10 : Int) (y11 : Int) (y12 : Int) : OA :=
  match decide (y4 < y3) with | true => (if 0 ≤ y4 then (match y2[y4.toNat]? with | some x76 => (castI .u8 x76 fun n77 => q6 y1 y2 y3 (IntKind.i64.wrap (y4 + 1)) y5 y6 y7 y8 y9 (IntKind.i64.wrap ((BitVec.ofInt (IntKind.bits .i64) (IntKind.i64.wrap (y10 * 2 ^ 8)) ||| BitVec.ofInt (IntKind.bits .i64) (IntKind.i64.wrap n77)).toNat)) y11 y12) | none => none) else none) | false => (if 0 ≤ (5 : Int) then (match y1[(5 : Int).toNat]? with | some c78 => (if 0 ≤ (6 : Int) then (match y1[(6 : Int).toNat]? with | some c79 => (if 0 ≤ (8 : Int) ∧ (8 : Int) ≤ (y1.size : Int) ∧ (y1.size : Int) ≤ y1.size then (match run tab K 33 [St (y1.extract (8 : Int).toNat (y1.size : Int).toNat), St (⟨#[0]⟩ : ByteArray)] with | some r80 => (castS r80 fun s81 => if 0 ≤ (7 : Int) then (match y1[(7 : Int).toNat]? with | some c82 => (match ((c82.toNat : Int) == (90 : Int)) with | true => (match (s81 == (⟨#[]⟩ : ByteArray)) with | true => (match run tab K 26 [.agg [St y9, I y10, I (IntKind.i64.wrap (c78.toNat : Int)), I (IntKind.i64.wrap (c79.toNat : Int))]] with | some r83 => (castI .i64 r83 fun n84 => some (.tup [.agg [St y9, I y10, I (IntKind.i64.wrap (c78.toNat : Int)), I (IntKind.i64.wrap (c79.toNat : Int))], B (n84 == (0 : Int))])) | none => none) | false => (some (.tup [.agg [St y9, I y10, I (IntKind.i64.wrap (c78.toNat : Int)), I (IntKind.i64.wrap (c79.toNat : Int))], B false]))) | false => (some (.tup [.agg [St y9, I y10, I (IntKind.i64.wrap (c78.toNat : Int)), I (IntKind.i64.wrap (c79.toNat : Int))], B false]))) | none => none) else none) | none => none) else none) | none => none) else none) | none => none) else none)
def tr24 (K : Nat) (q6 : ByteArray → LA → Int → Int → ByteArray → Int → Int → Int → ByteArray → Int → Int → Int → OA) (a0 : ByteArray) : OA :=
  match run tab K 32 [St a0] with | some r72 => (castS (compN r72 0) fun s73 => castS (compN r72 1) fun s74 => castB (compN r72 2) fun b75 => match (!b75) with | true => (some (.tup [.agg [St ByteArray.empty, I 0, I 0, I 0], B false])) | false => (match decide ((s74.size : Int) < (8 : Int)) with | true => (some (.tup [.agg [St ByteArray.empty, I 0, I 0, I 0], B false])) | false => (if 0 ≤ (0 : Int) ∧ (0 : Int) ≤ (5 : Int) ∧ (5 : Int) ≤ s74.size then (match Nat.ble (s74.extract (0 : Int).toNat (5 : Int).toNat).size 9223372036854775807 with | true => (q6 s74 ((s74.extract (0 : Int).toNat (5 : Int).toNat).data.toList.map fun c => AV.sc (.int .u8 (c.toNat : Int))) (((s74.extract (0 : Int).toNat (5 : Int).toNat).data.toList.map fun c => AV.sc (.int .u8 (c.toNat : Int))).length : Int) (0 : Int) ByteArray.empty (0 : Int) (0 : Int) (0 : Int) s73 (0 : Int) (0 : Int) (0 : Int)) | false => none) else none))) | none => none
def lp24_6 (K : Nat) : Nat → ByteArray → LA → Int → Int → ByteArray → Int → Int → Int → ByteArray → Int → Int → Int → OA
  | 0, _, _, _, _, _, _, _, _, _, _, _, _ => none
  | k + 1, y1, y2, y3, y4, y5, y6, y7, y8, y9, y10, y11, y12 => tr24_6 K (lp24_6 K k) y1 y2 y3 y4 y5 y6 y7 y8 y9 y10 y11 y12
def sh24 (K : Nat) (a0 : ByteArray) : OA := tr24 K (lp24_6 K K) a0
def fr24_6 (y1 : ByteArray) (y2 : LA) (y3 : Int) (y4 : Int) (y5 : ByteArray) (y6 : Int) (y7 : Int) (y8 : Int) (y9 : ByteArray) (y10 : Int) (y11 : Int) (y12 : Int) : Fr := { slots := gap 2 ((.undef, .loc 2 0) :: gap 2 ((St y1, .uni .ro) :: gap 1 ((.undef, .loc 7 0) :: gap 21 ((.sl 5 y2, .uni .own) :: (I y3, .uni .ro) :: (I y4, .uni .ro) :: gap 35 [])))), boxes := [(2, [(St y5, .ro), (I y6, .ro), (I y7, .ro), (I y8, .ro)]), (7, [(St y9, .ro), (I y10, .ro), (I y11, .ro), (I y12, .ro)])] }
theorem st24_6 (K : Nat) (k : Nat) (y1 : ByteArray) (y2 : LA) (y3 : Int) (y4 : Int) (y5 : ByteArray) (y6 : Int) (y7 : Int) (y8 : Int) (y9 : ByteArray) (y10 : Int) (y11 : Int) (y12 : Int) : mlp 24 Tryd.f24 K 6 (fun i_ => fun _ => none) (k + 1) (fr24_6 y1 y2 y3 y4 y5 y6 y7 y8 y9 y10 y11 y12) = tr24_6 K (fun y1 y2 y3 y4 y5 y6 y7 y8 y9 y10 y11 y12 => mlp 24 Tryd.f24 K 6 (fun i_ => fun _ => none) k (fr24_6 y1 y2 y3 y4 y5 y6 y7 y8 y9 y10 y11 y12)) y1 y2 y3 y4 y5 y6 y7 y8 y9 y10 y11 y12 := by kernel_rfl
theorem lq24_6 (K : Nat) : ∀ (k : Nat) (y1 : ByteArray) (y2 : LA) (y3 : Int) (y4 : Int) (y5 : ByteArray) (y6 : Int) (y7 : Int) (y8 : Int) (y9 : ByteArray) (y10 : Int) (y11 : Int) (y12 : Int), mlp 24 Tryd.f24 K 6 (fun i_ => fun _ => none) k (fr24_6 y1 y2 y3 y4 y5 y6 y7 y8 y9 y10 y11 y12) = lp24_6 K k y1 y2 y3 y4 y5 y6 y7 y8 y9 y10 y11 y12
  | 0, _, _, _, _, _, _, _, _, _, _, _, _ => rfl
  | k + 1, y1, y2, y3, y4, y5, y6, y7, y8, y9, y10, y11, y12 => by
    rw [st24_6]
    have ih := lq24_6 K k
    try simp only [ih]
    try rfl
theorem eq24 (K : Nat) (a0 : ByteArray) : run tab (K + 1) 24 [St a0] = sh24 K a0 := by
  have h : run tab (K + 1) 24 [St a0] = tr24 K (fun y1 y2 y3 y4 y5 y6 y7 y8 y9 y10 y11 y12 => mlp 24 Tryd.f24 K 6 (fun i_ => fun _ => none) K (fr24_6 y1 y2 y3 y4 y5 y6 y7 y8 y9 y10 y11 y12)) a0 := by kernel_rfl
  rw [h]
  simp only [lq24_6]
  rfl

def tr26 (K : Nat) (a0_0 : ByteArray) (a0_1 : Int) (a0_2 : Int) (a0_3 : Int) : OA :=
  match run tab K 35 [St a0_0] with | some r85 => (castB r85 fun b86 => match (!b86) with | true => (some (I 7)) | false => (match decide (a0_1 < (0 : Int)) with | true => (some (I 3)) | false => (match decide (a0_1 > (1099511627775 : Int)) with | true => (match decide (a0_1 > (1099511627775 : Int)) with | true => (some (I 3)) | false => (some (I 0))) | false => (match decide (a0_2 < (0 : Int)) with | true => (some (I 3)) | false => (match decide (a0_2 ≥ (5 : Int)) with | true => (match decide (a0_2 ≥ (5 : Int)) with | true => (some (I 3)) | false => (some (I 0))) | false => (match decide (a0_3 < (0 : Int)) with | true => (some (I 3)) | false => (match decide (a0_3 > (200 : Int)) with | true => (some (I 3)) | false => (some (I 0))))))))) | none => none
def sh26 (K : Nat) (a0_0 : ByteArray) (a0_1 : Int) (a0_2 : Int) (a0_3 : Int) : OA := tr26 K a0_0 a0_1 a0_2 a0_3
theorem eq26 (K : Nat) (a0_0 : ByteArray) (a0_1 : Int) (a0_2 : Int) (a0_3 : Int) : run tab (K + 1) 26 [.agg [St a0_0, I a0_1, I a0_2, I a0_3]] = sh26 K a0_0 a0_1 a0_2 a0_3 := by kernel_rfl

def tr27 (K : Nat) (a0 : LA) (a1 : AV) : OA :=
  match run tab K 36 [.sl 3 a0, a1] with | some r87 => (castI .i64 r87 fun n88 => some (B (decide (n88 ≥ (0 : Int))))) | none => none
def sh27 (K : Nat) (a0 : LA) (a1 : AV) : OA := tr27 K a0 a1
theorem eq27 (K : Nat) (a0 : LA) (a1 : AV) : run tab (K + 1) 27 [.sl 3 a0, a1] = sh27 K a0 a1 := by kernel_rfl

def tr28 (K : Nat) (a0 : Int) : OA :=
  match decide (a0 < (0 : Int)) with | true => (some (B true)) | false => (some (B (decide (a0 > (32 : Int)))))
def sh28 (K : Nat) (a0 : Int) : OA := tr28 K a0
theorem eq28 (K : Nat) (a0 : Int) : run tab (K + 1) 28 [I a0] = sh28 K a0 := by kernel_rfl

def tr30_4 (K : Nat) (q4 : ByteArray → Int → OA) (y1 : ByteArray) (y2 : Int) : OA :=
  match decide (y2 < (y1.size : Int)) with | true => (if 0 ≤ y2 then (match y1[y2.toNat]? with | some c97 => (match run tab K 38 [.sc (.int .u8 (c97.toNat : Int))] with | some r98 => (castB r98 fun b99 => match (!b99) with | true => (match run tab K 39 [.sc (.int .u8 (c97.toNat : Int))] with | some r100 => (castB r100 fun b101 => match (!b101) with | true => (match run tab K 40 [.sc (.int .u8 (c97.toNat : Int))] with | some r102 => (castB r102 fun b103 => match (!b103) with | true => (match ((c97.toNat : Int) != (95 : Int)) with | true => (match ((c97.toNat : Int) != (46 : Int)) with | true => (some (B false)) | false => (q4 y1 (IntKind.i64.wrap (y2 + 1)))) | false => (q4 y1 (IntKind.i64.wrap (y2 + 1)))) | false => (q4 y1 (IntKind.i64.wrap (y2 + 1)))) | none => none) | false => (q4 y1 (IntKind.i64.wrap (y2 + 1)))) | none => none) | false => (q4 y1 (IntKind.i64.wrap (y2 + 1)))) | none => none) | none => none) else none) | false => (some (B true))
def tr30 (K : Nat) (q4 : ByteArray → Int → OA) (a0 : ByteArray) : OA :=
  match run tab K 31 [I (a0.size : Int), I 1, I 20] with | some r89 => (castB r89 fun b90 => match (!b90) with | true => (some (B false)) | false => (if 0 ≤ (0 : Int) then (match a0[(0 : Int).toNat]? with | some c91 => (match run tab K 38 [.sc (.int .u8 (c91.toNat : Int))] with | some r92 => (castB r92 fun b93 => match (!b93) with | true => (if 0 ≤ (0 : Int) then (match a0[(0 : Int).toNat]? with | some c94 => (match run tab K 39 [.sc (.int .u8 (c94.toNat : Int))] with | some r95 => (castB r95 fun b96 => match (!b96) with | true => (some (B false)) | false => (q4 a0 (0 : Int))) | none => none) | none => none) else none) | false => (q4 a0 (0 : Int))) | none => none) | none => none) else none)) | none => none
def lp30_4 (K : Nat) : Nat → ByteArray → Int → OA
  | 0, _, _ => none
  | k + 1, y1, y2 => tr30_4 K (lp30_4 K k) y1 y2
def sh30 (K : Nat) (a0 : ByteArray) : OA := tr30 K (lp30_4 K K) a0
def fr30_4 (y1 : ByteArray) (y2 : Int) : Fr := { slots := (St y1, .uni .ro) :: gap 2 ((I y2, .uni .ro) :: gap 47 []), boxes := [] }
theorem st30_4 (K : Nat) (k : Nat) (y1 : ByteArray) (y2 : Int) : mlp 30 Tryd.f30 K 4 (fun i_ => fun _ => none) (k + 1) (fr30_4 y1 y2) = tr30_4 K (fun y1 y2 => mlp 30 Tryd.f30 K 4 (fun i_ => fun _ => none) k (fr30_4 y1 y2)) y1 y2 := by kernel_rfl
theorem lq30_4 (K : Nat) : ∀ (k : Nat) (y1 : ByteArray) (y2 : Int), mlp 30 Tryd.f30 K 4 (fun i_ => fun _ => none) k (fr30_4 y1 y2) = lp30_4 K k y1 y2
  | 0, _, _ => rfl
  | k + 1, y1, y2 => by
    rw [st30_4]
    have ih := lq30_4 K k
    try simp only [ih]
    try rfl
theorem eq30 (K : Nat) (a0 : ByteArray) : run tab (K + 1) 30 [St a0] = sh30 K a0 := by
  have h : run tab (K + 1) 30 [St a0] = tr30 K (fun y1 y2 => mlp 30 Tryd.f30 K 4 (fun i_ => fun _ => none) K (fr30_4 y1 y2)) a0 := by kernel_rfl
  rw [h]
  simp only [lq30_4]
  rfl

def tr31 (K : Nat) (a0 : Int) (a1 : Int) (a2 : Int) : OA :=
  match decide (a1 ≤ a0) with | true => (some (B (decide (a0 ≤ a2)))) | false => (some (B false))
def sh31 (K : Nat) (a0 : Int) (a1 : Int) (a2 : Int) : OA := tr31 K a0 a1 a2
theorem eq31 (K : Nat) (a0 : Int) (a1 : Int) (a2 : Int) : run tab (K + 1) 31 [I a0, I a1, I a2] = sh31 K a0 a1 a2 := by kernel_rfl

def tr32 (K : Nat) (a0 : ByteArray) : OA :=
  if 0 ≤ (0 : Int) then (match a0[(0 : Int).toNat]? with | some c104 => (match ((c104.toNat : Int) != (165 : Int)) with | true => (some (.tup [St (⟨#[]⟩ : ByteArray), St (⟨#[]⟩ : ByteArray), B false])) | false => (if 0 ≤ (1 : Int) then (match a0[(1 : Int).toNat]? with | some c105 => (match decide ((IntKind.i64.wrap (c105.toNat : Int)) > (IntKind.i64.wrap ((a0.size : Int) - 2))) with | true => (some (.tup [St (⟨#[]⟩ : ByteArray), St (⟨#[]⟩ : ByteArray), B false])) | false => (if 0 ≤ (2 : Int) ∧ (2 : Int) ≤ (IntKind.i64.wrap (2 + (IntKind.i64.wrap (c105.toNat : Int)))) ∧ (IntKind.i64.wrap (2 + (IntKind.i64.wrap (c105.toNat : Int)))) ≤ a0.size then (if 0 ≤ (IntKind.i64.wrap (2 + (IntKind.i64.wrap (c105.toNat : Int)))) ∧ (IntKind.i64.wrap (2 + (IntKind.i64.wrap (c105.toNat : Int)))) ≤ (a0.size : Int) ∧ (a0.size : Int) ≤ a0.size then (some (.tup [St (a0.extract (2 : Int).toNat (IntKind.i64.wrap (2 + (IntKind.i64.wrap (c105.toNat : Int)))).toNat), St (a0.extract (IntKind.i64.wrap (2 + (IntKind.i64.wrap (c105.toNat : Int)))).toNat (a0.size : Int).toNat), B true])) else none) else none)) | none => none) else none)) | none => none) else none
def sh32 (K : Nat) (a0 : ByteArray) : OA := tr32 K a0
theorem eq32 (K : Nat) (a0 : ByteArray) : run tab (K + 1) 32 [St a0] = sh32 K a0 := by kernel_rfl

def tr35_4 (K : Nat) (q4 : LA → Int → Int → OA) (y1 : LA) (y2 : Int) (y3 : Int) : OA :=
  match decide (y3 < y2) with | true => (if 0 ≤ y3 then (match y1[y3.toNat]? with | some x106 => (castI .u8 x106 fun n107 => match decide ((97 : Int) ≤ n107) with | true => (match decide (n107 ≤ (122 : Int)) with | true => (q4 y1 y2 (IntKind.i64.wrap (y3 + 1))) | false => (match decide ((65 : Int) ≤ n107) with | true => (match (!(decide (n107 ≤ (90 : Int)))) with | true => (match (y3 == (0 : Int)) with | true => (some (B false)) | false => (match (n107 != (95 : Int)) with | true => (match (n107 != (46 : Int)) with | true => (match decide (n107 < (48 : Int)) with | true => (some (B false)) | false => (match decide (n107 > (57 : Int)) with | true => (some (B false)) | false => (q4 y1 y2 (IntKind.i64.wrap (y3 + 1))))) | false => (q4 y1 y2 (IntKind.i64.wrap (y3 + 1)))) | false => (q4 y1 y2 (IntKind.i64.wrap (y3 + 1))))) | false => (q4 y1 y2 (IntKind.i64.wrap (y3 + 1)))) | false => (match (y3 == (0 : Int)) with | true => (some (B false)) | false => (match (n107 != (95 : Int)) with | true => (match (n107 != (46 : Int)) with | true => (match decide (n107 < (48 : Int)) with | true => (some (B false)) | false => (match decide (n107 > (57 : Int)) with | true => (some (B false)) | false => (q4 y1 y2 (IntKind.i64.wrap (y3 + 1))))) | false => (q4 y1 y2 (IntKind.i64.wrap (y3 + 1)))) | false => (q4 y1 y2 (IntKind.i64.wrap (y3 + 1))))))) | false => (match decide ((65 : Int) ≤ n107) with | true => (match (!(decide (n107 ≤ (90 : Int)))) with | true => (match (y3 == (0 : Int)) with | true => (some (B false)) | false => (match (n107 != (95 : Int)) with | true => (match (n107 != (46 : Int)) with | true => (match decide (n107 < (48 : Int)) with | true => (some (B false)) | false => (match decide (n107 > (57 : Int)) with | true => (some (B false)) | false => (q4 y1 y2 (IntKind.i64.wrap (y3 + 1))))) | false => (q4 y1 y2 (IntKind.i64.wrap (y3 + 1)))) | false => (q4 y1 y2 (IntKind.i64.wrap (y3 + 1))))) | false => (q4 y1 y2 (IntKind.i64.wrap (y3 + 1)))) | false => (match (y3 == (0 : Int)) with | true => (some (B false)) | false => (match (n107 != (95 : Int)) with | true => (match (n107 != (46 : Int)) with | true => (match decide (n107 < (48 : Int)) with | true => (some (B false)) | false => (match decide (n107 > (57 : Int)) with | true => (some (B false)) | false => (q4 y1 y2 (IntKind.i64.wrap (y3 + 1))))) | false => (q4 y1 y2 (IntKind.i64.wrap (y3 + 1)))) | false => (q4 y1 y2 (IntKind.i64.wrap (y3 + 1))))))) | none => none) else none) | false => (some (B true))
def tr35 (K : Nat) (q4 : LA → Int → Int → OA) (a0 : ByteArray) : OA :=
  match decide ((a0.size : Int) < (1 : Int)) with | true => (some (B false)) | false => (match decide ((a0.size : Int) > (20 : Int)) with | true => (some (B false)) | false => (match Nat.ble a0.size 9223372036854775807 with | true => (q4 (a0.data.toList.map fun c => AV.sc (.int .u8 (c.toNat : Int))) ((a0.data.toList.map fun c => AV.sc (.int .u8 (c.toNat : Int))).length : Int) (0 : Int)) | false => none))
def lp35_4 (K : Nat) : Nat → LA → Int → Int → OA
  | 0, _, _, _ => none
  | k + 1, y1, y2, y3 => tr35_4 K (lp35_4 K k) y1 y2 y3
def sh35 (K : Nat) (a0 : ByteArray) : OA := tr35 K (lp35_4 K K) a0
def fr35_4 (y1 : LA) (y2 : Int) (y3 : Int) : Fr := { slots := gap 15 ((.sl 5 y1, .uni .own) :: (I y2, .uni .ro) :: (I y3, .uni .ro) :: gap 41 []), boxes := [] }
theorem st35_4 (K : Nat) (k : Nat) (y1 : LA) (y2 : Int) (y3 : Int) : mlp 35 Tryd.f35 K 4 (fun i_ => fun _ => none) (k + 1) (fr35_4 y1 y2 y3) = tr35_4 K (fun y1 y2 y3 => mlp 35 Tryd.f35 K 4 (fun i_ => fun _ => none) k (fr35_4 y1 y2 y3)) y1 y2 y3 := by kernel_rfl
theorem lq35_4 (K : Nat) : ∀ (k : Nat) (y1 : LA) (y2 : Int) (y3 : Int), mlp 35 Tryd.f35 K 4 (fun i_ => fun _ => none) k (fr35_4 y1 y2 y3) = lp35_4 K k y1 y2 y3
  | 0, _, _, _ => rfl
  | k + 1, y1, y2, y3 => by
    rw [st35_4]
    have ih := lq35_4 K k
    try simp only [ih]
    try rfl
theorem eq35 (K : Nat) (a0 : ByteArray) : run tab (K + 1) 35 [St a0] = sh35 K a0 := by
  have h : run tab (K + 1) 35 [St a0] = tr35 K (fun y1 y2 y3 => mlp 35 Tryd.f35 K 4 (fun i_ => fun _ => none) K (fr35_4 y1 y2 y3)) a0 := by kernel_rfl
  rw [h]
  simp only [lq35_4]
  rfl

def tr36_2 (K : Nat) (q2 : LA → AV → Int → Int → OA) (y1 : LA) (y2 : AV) (y3 : Int) (y4 : Int) : OA :=
  match decide (y4 < y3) with | true => (if 0 ≤ y4 then (match y1[y4.toNat]? with | some x108 => (castI .i64 x108 fun n109 => castFn y2 fun g110 c111 => match run tab K g110 ([I n109] ++ c111) with | some r112 => (castB r112 fun b113 => match b113 with | true => (some (I y4)) | false => (q2 y1 y2 y3 (IntKind.i64.wrap (y4 + 1)))) | none => none) | none => none) else none) | false => (some (I (-1)))
def tr36 (K : Nat) (q2 : LA → AV → Int → Int → OA) (a0 : LA) (a1 : AV) : OA :=
  q2 a0 a1 (a0.length : Int) (0 : Int)
def lp36_2 (K : Nat) : Nat → LA → AV → Int → Int → OA
  | 0, _, _, _, _ => none
  | k + 1, y1, y2, y3, y4 => tr36_2 K (lp36_2 K k) y1 y2 y3 y4
def sh36 (K : Nat) (a0 : LA) (a1 : AV) : OA := tr36 K (lp36_2 K K) a0 a1
def fr36_2 (y1 : LA) (y2 : AV) (y3 : Int) (y4 : Int) : Fr := { slots := (.sl 3 y1, .uni .lent) :: (y2, .uni .lent) :: gap 5 ((I y3, .uni .ro) :: (I y4, .uni .ro) :: gap 10 []), boxes := [] }
theorem st36_2 (K : Nat) (k : Nat) (y1 : LA) (y2 : AV) (y3 : Int) (y4 : Int) : mlp 36 Tryd.f36 K 2 (fun i_ => fun _ => none) (k + 1) (fr36_2 y1 y2 y3 y4) = tr36_2 K (fun y1 y2 y3 y4 => mlp 36 Tryd.f36 K 2 (fun i_ => fun _ => none) k (fr36_2 y1 y2 y3 y4)) y1 y2 y3 y4 := by kernel_rfl
theorem lq36_2 (K : Nat) : ∀ (k : Nat) (y1 : LA) (y2 : AV) (y3 : Int) (y4 : Int), mlp 36 Tryd.f36 K 2 (fun i_ => fun _ => none) k (fr36_2 y1 y2 y3 y4) = lp36_2 K k y1 y2 y3 y4
  | 0, _, _, _, _ => rfl
  | k + 1, y1, y2, y3, y4 => by
    rw [st36_2]
    have ih := lq36_2 K k
    try simp only [ih]
    try rfl
theorem eq36 (K : Nat) (a0 : LA) (a1 : AV) : run tab (K + 1) 36 [.sl 3 a0, a1] = sh36 K a0 a1 := by
  have h : run tab (K + 1) 36 [.sl 3 a0, a1] = tr36 K (fun y1 y2 y3 y4 => mlp 36 Tryd.f36 K 2 (fun i_ => fun _ => none) K (fr36_2 y1 y2 y3 y4)) a0 a1 := by kernel_rfl
  rw [h]
  simp only [lq36_2]
  rfl

def tr38 (K : Nat) (a0 : Int) : OA :=
  match decide (a0 ≥ (97 : Int)) with | true => (some (B (decide (a0 ≤ (122 : Int))))) | false => (some (B false))
def sh38 (K : Nat) (a0 : Int) : OA := tr38 K a0
theorem eq38 (K : Nat) (a0 : Int) : run tab (K + 1) 38 [.sc (.int .u8 a0)] = sh38 K a0 := by kernel_rfl

def tr39 (K : Nat) (a0 : Int) : OA :=
  match decide (a0 ≥ (65 : Int)) with | true => (some (B (decide (a0 ≤ (90 : Int))))) | false => (some (B false))
def sh39 (K : Nat) (a0 : Int) : OA := tr39 K a0
theorem eq39 (K : Nat) (a0 : Int) : run tab (K + 1) 39 [.sc (.int .u8 a0)] = sh39 K a0 := by kernel_rfl

def tr40 (K : Nat) (a0 : Int) : OA :=
  match decide (a0 ≥ (48 : Int)) with | true => (some (B (decide (a0 ≤ (57 : Int))))) | false => (some (B false))
def sh40 (K : Nat) (a0 : Int) : OA := tr40 K a0
theorem eq40 (K : Nat) (a0 : Int) : run tab (K + 1) 40 [.sc (.int .u8 a0)] = sh40 K a0 := by kernel_rfl

def tr41_1 (K : Nat) (q1 : ByteArray → Int → OA) (y1 : ByteArray) (y2 : Int) : OA :=
  match decide ((y1.size : Int) > (0 : Int)) with | true => (if 0 ≤ (0 : Int) then (match y1[(0 : Int).toNat]? with | some c114 => (match ((c114.toNat : Int) == y2) with | true => (if 0 ≤ (1 : Int) ∧ (1 : Int) ≤ (y1.size : Int) ∧ (y1.size : Int) ≤ y1.size then (q1 (y1.extract (1 : Int).toNat (y1.size : Int).toNat) y2) else none) | false => (some (St y1))) | none => none) else none) | false => (some (St y1))
def tr41 (K : Nat) (q1 : ByteArray → Int → OA) (a0 : ByteArray) (a1 : Int) : OA :=
  q1 a0 a1
def lp41_1 (K : Nat) : Nat → ByteArray → Int → OA
  | 0, _, _ => none
  | k + 1, y1, y2 => tr41_1 K (lp41_1 K k) y1 y2
def sh41 (K : Nat) (a0 : ByteArray) (a1 : Int) : OA := tr41 K (lp41_1 K K) a0 a1
def fr41_1 (y1 : ByteArray) (y2 : Int) : Fr := { slots := (St y1, .uni .ro) :: (.sc (.int .u8 y2), .uni .ro) :: gap 15 [], boxes := [] }
theorem st41_1 (K : Nat) (k : Nat) (y1 : ByteArray) (y2 : Int) : mlp 41 Tryd.f41 K 1 (fun i_ => fun _ => none) (k + 1) (fr41_1 y1 y2) = tr41_1 K (fun y1 y2 => mlp 41 Tryd.f41 K 1 (fun i_ => fun _ => none) k (fr41_1 y1 y2)) y1 y2 := by kernel_rfl
theorem lq41_1 (K : Nat) : ∀ (k : Nat) (y1 : ByteArray) (y2 : Int), mlp 41 Tryd.f41 K 1 (fun i_ => fun _ => none) k (fr41_1 y1 y2) = lp41_1 K k y1 y2
  | 0, _, _ => rfl
  | k + 1, y1, y2 => by
    rw [st41_1]
    have ih := lq41_1 K k
    try simp only [ih]
    try rfl
theorem eq41 (K : Nat) (a0 : ByteArray) (a1 : Int) : run tab (K + 1) 41 [St a0, .sc (.int .u8 a1)] = sh41 K a0 a1 := by
  have h : run tab (K + 1) 41 [St a0, .sc (.int .u8 a1)] = tr41 K (fun y1 y2 => mlp 41 Tryd.f41 K 1 (fun i_ => fun _ => none) K (fr41_1 y1 y2)) a0 a1 := by kernel_rfl
  rw [h]
  simp only [lq41_1]
  rfl

def tr42_1 (K : Nat) (q1 : ByteArray → Int → OA) (y1 : ByteArray) (y2 : Int) : OA :=
  match decide ((y1.size : Int) > (0 : Int)) with | true => (if 0 ≤ (IntKind.i64.wrap ((y1.size : Int) - 1)) then (match y1[(IntKind.i64.wrap ((y1.size : Int) - 1)).toNat]? with | some c115 => (match ((c115.toNat : Int) == y2) with | true => (if 0 ≤ (0 : Int) ∧ (0 : Int) ≤ (IntKind.i64.wrap ((y1.size : Int) - 1)) ∧ (IntKind.i64.wrap ((y1.size : Int) - 1)) ≤ y1.size then (q1 (y1.extract (0 : Int).toNat (IntKind.i64.wrap ((y1.size : Int) - 1)).toNat) y2) else none) | false => (some (St y1))) | none => none) else none) | false => (some (St y1))
def tr42 (K : Nat) (q1 : ByteArray → Int → OA) (a0 : ByteArray) (a1 : Int) : OA :=
  q1 a0 a1
def lp42_1 (K : Nat) : Nat → ByteArray → Int → OA
  | 0, _, _ => none
  | k + 1, y1, y2 => tr42_1 K (lp42_1 K k) y1 y2
def sh42 (K : Nat) (a0 : ByteArray) (a1 : Int) : OA := tr42 K (lp42_1 K K) a0 a1
def fr42_1 (y1 : ByteArray) (y2 : Int) : Fr := { slots := (St y1, .uni .ro) :: (.sc (.int .u8 y2), .uni .ro) :: gap 21 [], boxes := [] }
theorem st42_1 (K : Nat) (k : Nat) (y1 : ByteArray) (y2 : Int) : mlp 42 Tryd.f42 K 1 (fun i_ => fun _ => none) (k + 1) (fr42_1 y1 y2) = tr42_1 K (fun y1 y2 => mlp 42 Tryd.f42 K 1 (fun i_ => fun _ => none) k (fr42_1 y1 y2)) y1 y2 := by kernel_rfl
theorem lq42_1 (K : Nat) : ∀ (k : Nat) (y1 : ByteArray) (y2 : Int), mlp 42 Tryd.f42 K 1 (fun i_ => fun _ => none) k (fr42_1 y1 y2) = lp42_1 K k y1 y2
  | 0, _, _ => rfl
  | k + 1, y1, y2 => by
    rw [st42_1]
    have ih := lq42_1 K k
    try simp only [ih]
    try rfl
theorem eq42 (K : Nat) (a0 : ByteArray) (a1 : Int) : run tab (K + 1) 42 [St a0, .sc (.int .u8 a1)] = sh42 K a0 a1 := by
  have h : run tab (K + 1) 42 [St a0, .sc (.int .u8 a1)] = tr42 K (fun y1 y2 => mlp 42 Tryd.f42 K 1 (fun i_ => fun _ => none) K (fr42_1 y1 y2)) a0 a1 := by kernel_rfl
  rw [h]
  simp only [lq42_1]
  rfl

end
end Go.Proofs.YtdehjednpdbhaaaDoor
