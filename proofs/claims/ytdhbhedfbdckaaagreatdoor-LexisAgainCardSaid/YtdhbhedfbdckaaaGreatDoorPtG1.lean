/- A part of an interpreter of the model's code that is proved sound, and of laws told by it: DamG2. -/
import Derived.Test.YtdhbhedfbdckaaaGreatDoorPtF4
import Derived.KernelRfl
set_option linter.unusedVariables false
set_option linter.unusedSimpArgs false
namespace Go.Proofs.YtdhbhedfbdckaaaGreatDoor
open Go.Dam
set_option linter.unusedVariables false
set_option maxRecDepth 100000
noncomputable section
def tr3_10 (K : Nat) (q10 : LA → AV → Int → OA) (y1 : LA) (y2 : AV) (y3 : Int) : OA :=
  match decide (y3 < (y1.length : Int)) with | true => (if 0 ≤ y3 then (match y1[y3.toNat]? with | some x22 => (castI .i64 (cellN x22 2) fun n23 => castRef y2 fun p24 => castRef (.ref p24) fun p25 => castL 35 (p25.getD 0 .undef) fun l26 => if 0 ≤ y3 then (match l26[y3.toNat]? with | some x27 => (castI .i64 (cellN x27 2) fun n28 => match (n23 != n28) with | true => (some (B false)) | false => (q10 y1 y2 (IntKind.i64.wrap (y3 + 1)))) | none => none) else none) | none => none) else none) | false => (some (B true))
def tr7 (K : Nat) (a0 : Int) (a1 : LA) : OA :=
  match run tab2 K 12 [] with | some r77 => (castB r77 fun b78 => match (!b78) with | true => (some (B false)) | false => (match run tab2 K 21 [.sl 35 a1] with | some r79 => (castB r79 fun b80 => match (!b80) with | true => (some (B true)) | false => (match decide ((a1.length : Int) > (60 : Int)) with | true => (some (B true)) | false => (match run tab2 K 23 [.sl 35 a1] with | some r81 => (castL 35 r81 fun l82 => match run tab2 K 22 [I a0, .sl 35 l82] with | some r83 => (castS (compN r83 0) fun s84 => castI .i64 (compN r83 1) fun n85 => match (n85 != (0 : Int)) with | true => (some (B (s84 == (⟨#[]⟩ : ByteArray)))) | false => (match run tab2 K 14 [I a0, St s84] with | some r86 => (castL 35 (compN r86 0) fun l87 => castI .i64 (compN r86 1) fun n88 => castI .i64 (compN r86 2) fun n89 => match (n89 != (0 : Int)) with | true => (some (B false)) | false => (match run tab2 K 16 [.sl 35 a1, .sl 35 l87] with | some r90 => (castB r90 fun b91 => match (!b91) with | true => (some (B false)) | false => (match run tab2 K 22 [I a0, .sl 35 l87] with | some r92 => (castS (compN r92 0) fun s93 => castI .i64 (compN r92 1) fun n94 => match (n94 == (0 : Int)) with | true => (some (B (s93 == s84))) | false => (some (B false))) | none => none)) | none => none)) | none => none)) | none => none) | none => none))) | none => none)) | none => none
def sh7 (K : Nat) (a0 : Int) (a1 : LA) : OA := tr7 K a0 a1
theorem eq7 (K : Nat) (a0 : Int) (a1 : LA) : run tab2 (K + 1) 7 [I a0, .sl 35 a1] = sh7 K a0 a1 := by kernel_rfl

def tr12 (K : Nat) : OA :=
  match run tab2 K 36 [] with | some r135 => (castS r135 fun s136 => match run tab2 K 14 [I 0, St s136] with | some r137 => (castL 35 (compN r137 0) fun l138 => castI .i64 (compN r137 1) fun n139 => castI .i64 (compN r137 2) fun n140 => match run tab2 K 36 [] with | some r141 => (castS r141 fun s142 => match run tab2 K 17 [I 0, St s142] with | some r143 => (castL 40 (compN r143 0) fun l144 => castI .i64 (compN r143 1) fun n145 => castI .i64 (compN r143 2) fun n146 => match run tab2 K 22 [I 0, .sl 35 [.agg [I 0, St (⟨#[97]⟩ : ByteArray), I 0], .agg [I 6, St (⟨#[46]⟩ : ByteArray), I 0], .agg [I 0, St (⟨#[98]⟩ : ByteArray), I 0]]] with | some r147 => (castS (compN r147 0) fun s148 => castI .i64 (compN r147 1) fun n149 => match (n140 == (0 : Int)) with | true => (match ((l138.length : Int) == (8 : Int)) with | true => (match (n146 == (0 : Int)) with | true => (match ((l144.length : Int) == (1 : Int)) with | true => (match (n149 == (0 : Int)) with | true => (some (B (s148 == (⟨#[97, 46, 98]⟩ : ByteArray)))) | false => (some (B false))) | false => (some (B false))) | false => (some (B false))) | false => (some (B false))) | false => (some (B false))) | none => none) | none => none) | none => none) | none => none) | none => none
def sh12 (K : Nat) : OA := tr12 K 
theorem eq12 (K : Nat) : run tab2 (K + 1) 12 [] = sh12 K  := by kernel_rfl

end
end Go.Proofs.YtdhbhedfbdckaaaGreatDoor
