/- A part of an interpreter of the model's code that is proved sound, and of laws told by it: DamX23. -/
import Derived.Test.YtdhbhedfbdckaaaGreatDoorPuG1
set_option linter.unusedVariables false
set_option linter.unusedSimpArgs false
/- The chapter is awake; the laws of tokens, comments and right tokens. -/
namespace Go.Proofs.YtdhbhedfbdckaaaGreatDoor
open Go.Dam
set_option linter.unusedVariables false
set_option linter.unusedSimpArgs false
theorem kb : KB = 1000000 := rfl
theorem r13 {K : Nat} (h : 1 ≤ K) (l : List UInt8) : run tab K 13 [St (sb l)] = some (B (decide (l.length ≤ 400) || (decide (8000 < l.length) && decide (l.length < 8050)))) := by
  obtain ⟨K, rfl⟩ := succK h
  rw [eq13]; unfold sh13 tr13
  rw [sb_size]
  have e1 : decide ((l.length : Int) ≤ 400) = decide (l.length ≤ 400) := by rw [Bool.eq_iff_iff, decide_eq_true_iff, decide_eq_true_iff]; omega
  have e2 : decide ((l.length : Int) > 8000) = decide (8000 < l.length) := by rw [Bool.eq_iff_iff, decide_eq_true_iff, decide_eq_true_iff]; omega
  have e3 : decide ((l.length : Int) < 8050) = decide (l.length < 8050) := by rw [Bool.eq_iff_iff, decide_eq_true_iff, decide_eq_true_iff]; omega
  rw [e1, e2, e3]
  cases decide (l.length ≤ 400) <;> cases decide (8000 < l.length) <;> rfl
theorem short_le {l : List UInt8} (h : (decide (l.length ≤ 400) || (decide (8000 < l.length) && decide (l.length < 8050))) = true) : l.length ≤ 8050 := by
  rw [Bool.or_eq_true, Bool.and_eq_true, decide_eq_true_iff, decide_eq_true_iff, decide_eq_true_iff] at h
  omega
def exL : List UInt8 := [84, 32, 58, 58, 61, 32, 73, 78, 84, 69, 71, 69, 82, 32, 40, 48, 46, 46, 55, 41, 32, 45, 45, 32, 115, 109, 97, 108, 108]
def rdLen : Rd → Option (Nat × Nat)
  | .bad _ _ => none
  | .ok ts cs => some (ts.length, cs.length)
theorem ex36 : run tab KB 36 [] = some (St (sb exL)) := by kernel_rfl
theorem exL_len : exL.length ≤ 99999 ∧ exL.length + 1400 ≤ KB := by
  rw [kb, show exL.length = 29 from rfl]
  omega
theorem exRd : rdLen (rdT 0 exL) = some (8, 1) := by kernel_rfl
theorem exJoin : joinT 0 [⟨0, [97], 0⟩, ⟨6, [46], 0⟩, ⟨0, [98], 0⟩] = ([97, 46, 98], 0) := by kernel_rfl
theorem run22 (K : Nat) (lang : Int) (ts : List Tk) (hs : smallT ts = true) : run tab2 (K + 1) 22 [I lang, .sl 35 (ts.map tkA)] = some (.tup [St (sb (joinT lang ts).1), I (joinT lang ts).2]) := by
  have h : tab2.ext 22 = some extJoin := rfl
  have e : run tab2 (K + 1) 22 [I lang, .sl 35 (ts.map tkA)] = extJoin [I lang, .sl 35 (ts.map tkA)] := by
    conv => lhs; unfold run
    rw [h]
  rw [e]
  show (match tksOf (ts.map tkA) with
    | some ts => if smallT ts then some (AV.tup [.sc (.string (sb (joinT lang ts).1)), .sc (.int .i64 (joinT lang ts).2)]) else none
    | none => none) = _
  rw [tksOf_map]
  simp only []
  rw [if_pos hs]
theorem aw36 (K : Nat) : run tab2 (K + 1) 36 [] = some (St (sb exL)) := (run2 K 36 [] rfl).trans ex36
def awF (o36 : OA) (f14 f17 : ByteArray → OA) (o22 : OA) : OA :=
  match o36 with | some r135 => (castS r135 fun s136 => match f14 s136 with | some r137 => (castL 35 (compN r137 0) fun l138 => castI .i64 (compN r137 1) fun n139 => castI .i64 (compN r137 2) fun n140 => match o36 with | some r141 => (castS r141 fun s142 => match f17 s142 with | some r143 => (castL 40 (compN r143 0) fun l144 => castI .i64 (compN r143 1) fun n145 => castI .i64 (compN r143 2) fun n146 => match o22 with | some r147 => (castS (compN r147 0) fun s148 => castI .i64 (compN r147 1) fun n149 => match (n140 == (0 : Int)) with | true => (match ((l138.length : Int) == (8 : Int)) with | true => (match (n146 == (0 : Int)) with | true => (match ((l144.length : Int) == (1 : Int)) with | true => (match (n149 == (0 : Int)) with | true => (some (B (s148 == (⟨#[97, 46, 98]⟩ : ByteArray)))) | false => (some (B false))) | false => (some (B false))) | false => (some (B false))) | false => (some (B false))) | false => (some (B false))) | none => none) | none => none) | none => none) | none => none) | none => none
theorem awF_ok {o36 : OA} {f14 f17 : ByteArray → OA} {o22 : OA} {ex s3 : ByteArray} {l m : LA} (h36 : o36 = some (St ex)) (h14 : f14 ex = some (.tup [.sl 35 l, I 0, I 0])) (h17 : f17 ex = some (.tup [.sl 40 m, I 0, I 0])) (h22 : o22 = some (.tup [St s3, I 0])) (hl : l.length = 8) (hm : m.length = 1) (hs : (s3 == (⟨#[97, 46, 98]⟩ : ByteArray)) = true) : awF o36 f14 f17 o22 = some (B true) := by
  unfold awF
  subst h36 h22
  simp only [castS_S, h14, h17, compN, List.getD_cons_zero, List.getD_cons_succ, castL_L, castI_I, hl, hm, hs]
  rfl
theorem tr12_awF (K : Nat) : tr12 K = awF (run tab2 K 36 []) (fun s => run tab2 K 14 [I 0, St s]) (fun s => run tab2 K 17 [I 0, St s]) (run tab2 K 22 [I 0, .sl 35 [.agg [I 0, St (⟨#[97]⟩ : ByteArray), I 0], .agg [I 6, St (⟨#[46]⟩ : ByteArray), I 0], .agg [I 0, St (⟨#[98]⟩ : ByteArray), I 0]]]) := rfl
theorem awake2 {K : Nat} (h : 2 ≤ K) : run tab2 K 12 [] = some (B true) := by
  obtain ⟨K, rfl⟩ : ∃ k, K = k + 2 := ⟨K - 2, by omega⟩
  have e36 := aw36 K
  have e14 := run2 K 14 [I 0, St (sb exL)] rfl
  have e17 := run2 K 17 [I 0, St (sb exL)] rfl
  have e22 := run22 K 0 [⟨0, [97], 0⟩, ⟨6, [46], 0⟩, ⟨0, [98], 0⟩] rfl
  rw [exJoin] at e22
  rw [r14 0 exL exL_len.1 exL_len.2] at e14
  rw [r17 0 exL exL_len.1 exL_len.2] at e17
  have hrd := exRd
  generalize rdT 0 exL = d at e14 e17 hrd
  rw [show K + 2 = K + 1 + 1 from rfl]
  refine (eq12 (K + 1)).trans ?_
  unfold sh12
  rw [tr12_awF]
  cases d with
  | bad a e => cases hrd
  | ok ts cs =>
    have hrd : some (ts.length, cs.length) = some (8, 1) := hrd
    simp only [Option.some.injEq, Prod.mk.injEq] at hrd
    exact awF_ok e36 e14 e17 e22 (by rw [List.length_map]; exact hrd.1) (by rw [List.length_map]; exact hrd.2) (sb_refl _)
end Go.Proofs.YtdhbhedfbdckaaaGreatDoor
