/- A part of an interpreter of the model's code that is proved sound, and of laws told by it: DamM1, DamM2, DamM3, DamM4, DamM5, DamM6, DamM7, DamM8. -/
import Derived.Test.YtahifpeggdcamaaGreatDoorPrE3
set_option linter.unusedVariables false
set_option linter.unusedSimpArgs false
/- Operands' values, tests, moves: plain specifications; what the model's and the reference's functions tell. -/
namespace Go.Proofs.YtahifpeggdcamaaGreatDoor
open Go.Dam
set_option linter.unusedVariables false
set_option linter.unusedSimpArgs false
end Go.Proofs.YtahifpeggdcamaaGreatDoor

/- What a move does: the model's function and the reference's. -/
namespace Go.Proofs.YtahifpeggdcamaaGreatDoor
open Go.Dam
set_option linter.unusedVariables false
set_option linter.unusedSimpArgs false
end Go.Proofs.YtahifpeggdcamaaGreatDoor

/- What comes of a signal: the model's function and the reference's. -/
namespace Go.Proofs.YtahifpeggdcamaaGreatDoor
open Go.Dam
set_option linter.unusedVariables false
set_option linter.unusedSimpArgs false
end Go.Proofs.YtahifpeggdcamaaGreatDoor

/- What holds of right models; configurations; the model's function NextOf. -/
namespace Go.Proofs.YtahifpeggdcamaaGreatDoor
open Go.Dam
set_option linter.unusedVariables false
set_option linter.unusedSimpArgs false
theorem within_iff {n a b : Int} : within n a b = true ↔ a ≤ n ∧ n ≤ b := by
  unfold within; simp
end Go.Proofs.YtahifpeggdcamaaGreatDoor

/- Words; first configurations; runs. -/
namespace Go.Proofs.YtahifpeggdcamaaGreatDoor
open Go.Dam
set_option linter.unusedVariables false
set_option linter.unusedSimpArgs false
end Go.Proofs.YtahifpeggdcamaaGreatDoor

/- A model unfolded: the model's function and the reference's. -/
namespace Go.Proofs.YtahifpeggdcamaaGreatDoor
open Go.Dam
set_option linter.unusedVariables false
set_option linter.unusedSimpArgs false
end Go.Proofs.YtahifpeggdcamaaGreatDoor

/- A model unfolded: the loops of both functions. -/
namespace Go.Proofs.YtahifpeggdcamaaGreatDoor
open Go.Dam
set_option linter.unusedVariables false
set_option linter.unusedSimpArgs false
end Go.Proofs.YtahifpeggdcamaaGreatDoor

/- The model's runs; machines and lists of lists compared; the laws ModelRuns and ModelUnfolds. -/
namespace Go.Proofs.YtahifpeggdcamaaGreatDoor
open Go.Dam
set_option linter.unusedVariables false
set_option linter.unusedSimpArgs false
def eqS4 (a b : St4) : Bool := (a.f == b.f) && ((a.i == b.i) && ((a.o == b.o) && ((a.t == b.t) && true)))
theorem eqS4_iff {a b : St4} : eqS4 a b = true ↔ a = b := by
  cases a; cases b
  simp [eqS4]
instance : DecidableEq St4 := fun a b => decidable_of_iff _ eqS4_iff
theorem eqS4_dec (a b : St4) : eqS4 a b = decide (a = b) := by
  by_cases h : a = b
  · rw [eqS4_iff.2 h, decide_eq_true h]
  · rw [decide_eq_false h]
    cases h2 : eqS4 a b with
    | true => exact absurd (eqS4_iff.1 h2) h
    | false => rfl
theorem l18 (K : Nat) (S N O T S' N' O' T' : Int) (x y : List St4) (hl : x.length = y.length) (hx : x.length ≤ 4611686018427387904) : ∀ (k i : Nat), x.length - i < k → lp21_4 K k (i : Int) S N O T (steps x) S' N' O' T' (steps y) = some (B (decide (x.drop i = y.drop i)))
  | 0, i, h => by omega
  | k + 1, i, h => by
    unfold lp21_4 tr21_4
    rw [steps_len]
    by_cases hi : i < x.length
    · have hj : i < y.length := by omega
      have e1 := List.drop_eq_getElem_cons hi
      have e2 := List.drop_eq_getElem_cons hj
      rw [show decide ((i : Int) < (x.length : Int)) = true by simpa using hi]
      simp only [if_pos (Int.natCast_nonneg i), steps_get hi, steps_get hj, eS0, eS1, eS2, eS3, castI_I]
      have e3 : ((x[i].f == y[i].f) && ((x[i].i == y[i].i) && ((x[i].o == y[i].o) && ((x[i].t == y[i].t) && true)))) = decide (x[i] = y[i]) := eqS4_dec x[i] y[i]
      rw [e3]
      by_cases he : x[i] = y[i]
      · rw [decide_eq_true he]
        simp only [Bool.not_true]
        rw [wrapN (by omega), l18 K S N O T S' N' O' T' x y hl hx k (i + 1) (by omega)]
        refine congrArg (fun b => some (B b)) ?_
        rw [decide_eq_decide, e1, e2]
        simp only [List.cons.injEq, he, true_and]
      · rw [decide_eq_false he]
        simp only [Bool.not_false]
        refine congrArg (fun b => some (B b)) (Eq.symm (decide_eq_false ?_))
        rw [e1, e2]
        simp only [List.cons.injEq, he, false_and, not_false_eq_true]
    · rw [show decide ((i : Int) < (x.length : Int)) = false by simpa using hi, List.drop_eq_nil_of_le (by omega), List.drop_eq_nil_of_le (by omega)]
      simp
theorem r18 {K : Nat} (S N O T S' N' O' T' : Int) (x y : List St4) (hx : x.length ≤ 4611686018427387904) (hK : x.length + 2 ≤ K) : run tab K 21 [eM S N O T x, eM S' N' O' T' y] = some (B (decide (S = S' ∧ N = N' ∧ O = O' ∧ T = T' ∧ x = y))) := by
  obtain ⟨K, rfl⟩ := succK (show 1 ≤ K by omega)
  unfold eM
  rw [eq21]; unfold sh21 tr21
  have hno : ∀ P : Prop, [Decidable P] → ¬ P → some (B false) = some (B (decide P)) := fun P _ h => by rw [decide_eq_false h]
  by_cases h1 : S = S'
  · rw [show (S != S') = false by simpa using h1]
    by_cases h2 : N = N'
    · rw [show (N != N') = false by simpa using h2]
      by_cases h3 : O = O'
      · rw [show (O != O') = false by simpa using h3]
        by_cases h4 : T = T'
        · rw [show (T != T') = false by simpa using h4, steps_len, steps_len]
          by_cases h5 : x.length = y.length
          · rw [show ((x.length : Int) != (y.length : Int)) = false by rw [h5]; simp]
            simp only []
            refine (l18 K S N O T S' N' O' T' x y h5 hx K 0 (by omega)).trans ?_
            simp only [List.drop_zero, h1, h2, h3, h4, true_and]
          · rw [show ((x.length : Int) != (y.length : Int)) = true by simp; omega]
            exact hno _ fun h => h5 (by rw [h.2.2.2.2])
        · rw [show (T != T') = true by simpa using h4]
          exact hno _ fun h => h4 h.2.2.2.1
      · rw [show (O != O') = true by simpa using h3]
        exact hno _ fun h => h3 h.2.2.1
    · rw [show (N != N') = true by simpa using h2]
      exact hno _ fun h => h2 h.2.1
  · rw [show (S != S') = true by simpa using h1]
    exact hno _ fun h => h1 h.1
end Go.Proofs.YtahifpeggdcamaaGreatDoor
