/- A part of an interpreter of the model's code that is proved sound, and of laws told by it: DamM4. -/
import Derived.Test.YtahifpeggdcamaaDoorPpG1
set_option linter.unusedVariables false
set_option linter.unusedSimpArgs false
/- What holds of right models; configurations; the model's function NextOf. -/
namespace Go.Proofs.YtahifpeggdcamaaDoor
open Go.Dam
set_option linter.unusedVariables false
set_option linter.unusedSimpArgs false
theorem within_iff {n a b : Int} : within n a b = true ↔ a ≤ n ∧ n ≤ b := by
  unfold within; simp
theorem orI_zero : ∀ {l : List Int}, orI l = 0 → ∀ n ∈ l, n = 0
  | [], _, n, h => by simp at h
  | a :: l, h, n, hn => by
    unfold orI at h
    by_cases h0 : a = 0
    · rw [if_pos h0] at h
      rcases List.mem_cons.1 hn with rfl | hn
      · exact h0
      · exact orI_zero h n hn
    · rw [if_neg h0] at h; exact absurd h h0
theorem l31 (K : Nat) (x y : List Int) (hl : x.length = y.length) (hx : x.length ≤ 4611686018427387904) : ∀ (k i : Nat), x.length - i < k → lp31_4 K k (ints x) (ints y) (i : Int) = some (B (decide (x.drop i = y.drop i)))
  | 0, i, h => by omega
  | k + 1, i, h => by
    unfold lp31_4 tr31_4
    rw [ints_len]
    by_cases hi : i < x.length
    · have hj : i < y.length := by omega
      have e1 := List.drop_eq_getElem_cons hi
      have e2 := List.drop_eq_getElem_cons hj
      rw [show decide ((i : Int) < (x.length : Int)) = true by simpa using hi]
      simp only [if_pos (Int.natCast_nonneg i), ints_get hi, ints_get hj, castI_I]
      by_cases he : x[i] = y[i]
      · rw [show (x[i] != y[i]) = false by simpa using he]
        simp only []
        rw [wrapN (by omega), l31 K x y hl hx k (i + 1) (by omega)]
        refine congrArg (fun b => some (B b)) ?_
        rw [decide_eq_decide, e1, e2]
        simp only [List.cons.injEq, he, true_and]
      · rw [show (x[i] != y[i]) = true by simpa using he]
        refine congrArg (fun b => some (B b)) (Eq.symm (decide_eq_false ?_))
        rw [e1, e2]
        simp only [List.cons.injEq, he, false_and, not_false_eq_true]
    · rw [show decide ((i : Int) < (x.length : Int)) = false by simpa using hi, List.drop_eq_nil_of_le (by omega), List.drop_eq_nil_of_le (by omega)]
      simp
theorem r31 {K : Nat} (x y : List Int) (hx : x.length ≤ 4611686018427387904) (hy : y.length ≤ 4611686018427387904) (hK : x.length + 2 ≤ K) : run tab K 31 [.sl 3 (ints x), .sl 3 (ints y)] = some (B (decide (x = y))) := by
  obtain ⟨K, rfl⟩ := succK (show 1 ≤ K by omega)
  rw [eq31]; unfold sh31 tr31
  rw [ints_len, ints_len]
  by_cases hl : x.length = y.length
  · rw [show ((x.length : Int) != (y.length : Int)) = false by rw [hl]; simp]
    exact l31 K x y hl hx K 0 (by omega)
  · rw [show ((x.length : Int) != (y.length : Int)) = true by simp; omega]
    simp only []
    rw [show decide (x = y) = false by simp; intro he; exact hl (by rw [he])]

theorem comp20 (a b : AV) : compN (.tup [a, b]) 0 = a := rfl
theorem comp21 (a b : AV) : compN (.tup [a, b]) 1 = b := rfl
theorem comp30 (a b c : AV) : compN (.tup [a, b, c]) 0 = a := rfl
theorem comp31 (a b c : AV) : compN (.tup [a, b, c]) 1 = b := rfl
theorem comp32 (a b c : AV) : compN (.tup [a, b, c]) 2 = c := rfl
end Go.Proofs.YtahifpeggdcamaaDoor
