/- A part of an interpreter of the model's code that is proved sound, and of laws told by it: DamM5, DamM6. -/
import Derived.Test.YtahifpeggdcamaaDoorPpG4
set_option linter.unusedVariables false
set_option linter.unusedSimpArgs false
/- Words; first configurations; runs. -/
namespace Go.Proofs.YtahifpeggdcamaaDoor
open Go.Dam
set_option linter.unusedVariables false
set_option linter.unusedSimpArgs false
def wordE (l : List Int) (n most : Int) : Int := if (l.length : Int) > most then 2 else if l.all (fun x => within x 0 (w1 n)) then 0 else 3
theorem l36 (K : Nat) (hK : 1 ≤ K) (l : List Int) (hl : l.length ≤ 4611686018427387904) (n : Int) : ∀ (k i : Nat), l.length - i < k → lp36_4 K k (ints l) n (i : Int) = some (I (if (l.drop i).all (fun x => within x 0 (w1 n)) then 0 else 3))
  | 0, i, h => by omega
  | k + 1, i, h => by
    unfold lp36_4 tr36_4
    rw [ints_len]
    by_cases hi : i < l.length
    · rw [show decide ((i : Int) < (l.length : Int)) = true by simpa using hi, List.drop_eq_getElem_cons hi]
      simp only [if_pos (Int.natCast_nonneg i), ints_get hi, castI_I, r29 hK, castB_B, List.all_cons, w1]
      by_cases hw : within l[i] 0 (IntKind.i64.wrap (n - 1)) = true
      · simp only [hw, Bool.not_true, Bool.true_and]
        rw [wrapN (by omega)]
        exact l36 K hK l hl n k (i + 1) (by omega)
      · simp only [Bool.not_eq_true] at hw
        simp only [hw, Bool.not_false, Bool.false_and, Bool.false_eq_true, if_false]
    · rw [show decide ((i : Int) < (l.length : Int)) = false by simpa using hi, List.drop_eq_nil_of_le (by omega)]
      rfl
theorem r36 {K : Nat} (l : List Int) (hl : l.length ≤ 4611686018427387904) (n most : Int) (hK : l.length + 3 ≤ K) : run tab K 36 [.sl 3 (ints l), I n, I most] = some (I (wordE l n most)) := by
  obtain ⟨K, rfl⟩ := succK (show 1 ≤ K by omega)
  rw [eq36]; unfold sh36 tr36 wordE
  rw [ints_len]
  by_cases h : (l.length : Int) > most
  · rw [decide_eq_true h, if_pos h]
  · rw [decide_eq_false h, if_neg h]
    exact l36 K (by omega) l hl n K 0 (by omega)
theorem ints_snoc (l : List Int) (n : Int) : ints l ++ [I n] = ints (l ++ [n]) := by simp [ints]
end Go.Proofs.YtahifpeggdcamaaDoor

/- A model unfolded: the model's function and the reference's. -/
namespace Go.Proofs.YtahifpeggdcamaaDoor
open Go.Dam
set_option linter.unusedVariables false
set_option linter.unusedSimpArgs false
def eRow (s : List Int) : AV := .sl 3 (ints s)
theorem idx_cases {α : Type} (p : α → Bool) : ∀ (l : List α) (i : Nat), (idx p i l = -1 ∧ l.all (fun x => !p x) = true) ∨ ∃ j, ∃ h : j < l.length, idx p i l = ((i + j : Nat) : Int) ∧ p l[j] = true
  | [], i => .inl ⟨rfl, rfl⟩
  | a :: l, i => by
    unfold idx
    by_cases h : p a = true
    · rw [if_pos h]; exact .inr ⟨0, by simp, by simp, by simpa using h⟩
    · rw [if_neg h]
      rcases idx_cases p l (i + 1) with ⟨h1, h2⟩ | ⟨j, hj, h1, h2⟩
      · refine .inl ⟨h1, ?_⟩
        simp only [Bool.not_eq_true] at h
        simp [h, h2]
      · exact .inr ⟨j + 1, by simpa using hj, by rw [h1]; omega, by simpa using h2⟩
theorem l53 (K : Nat) (x y : List Int) (hl : x.length = y.length) (hx : x.length ≤ 4611686018427387904) : ∀ (k i : Nat), x.length - i < k → lp53_4 K k (ints x) (ints y) (x.length : Int) (i : Int) = some (B (decide (x.drop i = y.drop i)))
  | 0, i, h => by omega
  | k + 1, i, h => by
    unfold lp53_4 tr53_4
    by_cases hi : i < x.length
    · have hj : i < y.length := by omega
      have e1 := List.drop_eq_getElem_cons hi
      have e2 := List.drop_eq_getElem_cons hj
      rw [show decide ((i : Int) < (x.length : Int)) = true by simpa using hi]
      simp only [if_pos (Int.natCast_nonneg i), ints_get hi, ints_get hj, castI_I]
      by_cases he : x[i] = y[i]
      · rw [show (x[i] != y[i]) = false by simpa using he]
        simp only []
        rw [wrapN (by omega), l53 K x y hl hx k (i + 1) (by omega)]
        refine congrArg (fun b => some (B b)) ?_
        rw [decide_eq_decide, e1, e2]
        simp only [List.cons.injEq, he, true_and]
      · rw [show (x[i] != y[i]) = true by simpa using he]
        refine congrArg (fun b => some (B b)) (Eq.symm (decide_eq_false ?_))
        rw [e1, e2]
        simp only [List.cons.injEq, he, false_and, not_false_eq_true]
    · rw [show decide ((i : Int) < (x.length : Int)) = false by simpa using hi, List.drop_eq_nil_of_le (by omega), List.drop_eq_nil_of_le (by omega)]
      simp
theorem r53 {K : Nat} (x y : List Int) (hx : x.length ≤ 4611686018427387904) (hy : y.length ≤ 4611686018427387904) (hK : x.length + 2 ≤ K) : run tab K 53 [.sl 3 (ints x), .sl 3 (ints y)] = some (B (decide (x = y))) := by
  obtain ⟨K, rfl⟩ := succK (show 1 ≤ K by omega)
  rw [eq53]; unfold sh53 tr53
  rw [ints_len, ints_len]
  by_cases hl : x.length = y.length
  · rw [show ((x.length : Int) != (y.length : Int)) = false by rw [hl]; simp]
    exact l53 K x y hl hx K 0 (by omega)
  · rw [show ((x.length : Int) != (y.length : Int)) = true by simp; omega]
    simp only []
    rw [show decide (x = y) = false by simp; intro he; exact hl (by rw [he])]
theorem row_get {l : List (List Int)} {i : Nat} (h : i < l.length) : (l.map eRow)[((i : Nat) : Int).toNat]? = some (.sl 3 (ints l[i])) := by
  simp [h, eRow]
end Go.Proofs.YtahifpeggdcamaaDoor
