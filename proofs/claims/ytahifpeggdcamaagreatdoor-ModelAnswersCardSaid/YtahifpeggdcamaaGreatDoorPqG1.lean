/- A part of an interpreter of the model's code that is proved sound, and of laws told by it: DamM1, DamM2, DamM3, DamM4, DamM5, DamM6, DamM7, DamM8. -/
import Derived.Test.YtahifpeggdcamaaGreatDoorPqE3
set_option linter.unusedVariables false
set_option linter.unusedSimpArgs false
/- Operands' values, tests, moves: plain specifications; what the model's and the reference's functions tell. -/
namespace Go.Proofs.YtahifpeggdcamaaGreatDoor
open Go.Dam
set_option linter.unusedVariables false
set_option linter.unusedSimpArgs false
end Go.Proofs.YtahifpeggdcamaaGreatDoor

/- What a move does: the model's function and the reference's. -/
namespace Go.Proofs.YtahifpeggdcamaaGreatDoor
open Go.Dam
set_option linter.unusedVariables false
set_option linter.unusedSimpArgs false
theorem isI64_ints (l : List Int) : (ints l).all isI64 = true := by
  simp only [ints, List.all_map, List.all_eq_true]; intro x _; rfl
theorem r70 {K : Nat} (h : 1 ≤ K) (l : List Int) (hl : l.length * 8 ≤ 140737488355328) : run tab K 56 [.sl 3 (ints l)] = some (.sl 3 (ints l)) := by
  obtain ⟨K, rfl⟩ := succK h
  rw [show run tab (K + 1) 56 [.sl 3 (ints l)] = extClone 3 [.sl 3 (ints l)] from rfl]
  unfold extClone
  simp only []
  rw [isI64_ints, show Nat.beq 3 3 = true from rfl, ints_len, show Nat.ble (l.length * 8) 140737488355328 = true by simpa using hl]
  rfl
end Go.Proofs.YtahifpeggdcamaaGreatDoor

/- What comes of a signal: the model's function and the reference's. -/
namespace Go.Proofs.YtahifpeggdcamaaGreatDoor
open Go.Dam
set_option linter.unusedVariables false
set_option linter.unusedSimpArgs false
end Go.Proofs.YtahifpeggdcamaaGreatDoor

/- What holds of right models; configurations; the model's function NextOf. -/
namespace Go.Proofs.YtahifpeggdcamaaGreatDoor
open Go.Dam
set_option linter.unusedVariables false
set_option linter.unusedSimpArgs false
theorem within_iff {n a b : Int} : within n a b = true ↔ a ≤ n ∧ n ≤ b := by
  unfold within; simp
theorem orI_zero : ∀ {l : List Int}, orI l = 0 → ∀ n ∈ l, n = 0
  | [], _, n, h => by simp at h
  | a :: l, h, n, hn => by
    unfold orI at h
    by_cases h0 : a = 0
    · rw [if_pos h0] at h
      rcases List.mem_cons.1 hn with rfl | hn
      · exact h0
      · exact orI_zero h n hn
    · rw [if_neg h0] at h; exact absurd h h0
theorem l31 (K : Nat) (x y : List Int) (hl : x.length = y.length) (hx : x.length ≤ 4611686018427387904) : ∀ (k i : Nat), x.length - i < k → lp10_4 K k (ints x) (ints y) (i : Int) = some (B (decide (x.drop i = y.drop i)))
  | 0, i, h => by omega
  | k + 1, i, h => by
    unfold lp10_4 tr10_4
    rw [ints_len]
    by_cases hi : i < x.length
    · have hj : i < y.length := by omega
      have e1 := List.drop_eq_getElem_cons hi
      have e2 := List.drop_eq_getElem_cons hj
      rw [show decide ((i : Int) < (x.length : Int)) = true by simpa using hi]
      simp only [if_pos (Int.natCast_nonneg i), ints_get hi, ints_get hj, castI_I]
      by_cases he : x[i] = y[i]
      · rw [show (x[i] != y[i]) = false by simpa using he]
        simp only []
        rw [wrapN (by omega), l31 K x y hl hx k (i + 1) (by omega)]
        refine congrArg (fun b => some (B b)) ?_
        rw [decide_eq_decide, e1, e2]
        simp only [List.cons.injEq, he, true_and]
      · rw [show (x[i] != y[i]) = true by simpa using he]
        refine congrArg (fun b => some (B b)) (Eq.symm (decide_eq_false ?_))
        rw [e1, e2]
        simp only [List.cons.injEq, he, false_and, not_false_eq_true]
    · rw [show decide ((i : Int) < (x.length : Int)) = false by simpa using hi, List.drop_eq_nil_of_le (by omega), List.drop_eq_nil_of_le (by omega)]
      simp
theorem r31 {K : Nat} (x y : List Int) (hx : x.length ≤ 4611686018427387904) (hy : y.length ≤ 4611686018427387904) (hK : x.length + 2 ≤ K) : run tab K 10 [.sl 3 (ints x), .sl 3 (ints y)] = some (B (decide (x = y))) := by
  obtain ⟨K, rfl⟩ := succK (show 1 ≤ K by omega)
  rw [eq10]; unfold sh10 tr10
  rw [ints_len, ints_len]
  by_cases hl : x.length = y.length
  · rw [show ((x.length : Int) != (y.length : Int)) = false by rw [hl]; simp]
    exact l31 K x y hl hx K 0 (by omega)
  · rw [show ((x.length : Int) != (y.length : Int)) = true by simp; omega]
    simp only []
    rw [show decide (x = y) = false by simp; intro he; exact hl (by rw [he])]

end Go.Proofs.YtahifpeggdcamaaGreatDoor

/- Words; first configurations; runs. -/
namespace Go.Proofs.YtahifpeggdcamaaGreatDoor
open Go.Dam
set_option linter.unusedVariables false
set_option linter.unusedSimpArgs false
def wordE (l : List Int) (n most : Int) : Int := if (l.length : Int) > most then 2 else if l.all (fun x => within x 0 (w1 n)) then 0 else 3
theorem l36 (K : Nat) (hK : 1 ≤ K) (l : List Int) (hl : l.length ≤ 4611686018427387904) (n : Int) : ∀ (k i : Nat), l.length - i < k → lp15_4 K k (ints l) n (i : Int) = some (I (if (l.drop i).all (fun x => within x 0 (w1 n)) then 0 else 3))
  | 0, i, h => by omega
  | k + 1, i, h => by
    unfold lp15_4 tr15_4
    rw [ints_len]
    by_cases hi : i < l.length
    · rw [show decide ((i : Int) < (l.length : Int)) = true by simpa using hi, List.drop_eq_getElem_cons hi]
      simp only [if_pos (Int.natCast_nonneg i), ints_get hi, castI_I, r29 hK, castB_B, List.all_cons, w1]
      by_cases hw : within l[i] 0 (IntKind.i64.wrap (n - 1)) = true
      · simp only [hw, Bool.not_true, Bool.true_and]
        rw [wrapN (by omega)]
        exact l36 K hK l hl n k (i + 1) (by omega)
      · simp only [Bool.not_eq_true] at hw
        simp only [hw, Bool.not_false, Bool.false_and, Bool.false_eq_true, if_false]
    · rw [show decide ((i : Int) < (l.length : Int)) = false by simpa using hi, List.drop_eq_nil_of_le (by omega)]
      rfl
theorem r36 {K : Nat} (l : List Int) (hl : l.length ≤ 4611686018427387904) (n most : Int) (hK : l.length + 3 ≤ K) : run tab K 15 [.sl 3 (ints l), I n, I most] = some (I (wordE l n most)) := by
  obtain ⟨K, rfl⟩ := succK (show 1 ≤ K by omega)
  rw [eq15]; unfold sh15 tr15 wordE
  rw [ints_len]
  by_cases h : (l.length : Int) > most
  · rw [decide_eq_true h, if_pos h]
  · rw [decide_eq_false h, if_neg h]
    exact l36 K (by omega) l hl n K 0 (by omega)
theorem r90 {K : Nat} (h : 2 ≤ K) (x n : Int) : run tab K 60 ([I x] ++ [.ref [I n]]) = some (B (!within x 0 (w1 n))) := by
  obtain ⟨K, rfl⟩ := succK (show 1 ≤ K by omega)
  rw [show ([I x] ++ [.ref [I n]] : List AV) = [I x, .ref [I n]] from rfl, eq60]; unfold sh60 tr60
  simp only [castRef, List.getD_cons_zero, castI_I, r57 (show 1 ≤ K by omega), castB_B, w1]
theorem l107 (K : Nat) (hK : 2 ≤ K) (n : Int) (l : List Int) (hl : l.length ≤ 4611686018427387904) : ∀ (k i : Nat), l.length - i < k →
    lp80_2 K k (ints l) (.fn 60 [.ref [I n]]) (l.length : Int) (i : Int) = some (I (idx (fun x => !within x 0 (w1 n)) i (l.drop i)))
  | 0, i, h => by omega
  | k + 1, i, h => by
    unfold lp80_2 tr80_2
    by_cases hi : i < l.length
    · rw [show decide ((i : Int) < (l.length : Int)) = true by simpa using hi, List.drop_eq_getElem_cons hi]
      simp only [if_pos (Int.natCast_nonneg i), ints_get hi, idx, castI_I, castB_B, castFn_fn, r90 hK]
      by_cases h0 : within l[i] 0 (w1 n) = true
      · have ih := l107 K hK n l hl k (i + 1) (by omega)
        rw [← wrapN (by omega)] at ih
        simp only [h0, Bool.not_true, Bool.false_eq_true, if_false]
        exact ih
      · simp only [Bool.not_eq_true] at h0
        simp only [h0, Bool.not_false, if_true]
    · rw [show decide ((i : Int) < (l.length : Int)) = false by simpa using hi, List.drop_eq_nil_of_le (by omega)]
      rfl
theorem r69 {K : Nat} (l : List Int) (hl : l.length ≤ 4611686018427387904) (n : Int) (hK : l.length + 6 ≤ K) : run tab K 35 [.sl 3 (ints l), I n] = some (I (wordE l n 60)) := by
  obtain ⟨K, rfl⟩ := succK (show 1 ≤ K by omega)
  obtain ⟨K, rfl⟩ := succK (show 1 ≤ K by omega)
  obtain ⟨K, rfl⟩ := succK (show 1 ≤ K by omega)
  rw [eq35]; unfold sh35 tr35 wordE
  rw [ints_len]
  by_cases h : (l.length : Int) > 60
  · rw [decide_eq_true h, if_pos h]
  · rw [decide_eq_false h, if_neg h]
    rw [eq61]; unfold sh61 tr61
    rw [eq80]; unfold sh80 tr80
    rw [ints_len, show (0 : Int) = ((0 : Nat) : Int) from rfl, l107 K (by omega) n l hl K 0 (by omega)]
    simp only [castI_I, List.drop_zero, castB_B]
    have : decide (idx (fun x => !within x 0 (w1 n)) 0 l ≥ ((0 : Nat) : Int)) = l.any fun x => !within x 0 (w1 n) := idx_any _ l 0
    rw [this, r62 (by omega), ← List.not_all_eq_any_not, Bool.not_not]
    rfl
theorem ints_snoc (l : List Int) (n : Int) : ints l ++ [I n] = ints (l ++ [n]) := by simp [ints]
end Go.Proofs.YtahifpeggdcamaaGreatDoor

/- A model unfolded: the model's function and the reference's. -/
namespace Go.Proofs.YtahifpeggdcamaaGreatDoor
open Go.Dam
set_option linter.unusedVariables false
set_option linter.unusedSimpArgs false
def eRow (s : List Int) : AV := .sl 3 (ints s)
theorem idx_cases {α : Type} (p : α → Bool) : ∀ (l : List α) (i : Nat), (idx p i l = -1 ∧ l.all (fun x => !p x) = true) ∨ ∃ j, ∃ h : j < l.length, idx p i l = ((i + j : Nat) : Int) ∧ p l[j] = true
  | [], i => .inl ⟨rfl, rfl⟩
  | a :: l, i => by
    unfold idx
    by_cases h : p a = true
    · rw [if_pos h]; exact .inr ⟨0, by simp, by simp, by simpa using h⟩
    · rw [if_neg h]
      rcases idx_cases p l (i + 1) with ⟨h1, h2⟩ | ⟨j, hj, h1, h2⟩
      · refine .inl ⟨h1, ?_⟩
        simp only [Bool.not_eq_true] at h
        simp [h, h2]
      · exact .inr ⟨j + 1, by simpa using hj, by rw [h1]; omega, by simpa using h2⟩
theorem row_get {l : List (List Int)} {i : Nat} (h : i < l.length) : (l.map eRow)[((i : Nat) : Int).toNat]? = some (.sl 3 (ints l[i])) := by
  simp [h, eRow]
end Go.Proofs.YtahifpeggdcamaaGreatDoor

/- A model unfolded: the loops of both functions. -/
namespace Go.Proofs.YtahifpeggdcamaaGreatDoor
open Go.Dam
set_option linter.unusedVariables false
set_option linter.unusedSimpArgs false
end Go.Proofs.YtahifpeggdcamaaGreatDoor

/- The model's runs; machines and lists of lists compared; the laws ModelRuns and ModelUnfolds. -/
namespace Go.Proofs.YtahifpeggdcamaaGreatDoor
open Go.Dam
set_option linter.unusedVariables false
set_option linter.unusedSimpArgs false
theorem wordE_ok {w : List Int} {n : Int} (h : wordE w n 60 = 0) : w.length ≤ 60 ∧ ∀ x ∈ w, within x 0 (w1 n) = true := by
  unfold wordE at h
  split at h
  · simp at h
  · split at h
    · rename_i h1
      rw [List.all_eq_true] at h1
      exact ⟨by omega, h1⟩
    · simp at h
def eqS4 (a b : St4) : Bool := (a.f == b.f) && ((a.i == b.i) && ((a.o == b.o) && ((a.t == b.t) && true)))
theorem eqS4_iff {a b : St4} : eqS4 a b = true ↔ a = b := by
  cases a; cases b
  simp [eqS4]
instance : DecidableEq St4 := fun a b => decidable_of_iff _ eqS4_iff
theorem l19 (K : Nat) (x y : List (List Int)) (hl : x.length = y.length) (hx : x.length ≤ 4611686018427387904) (hr : ∀ r ∈ x, r.length ≤ 4611686018427387904 ∧ r.length + 2 ≤ K) (hr' : ∀ r ∈ y, r.length ≤ 4611686018427387904) : ∀ (k i : Nat), x.length - i < k → lp11_4 K k (x.map eRow) (y.map eRow) (i : Int) = some (B (decide (x.drop i = y.drop i)))
  | 0, i, h => by omega
  | k + 1, i, h => by
    unfold lp11_4 tr11_4
    rw [List.length_map]
    by_cases hi : i < x.length
    · have hj : i < y.length := by omega
      have e1 := List.drop_eq_getElem_cons hi
      have e2 := List.drop_eq_getElem_cons hj
      obtain ⟨x1, x2⟩ := hr _ (List.getElem_mem hi)
      rw [show decide ((i : Int) < (x.length : Int)) = true by simpa using hi]
      simp only [if_pos (Int.natCast_nonneg i), row_get hi, row_get hj, castL_L, r31 x[i] y[i] x1 (hr' _ (List.getElem_mem hj)) x2, castB_B]
      by_cases he : x[i] = y[i]
      · rw [decide_eq_true he]
        simp only [Bool.not_true]
        rw [wrapN (by omega), l19 K x y hl hx hr hr' k (i + 1) (by omega)]
        refine congrArg (fun b => some (B b)) ?_
        rw [decide_eq_decide, e1, e2]
        simp only [List.cons.injEq, he, true_and]
      · rw [decide_eq_false he]
        simp only [Bool.not_false]
        refine congrArg (fun b => some (B b)) (Eq.symm (decide_eq_false ?_))
        rw [e1, e2]
        simp only [List.cons.injEq, he, false_and, not_false_eq_true]
    · rw [show decide ((i : Int) < (x.length : Int)) = false by simpa using hi, List.drop_eq_nil_of_le (by omega), List.drop_eq_nil_of_le (by omega)]
      simp
theorem r19 {K : Nat} (x y : List (List Int)) (hx : x.length ≤ 4611686018427387904) (hr : ∀ r ∈ x, r.length ≤ 4611686018427387904 ∧ r.length + 3 ≤ K) (hr' : ∀ r ∈ y, r.length ≤ 4611686018427387904) (hK : x.length + 2 ≤ K) :
    run tab K 11 [.sl 25 (x.map eRow), .sl 25 (y.map eRow)] = some (B (decide (x = y))) := by
  obtain ⟨K, rfl⟩ := succK (show 1 ≤ K by omega)
  rw [eq11]; unfold sh11 tr11
  rw [List.length_map, List.length_map]
  by_cases hl : x.length = y.length
  · rw [show ((x.length : Int) != (y.length : Int)) = false by rw [hl]; simp]
    exact l19 K x y hl hx (fun r h => ⟨(hr r h).1, by have := (hr r h).2; omega⟩) hr' K 0 (by omega)
  · rw [show ((x.length : Int) != (y.length : Int)) = true by simp; omega]
    simp only []
    rw [show decide (x = y) = false by simp; intro he; exact hl (by rw [he])]
end Go.Proofs.YtahifpeggdcamaaGreatDoor
