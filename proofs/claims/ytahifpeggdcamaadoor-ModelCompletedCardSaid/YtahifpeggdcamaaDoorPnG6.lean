/- A part of an interpreter of the model's code that is proved sound, and of laws told by it: DamM6. -/
import Derived.Test.YtahifpeggdcamaaDoorPnG5
set_option linter.unusedVariables false
set_option linter.unusedSimpArgs false
/- A model unfolded: the model's function and the reference's. -/
namespace Go.Proofs.YtahifpeggdcamaaDoor
open Go.Dam
set_option linter.unusedVariables false
set_option linter.unusedSimpArgs false
def eRow (s : List Int) : AV := .sl 3 (ints s)
theorem idx_cases {α : Type} (p : α → Bool) : ∀ (l : List α) (i : Nat), (idx p i l = -1 ∧ l.all (fun x => !p x) = true) ∨ ∃ j, ∃ h : j < l.length, idx p i l = ((i + j : Nat) : Int) ∧ p l[j] = true
  | [], i => .inl ⟨rfl, rfl⟩
  | a :: l, i => by
    unfold idx
    by_cases h : p a = true
    · rw [if_pos h]; exact .inr ⟨0, by simp, by simp, by simpa using h⟩
    · rw [if_neg h]
      rcases idx_cases p l (i + 1) with ⟨h1, h2⟩ | ⟨j, hj, h1, h2⟩
      · refine .inl ⟨h1, ?_⟩
        simp only [Bool.not_eq_true] at h
        simp [h, h2]
      · exact .inr ⟨j + 1, by simpa using hj, by rw [h1]; omega, by simpa using h2⟩
theorem l53 (K : Nat) (x y : List Int) (hl : x.length = y.length) (hx : x.length ≤ 4611686018427387904) : ∀ (k i : Nat), x.length - i < k → lp53_4 K k (ints x) (ints y) (x.length : Int) (i : Int) = some (B (decide (x.drop i = y.drop i)))
  | 0, i, h => by omega
  | k + 1, i, h => by
    unfold lp53_4 tr53_4
    by_cases hi : i < x.length
    · have hj : i < y.length := by omega
      have e1 := List.drop_eq_getElem_cons hi
      have e2 := List.drop_eq_getElem_cons hj
      rw [show decide ((i : Int) < (x.length : Int)) = true by simpa using hi]
      simp only [if_pos (Int.natCast_nonneg i), ints_get hi, ints_get hj, castI_I]
      by_cases he : x[i] = y[i]
      · rw [show (x[i] != y[i]) = false by simpa using he]
        simp only []
        rw [wrapN (by omega), l53 K x y hl hx k (i + 1) (by omega)]
        refine congrArg (fun b => some (B b)) ?_
        rw [decide_eq_decide, e1, e2]
        simp only [List.cons.injEq, he, true_and]
      · rw [show (x[i] != y[i]) = true by simpa using he]
        refine congrArg (fun b => some (B b)) (Eq.symm (decide_eq_false ?_))
        rw [e1, e2]
        simp only [List.cons.injEq, he, false_and, not_false_eq_true]
    · rw [show decide ((i : Int) < (x.length : Int)) = false by simpa using hi, List.drop_eq_nil_of_le (by omega), List.drop_eq_nil_of_le (by omega)]
      simp
theorem r53 {K : Nat} (x y : List Int) (hx : x.length ≤ 4611686018427387904) (hy : y.length ≤ 4611686018427387904) (hK : x.length + 2 ≤ K) : run tab K 53 [.sl 3 (ints x), .sl 3 (ints y)] = some (B (decide (x = y))) := by
  obtain ⟨K, rfl⟩ := succK (show 1 ≤ K by omega)
  rw [eq53]; unfold sh53 tr53
  rw [ints_len, ints_len]
  by_cases hl : x.length = y.length
  · rw [show ((x.length : Int) != (y.length : Int)) = false by rw [hl]; simp]
    exact l53 K x y hl hx K 0 (by omega)
  · rw [show ((x.length : Int) != (y.length : Int)) = true by simp; omega]
    simp only []
    rw [show decide (x = y) = false by simp; intro he; exact hl (by rw [he])]
theorem r52 {K : Nat} (x y : List Int) (r : List AV) (hx : x.length ≤ 4611686018427387904) (hy : y.length ≤ 4611686018427387904) (hK : x.length + 3 ≤ K) : run tab K 52 ([.sl 3 (ints x)] ++ [.ref (.sl 3 (ints y) :: r)]) = some (B (decide (x = y))) := by
  obtain ⟨K, rfl⟩ := succK (show 1 ≤ K by omega)
  rw [show ([.sl 3 (ints x)] ++ [.ref (.sl 3 (ints y) :: r)] : List AV) = [.sl 3 (ints x), .ref (.sl 3 (ints y) :: r)] from rfl, eq52]; unfold sh52 tr52
  simp only [castRef, List.getD_cons_zero, castL_L, r53 x y hx hy (show x.length + 2 ≤ K by omega), castB_B]
theorem row_get {l : List (List Int)} {i : Nat} (h : i < l.length) : (l.map eRow)[((i : Nat) : Int).toNat]? = some (.sl 3 (ints l[i])) := by
  simp [h, eRow]
theorem l51 (K : Nat) (y : List Int) (r : List AV) (l : List (List Int)) (hl : l.length ≤ 4611686018427387904) (hy : y.length ≤ 4611686018427387904) (hx : ∀ x ∈ l, x.length ≤ 4611686018427387904 ∧ x.length + 3 ≤ K) : ∀ (k i : Nat), l.length - i < k →
    lp51_2 K k (l.map eRow) (.fn 52 [.ref (.sl 3 (ints y) :: r)]) (l.length : Int) (i : Int) = some (I (idx (fun x => decide (x = y)) i (l.drop i)))
  | 0, i, h => by omega
  | k + 1, i, h => by
    unfold lp51_2 tr51_2
    by_cases hi : i < l.length
    · obtain ⟨x1, x2⟩ := hx _ (List.getElem_mem hi)
      rw [show decide ((i : Int) < (l.length : Int)) = true by simpa using hi, List.drop_eq_getElem_cons hi]
      simp only [if_pos (Int.natCast_nonneg i), row_get hi, idx, castL_L, castB_B, castFn_fn, r52 l[i] y r x1 hy x2]
      by_cases h0 : l[i] = y
      · simp only [decide_eq_true h0, if_true]
      · have ih := l51 K y r l hl hy hx k (i + 1) (by omega)
        rw [← wrapN (by omega)] at ih
        simp only [decide_eq_false h0, Bool.false_eq_true, if_false]
        exact ih
    · rw [show decide ((i : Int) < (l.length : Int)) = false by simpa using hi, List.drop_eq_nil_of_le (by omega)]
      rfl
theorem r51 {K : Nat} (y : List Int) (r : List AV) (l : List (List Int)) (hl : l.length ≤ 4611686018427387904) (hy : y.length ≤ 4611686018427387904) (hx : ∀ x ∈ l, x.length ≤ 4611686018427387904 ∧ x.length + 4 ≤ K) (hK : l.length + 2 ≤ K) :
    run tab K 51 [.sl 22 (l.map eRow), .fn 52 [.ref (.sl 3 (ints y) :: r)]] = some (I (idx (fun x => decide (x = y)) 0 l)) := by
  obtain ⟨K, rfl⟩ := succK (show 1 ≤ K by omega)
  rw [eq51]; unfold sh51 tr51
  rw [List.length_map]
  exact l51 K y r l hl hy (fun x hx' => ⟨(hx x hx').1, by have := (hx x hx').2; omega⟩) K 0 (by omega)
theorem l56 (K : Nat) (y : List Int) (l : List (List Int)) (hl : l.length ≤ 4611686018427387904) (hy : y.length ≤ 4611686018427387904) (hx : ∀ x ∈ l, x.length ≤ 4611686018427387904 ∧ x.length + 3 ≤ K) : ∀ (k i : Nat), l.length - i < k →
    lp56_2 K k (l.map eRow) (ints y) (i : Int) = some (I (idx (fun x => decide (x = y)) i (l.drop i)))
  | 0, i, h => by omega
  | k + 1, i, h => by
    unfold lp56_2 tr56_2
    rw [List.length_map]
    by_cases hi : i < l.length
    · obtain ⟨x1, x2⟩ := hx _ (List.getElem_mem hi)
      rw [show decide ((i : Int) < (l.length : Int)) = true by simpa using hi, List.drop_eq_getElem_cons hi]
      simp only [if_pos (Int.natCast_nonneg i), row_get hi, idx, castL_L, castB_B, r31 l[i] y x1 hy (show l[i].length + 2 ≤ K by omega)]
      by_cases h0 : l[i] = y
      · simp only [decide_eq_true h0, if_true]
      · have ih := l56 K y l hl hy hx k (i + 1) (by omega)
        rw [← wrapN (by omega)] at ih
        simp only [decide_eq_false h0, Bool.false_eq_true, if_false]
        exact ih
    · rw [show decide ((i : Int) < (l.length : Int)) = false by simpa using hi, List.drop_eq_nil_of_le (by omega)]
      rfl
theorem r56 {K : Nat} (y : List Int) (l : List (List Int)) (hl : l.length ≤ 4611686018427387904) (hy : y.length ≤ 4611686018427387904) (hx : ∀ x ∈ l, x.length ≤ 4611686018427387904 ∧ x.length + 4 ≤ K) (hK : l.length + 2 ≤ K) :
    run tab K 56 [.sl 22 (l.map eRow), .sl 3 (ints y)] = some (I (idx (fun x => decide (x = y)) 0 l)) := by
  obtain ⟨K, rfl⟩ := succK (show 1 ≤ K by omega)
  rw [eq56]; unfold sh56 tr56
  exact l56 K y l hl hy (fun x hx' => ⟨(hx x hx').1, by have := (hx x hx').2; omega⟩) K 0 (by omega)
/-! ### the plain unfolding -/
abbrev U : Type := List (List Int) × List St4
def unf1 (m : Mo) (i k : Nat) (u : U) : U ⊕ Int :=
  if (nxt m (u.1.getD i []) k).2.2 = 23 then .inl u else if (nxt m (u.1.getD i []) k).2.2 = 0 then
    if idx (fun s => decide (s = (nxt m (u.1.getD i []) k).1)) 0 u.1 < 0 then if u.1.length = 40 then .inr 32 else
      .inl (u.1 ++ [(nxt m (u.1.getD i []) k).1], u.2 ++ [⟨i, k, (nxt m (u.1.getD i []) k).2.1, u.1.length⟩])
    else .inl (u.1, u.2 ++ [⟨i, k, (nxt m (u.1.getD i []) k).2.1, idx (fun s => decide (s = (nxt m (u.1.getD i []) k).1)) 0 u.1⟩])
  else .inr (nxt m (u.1.getD i []) k).2.2
def unfK (m : Mo) (i : Nat) : Nat → Nat → U → U ⊕ Int
  | 0, _, u => .inl u
  | c + 1, k, u => match unf1 m i k u with
    | .inr e => .inr e
    | .inl u' => unfK m i c (k + 1) u'
def unfO (m : Mo) : Nat → Nat → U → U ⊕ Int
  | 0, _, u => .inl u
  | F + 1, i, u => if i < u.1.length then match unfK m i (sigN m) 0 u with
    | .inr e => .inr e
    | .inl u' => unfO m F (i + 1) u' else .inl u
/-- What holds of states and steps on the way. -/
structure UI (m : Mo) (n : Nat) (u : U) : Prop where
  rows : ∀ s ∈ u.1, s.length = m.vs.length + 1
  le : u.1.length ≤ 40
  st : u.2.length ≤ n
theorem unf1_ok {m : Mo} {i k n : Nat} {u u' : U} (h : UI m n u) (hi : i < u.1.length) (hk : k < sigN m) (he : unf1 m i k u = .inl u') : UI m (n + 1) u' ∧ u.1.length ≤ u'.1.length := by
  obtain ⟨h1, h2, h3⟩ := h
  unfold unf1 at he
  split at he
  · cases he; exact ⟨⟨h1, h2, by omega⟩, by omega⟩
  · split at he
    · rename_i h0
      have ha : u.1.getD i [] = u.1[i] := by simp [List.getD_eq_getElem?_getD, hi]
      have hl : (nxt m (u.1.getD i []) k).1.length = m.vs.length + 1 := by
        rw [(nxt_len m _ k hk).2 h0, ha]
        exact h1 _ (List.getElem_mem hi)
      split at he
      · split at he
        · cases he
        · cases he
          refine ⟨⟨fun s hs => ?_, by simp; omega, by simp; omega⟩, by simp⟩
          rcases List.mem_append.1 hs with hs | hs
          · exact h1 s hs
          · rw [List.mem_singleton.1 hs]; exact hl
      · cases he
        exact ⟨⟨h1, h2, by simp; omega⟩, by simp⟩
    · cases he
theorem unfK_ok {m : Mo} {i : Nat} : ∀ {c k n : Nat} {u u' : U}, UI m n u → i < u.1.length → k + c ≤ sigN m → unfK m i c k u = .inl u' → UI m (n + c) u' ∧ u.1.length ≤ u'.1.length
  | 0, k, n, u, u', h, hi, hk, he => by
    unfold unfK at he; cases he; exact ⟨h, by omega⟩
  | c + 1, k, n, u, u', h, hi, hk, he => by
    unfold unfK at he
    split at he
    · cases he
    · rename_i u1 h1
      obtain ⟨g1, g2⟩ := unf1_ok h hi (by omega) h1
      obtain ⟨f1, f2⟩ := unfK_ok (k := k + 1) g1 (by omega) (by omega) he
      exact ⟨by rw [show n + (c + 1) = n + 1 + c by omega]; exact f1, by omega⟩
def badU (e : Int) : AV := .tup [.agg [I 0, I 0, I 0, I 0, .sl 97 []], .sl 22 [], I e]
def outU (m : Mo) : U ⊕ Int → AV
  | .inl u => .tup [.agg [I (u.1.length : Int), I (sigN m : Int), I m.o, I 0, .sl 97 (steps u.2)], .sl 22 (u.1.map eRow), I 0]
  | .inr e => badU e
end Go.Proofs.YtahifpeggdcamaaDoor
