/- A part of an interpreter of the model's code that is proved sound, and of laws told by it: DamN1. -/
import Derived.Test.YtahifpeggdcamaaDoorPoG7
set_option linter.unusedVariables false
set_option linter.unusedSimpArgs false
/- Right machines: steps by state and input; the reference's ways along a word. -/
namespace Go.Proofs.YtahifpeggdcamaaDoor
open Go.Dam
set_option linter.unusedVariables false
set_option linter.unusedSimpArgs false
def hit (f n : Int) (s : St4) : Bool := s.f == f && s.i == n
/-- The step from a state by an input. -/
def stp (l : List St4) (f n : Int) : Option St4 := l.find? (hit f n)
def ltS (a b : St4) : Prop := a.f < b.f ∨ (a.f = b.f ∧ a.i < b.i)
theorem cmpI_cases (a b : Int) : (a < b ∧ cmpI a b = -1) ∨ (a = b ∧ cmpI a b = 0) ∨ (b < a ∧ cmpI a b = 1) := by
  unfold cmpI
  by_cases h : a < b
  · exact .inl ⟨h, by rw [if_pos h]⟩
  · by_cases h2 : a > b
    · exact .inr (.inr ⟨h2, by rw [if_neg h, if_pos h2]⟩)
    · exact .inr (.inl ⟨by omega, by rw [if_neg h, if_neg h2]⟩)
theorem notUp_lt {p s : St4} (h : notUp (some p) s = false) : ltS p s := by
  simp only [notUp, decide_eq_false_iff_not] at h
  unfold ltS
  rcases cmpI_cases p.f s.f with ⟨h1, h2⟩ | ⟨h1, h2⟩ | ⟨h1, h2⟩
  · exact .inl h1
  · rcases cmpI_cases p.i s.i with ⟨g1, g2⟩ | ⟨g1, g2⟩ | ⟨g1, g2⟩
    · exact .inr ⟨h1, g1⟩
    · rw [h2, g2] at h; simp [orI] at h
    · rw [h2, g2] at h; simp [orI] at h
  · rw [h2] at h; simp [orI] at h
/-- A step lies within a machine. -/
structure InM (S N O : Int) (s : St4) : Prop where
  f : 0 ≤ s.f ∧ s.f ≤ S
  t : 0 ≤ s.t ∧ s.t ≤ S
  i : 0 ≤ s.i ∧ s.i ≤ N
  o : 0 ≤ s.o ∧ s.o ≤ O
theorem stepsErr_zero {S N O : Int} : ∀ {l : List St4} {i : Nat} {p : Option St4}, (stepsErr S N O i p l).2 = 0 → (∀ s ∈ l, InM S N O s) ∧ l.Pairwise ltS ∧ ∀ q, p = some q → ∀ s ∈ l, ltS q s
  | [], i, p, _ => ⟨by simp, List.Pairwise.nil, by simp⟩
  | s :: l, i, p, h => by
    simp only [stepsErr] at h
    cases h1 : within s.f 0 S with
    | false => rw [h1] at h; simp at h
    | true =>
    cases h2 : within s.t 0 S with
    | false => rw [h1, h2] at h; simp at h
    | true =>
    cases h3 : within s.i 0 N with
    | false => rw [h1, h2, h3] at h; simp at h
    | true =>
    cases h4 : within s.o 0 O with
    | false => rw [h1, h2, h3, h4] at h; simp at h
    | true =>
    cases h5 : notUp p s with
    | true => rw [h1, h2, h3, h4, h5] at h; simp at h
    | false =>
      rw [h1, h2, h3, h4, h5] at h
      simp only [if_true, Bool.false_eq_true, if_false] at h
      obtain ⟨g1, g2, g3⟩ := stepsErr_zero h
      have g4 := g3 s rfl
      refine ⟨fun x hx => ?_, List.pairwise_cons.2 ⟨g4, g2⟩, fun q hq x hx => ?_⟩
      · rcases List.mem_cons.1 hx with rfl | hx
        · exact ⟨within_iff.1 h1, within_iff.1 h2, within_iff.1 h3, within_iff.1 h4⟩
        · exact g1 x hx
      · subst hq
        have hqs := notUp_lt h5
        rcases List.mem_cons.1 hx with rfl | hx
        · exact hqs
        · have := g4 x hx
          unfold ltS at *
          omega
/-- What holds of a right machine. -/
structure MaOk (S N O T : Int) (l : List St4) : Prop where
  s : 1 ≤ S ∧ S ≤ 40
  n : 1 ≤ N ∧ N ≤ 8
  o : 1 ≤ O ∧ O ≤ 8
  t : 0 ≤ T ∧ T < S
  le : (l.length : Int) ≤ S * N
  len : l.length ≤ 320
  mem : ∀ x ∈ l, 0 ≤ x.f ∧ x.f < S ∧ 0 ≤ x.t ∧ x.t < S ∧ 0 ≤ x.i ∧ x.i < N ∧ 0 ≤ x.o ∧ x.o < O
  up : l.Pairwise ltS
theorem maOk_of {S N O T : Int} {l : List St4} (h : (machErr S N O T l).2 = 0) : MaOk S N O T l := by
  unfold machErr at h
  cases h1 : within S 1 40 with
  | false => rw [h1] at h; simp at h
  | true =>
  cases h2 : within N 1 8 with
  | false => rw [h1, h2] at h; simp at h
  | true =>
  cases h3 : within O 1 8 with
  | false => rw [h1, h2, h3] at h; simp at h
  | true =>
  cases h4 : within T 0 (w1 S) with
  | false => rw [h1, h2, h3, h4] at h; simp at h
  | true =>
    rw [h1, h2, h3, h4] at h
    simp only [if_true] at h
    rw [within_iff] at h1 h2 h3 h4
    have e1 : w1 S = S - 1 := by unfold w1; rw [wrapI ⟨by omega, by omega⟩]
    have e2 : w1 N = N - 1 := by unfold w1; rw [wrapI ⟨by omega, by omega⟩]
    have e3 : w1 O = O - 1 := by unfold w1; rw [wrapI ⟨by omega, by omega⟩]
    have hb : S * N ≤ 40 * 8 := Int.mul_le_mul h1.2 h2.2 (by omega) (by omega)
    have hb0 : 0 ≤ S * N := Int.mul_nonneg (by omega) (by omega)
    rw [wrapI ⟨by omega, by omega⟩] at h
    by_cases h5 : (l.length : Int) > S * N
    · rw [if_pos h5] at h; simp at h
    · rw [if_neg h5, e1, e2, e3] at h
      obtain ⟨g1, g2, _⟩ := stepsErr_zero h
      rw [e1] at h4
      refine ⟨h1, h2, h3, by omega, by omega, by omega, fun x hx => ?_, g2⟩
      have := g1 x hx
      obtain ⟨a, b, c, d⟩ := this
      omega
theorem hit_iff {f n : Int} {s : St4} : hit f n s = true ↔ s.f = f ∧ s.i = n := by unfold hit; simp
/-- In a right machine no other step begins alike. -/
theorem up_unique {l : List St4} (h : l.Pairwise ltS) {a b : St4} (ha : a ∈ l) (hb : b ∈ l) (h1 : a.f = b.f) (h2 : a.i = b.i) : a = b := by
  induction h with
  | nil => simp at ha
  | cons h _ ih =>
    rcases List.mem_cons.1 ha with e1 | ha'
    · rcases List.mem_cons.1 hb with e2 | hb'
      · rw [e1, e2]
      · have := h b hb'; rw [← e1] at this; unfold ltS at this; omega
    · rcases List.mem_cons.1 hb with e2 | hb'
      · have := h a ha'; rw [← e2] at this; unfold ltS at this; omega
      · exact ih ha' hb'
theorem stp_some {l : List St4} {f n : Int} {s : St4} (h : stp l f n = some s) : s ∈ l ∧ s.f = f ∧ s.i = n := by
  unfold stp at h
  have h1 := List.find?_some h
  exact ⟨List.mem_of_find?_eq_some h, hit_iff.1 h1⟩
theorem stp_none {l : List St4} {f n : Int} (h : stp l f n = none) : ∀ s ∈ l, ¬ (s.f = f ∧ s.i = n) := by
  unfold stp at h
  rw [List.find?_eq_none] at h
  intro s hs
  have := h s hs
  rwa [hit_iff] at this
/-- The index of a step. -/
def stepAt (l : List St4) (f n : Int) : Int := idx (hit f n) 0 l
theorem stepAt_none {l : List St4} {f n : Int} (h : stp l f n = none) : stepAt l f n = -1 := by
  unfold stepAt
  rcases idx_cases (hit f n) l 0 with ⟨h1, _⟩ | ⟨j, hj, h1, h2⟩
  · exact h1
  · exact absurd (hit_iff.1 h2) (stp_none h _ (List.getElem_mem hj))
theorem stepAt_some : ∀ {l : List St4} {f n : Int} {s : St4} (i : Nat), stp l f n = some s → ∃ j : Nat, ∃ h : j < l.length, idx (hit f n) i l = ((i + j : Nat) : Int) ∧ l[j] = s
  | [], f, n, s, i, h => by simp [stp] at h
  | a :: l, f, n, s, i, h => by
    unfold stp at h
    unfold idx
    cases hh : hit f n a with
    | true =>
      rw [List.find?_cons_of_pos hh] at h
      cases h
      exact ⟨0, by simp, by simp, rfl⟩
    | false =>
      rw [List.find?_cons_of_neg (by simp [hh])] at h
      obtain ⟨j, hj, h1, h2⟩ := stepAt_some (i + 1) (show stp l f n = some s from h)
      simp only [Bool.false_eq_true, if_false]
      exact ⟨j + 1, by simpa using hj, by rw [h1]; omega, by simpa using h2⟩
theorem r66 {K : Nat} (S N O T : Int) (l : List St4) (hl : l.length ≤ 4611686018427387904) (h : l.length + 9 ≤ K) : run tab K 66 [eM S N O T l] = some (I (machErr S N O T l).2) := by
  obtain ⟨K, rfl⟩ := succK (show 1 ≤ K by omega)
  have := r20 (K := K) S N O T l hl (by omega)
  unfold eM at *
  rw [eq66]; unfold sh66 tr66
  rw [this]; rfl
theorem r33 {K : Nat} (S N O T : Int) (l : List St4) (hl : l.length ≤ 4611686018427387904) (h : l.length + 9 ≤ K) : run tab K 33 [eM S N O T l] = some (I (machErr S N O T l).2) := by
  obtain ⟨K, rfl⟩ := succK (show 1 ≤ K by omega)
  have := r22 (K := K) S N O T l hl (by omega)
  unfold eM at *
  rw [eq33]; unfold sh33 tr33
  rw [this]; rfl
theorem l68 (K : Nat) (S N O T f n : Int) (l : List St4) (hl : l.length ≤ 4611686018427387904) : ∀ (k i : Nat), l.length - i < k → lp68_2 K k f n (i : Int) S N O T (steps l) = some (I (idx (hit f n) i (l.drop i)))
  | 0, i, h => by omega
  | k + 1, i, h => by
    unfold lp68_2 tr68_2
    rw [steps_len]
    by_cases hi : i < l.length
    · have ih := l68 K S N O T f n l hl k (i + 1) (by omega)
      rw [← wrapN (by omega)] at ih
      rw [show decide ((i : Int) < (l.length : Int)) = true by simpa using hi, List.drop_eq_getElem_cons hi]
      simp only [if_pos (Int.natCast_nonneg i), steps_get hi, eS0, eS1, castI_I, idx, hit]
      by_cases h1 : (l[i].f == f) = true
      · simp only [h1, Bool.true_and]
        by_cases h2 : (l[i].i == n) = true
        · simp only [h2, if_true]
        · simp only [Bool.not_eq_true] at h2
          simp only [h2, Bool.false_eq_true, if_false]
          exact ih
      · simp only [Bool.not_eq_true] at h1
        simp only [h1, Bool.false_and, Bool.false_eq_true, if_false]
        exact ih
    · rw [show decide ((i : Int) < (l.length : Int)) = false by simpa using hi, List.drop_eq_nil_of_le (by omega)]
      rfl
theorem r68 {K : Nat} (S N O T f n : Int) (l : List St4) (hl : l.length ≤ 4611686018427387904) (hK : l.length + 2 ≤ K) : run tab K 68 [eM S N O T l, I f, I n] = some (I (stepAt l f n)) := by
  obtain ⟨K, rfl⟩ := succK (show 1 ≤ K by omega)
  unfold eM
  rw [eq68]; unfold sh68 tr68
  exact l68 K S N O T f n l hl K 0 (by omega)
end Go.Proofs.YtahifpeggdcamaaDoor
