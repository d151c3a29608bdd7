/- A part of an interpreter of the model's code that is proved sound, and of laws told by it: DamN1. -/
import Derived.Test.YtahifpeggdcamaaGreatDoorPrG1
set_option linter.unusedVariables false
set_option linter.unusedSimpArgs false
/- Right machines: steps by state and input; the reference's ways along a word. -/
namespace Go.Proofs.YtahifpeggdcamaaGreatDoor
open Go.Dam
set_option linter.unusedVariables false
set_option linter.unusedSimpArgs false
def ltS (a b : St4) : Prop := a.f < b.f ∨ (a.f = b.f ∧ a.i < b.i)
theorem cmpI_cases (a b : Int) : (a < b ∧ cmpI a b = -1) ∨ (a = b ∧ cmpI a b = 0) ∨ (b < a ∧ cmpI a b = 1) := by
  unfold cmpI
  by_cases h : a < b
  · exact .inl ⟨h, by rw [if_pos h]⟩
  · by_cases h2 : a > b
    · exact .inr (.inr ⟨h2, by rw [if_neg h, if_pos h2]⟩)
    · exact .inr (.inl ⟨by omega, by rw [if_neg h, if_neg h2]⟩)
theorem notUp_lt {p s : St4} (h : notUp (some p) s = false) : ltS p s := by
  simp only [notUp, decide_eq_false_iff_not] at h
  unfold ltS
  rcases cmpI_cases p.f s.f with ⟨h1, h2⟩ | ⟨h1, h2⟩ | ⟨h1, h2⟩
  · exact .inl h1
  · rcases cmpI_cases p.i s.i with ⟨g1, g2⟩ | ⟨g1, g2⟩ | ⟨g1, g2⟩
    · exact .inr ⟨h1, g1⟩
    · rw [h2, g2] at h; simp [orI] at h
    · rw [h2, g2] at h; simp [orI] at h
  · rw [h2] at h; simp [orI] at h
/-- A step lies within a machine. -/
structure InM (S N O : Int) (s : St4) : Prop where
  f : 0 ≤ s.f ∧ s.f ≤ S
  t : 0 ≤ s.t ∧ s.t ≤ S
  i : 0 ≤ s.i ∧ s.i ≤ N
  o : 0 ≤ s.o ∧ s.o ≤ O
theorem stepsErr_zero {S N O : Int} : ∀ {l : List St4} {i : Nat} {p : Option St4}, (stepsErr S N O i p l).2 = 0 → (∀ s ∈ l, InM S N O s) ∧ l.Pairwise ltS ∧ ∀ q, p = some q → ∀ s ∈ l, ltS q s
  | [], i, p, _ => ⟨by simp, List.Pairwise.nil, by simp⟩
  | s :: l, i, p, h => by
    simp only [stepsErr] at h
    cases h1 : within s.f 0 S with
    | false => rw [h1] at h; simp at h
    | true =>
    cases h2 : within s.t 0 S with
    | false => rw [h1, h2] at h; simp at h
    | true =>
    cases h3 : within s.i 0 N with
    | false => rw [h1, h2, h3] at h; simp at h
    | true =>
    cases h4 : within s.o 0 O with
    | false => rw [h1, h2, h3, h4] at h; simp at h
    | true =>
    cases h5 : notUp p s with
    | true => rw [h1, h2, h3, h4, h5] at h; simp at h
    | false =>
      rw [h1, h2, h3, h4, h5] at h
      simp only [if_true, Bool.false_eq_true, if_false] at h
      obtain ⟨g1, g2, g3⟩ := stepsErr_zero h
      have g4 := g3 s rfl
      refine ⟨fun x hx => ?_, List.pairwise_cons.2 ⟨g4, g2⟩, fun q hq x hx => ?_⟩
      · rcases List.mem_cons.1 hx with rfl | hx
        · exact ⟨within_iff.1 h1, within_iff.1 h2, within_iff.1 h3, within_iff.1 h4⟩
        · exact g1 x hx
      · subst hq
        have hqs := notUp_lt h5
        rcases List.mem_cons.1 hx with rfl | hx
        · exact hqs
        · have := g4 x hx
          unfold ltS at *
          omega
/-- What holds of a right machine. -/
structure MaOk (S N O T : Int) (l : List St4) : Prop where
  s : 1 ≤ S ∧ S ≤ 40
  n : 1 ≤ N ∧ N ≤ 8
  o : 1 ≤ O ∧ O ≤ 8
  t : 0 ≤ T ∧ T < S
  le : (l.length : Int) ≤ S * N
  len : l.length ≤ 320
  mem : ∀ x ∈ l, 0 ≤ x.f ∧ x.f < S ∧ 0 ≤ x.t ∧ x.t < S ∧ 0 ≤ x.i ∧ x.i < N ∧ 0 ≤ x.o ∧ x.o < O
  up : l.Pairwise ltS
theorem maOk_of {S N O T : Int} {l : List St4} (h : (machErr S N O T l).2 = 0) : MaOk S N O T l := by
  unfold machErr at h
  cases h1 : within S 1 40 with
  | false => rw [h1] at h; simp at h
  | true =>
  cases h2 : within N 1 8 with
  | false => rw [h1, h2] at h; simp at h
  | true =>
  cases h3 : within O 1 8 with
  | false => rw [h1, h2, h3] at h; simp at h
  | true =>
  cases h4 : within T 0 (w1 S) with
  | false => rw [h1, h2, h3, h4] at h; simp at h
  | true =>
    rw [h1, h2, h3, h4] at h
    simp only [if_true] at h
    rw [within_iff] at h1 h2 h3 h4
    have e1 : w1 S = S - 1 := by unfold w1; rw [wrapI ⟨by omega, by omega⟩]
    have e2 : w1 N = N - 1 := by unfold w1; rw [wrapI ⟨by omega, by omega⟩]
    have e3 : w1 O = O - 1 := by unfold w1; rw [wrapI ⟨by omega, by omega⟩]
    have hb : S * N ≤ 40 * 8 := Int.mul_le_mul h1.2 h2.2 (by omega) (by omega)
    have hb0 : 0 ≤ S * N := Int.mul_nonneg (by omega) (by omega)
    rw [wrapI ⟨by omega, by omega⟩] at h
    by_cases h5 : (l.length : Int) > S * N
    · rw [if_pos h5] at h; simp at h
    · rw [if_neg h5, e1, e2, e3] at h
      obtain ⟨g1, g2, _⟩ := stepsErr_zero h
      rw [e1] at h4
      refine ⟨h1, h2, h3, by omega, by omega, by omega, fun x hx => ?_, g2⟩
      have := g1 x hx
      obtain ⟨a, b, c, d⟩ := this
      omega
theorem r66 {K : Nat} (S N O T : Int) (l : List St4) (hl : l.length ≤ 4611686018427387904) (h : l.length + 9 ≤ K) : run tab K 26 [eM S N O T l] = some (I (machErr S N O T l).2) := by
  obtain ⟨K, rfl⟩ := succK (show 1 ≤ K by omega)
  have := r20 (K := K) S N O T l hl (by omega)
  unfold eM at *
  rw [eq26]; unfold sh26 tr26
  rw [this]; rfl
theorem r33 {K : Nat} (S N O T : Int) (l : List St4) (hl : l.length ≤ 4611686018427387904) (h : l.length + 9 ≤ K) : run tab K 6 [eM S N O T l] = some (I (machErr S N O T l).2) := by
  obtain ⟨K, rfl⟩ := succK (show 1 ≤ K by omega)
  have := r22 (K := K) S N O T l hl (by omega)
  unfold eM at *
  rw [eq6]; unfold sh6 tr6
  rw [this]; rfl
end Go.Proofs.YtahifpeggdcamaaGreatDoor
