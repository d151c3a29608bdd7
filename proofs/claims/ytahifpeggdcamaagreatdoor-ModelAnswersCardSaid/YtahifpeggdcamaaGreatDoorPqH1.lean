/- A part of an interpreter of the model's code that is proved sound, and of laws told by it: DamN1. -/
import Derived.Test.YtahifpeggdcamaaGreatDoorPqG1
set_option linter.unusedVariables false
set_option linter.unusedSimpArgs false
/- Right machines: steps by state and input; the reference's ways along a word. -/
namespace Go.Proofs.YtahifpeggdcamaaGreatDoor
open Go.Dam
set_option linter.unusedVariables false
set_option linter.unusedSimpArgs false
def hit (f n : Int) (s : St4) : Bool := s.f == f && s.i == n
/-- The step from a state by an input. -/
def stp (l : List St4) (f n : Int) : Option St4 := l.find? (hit f n)
def ltS (a b : St4) : Prop := a.f < b.f ∨ (a.f = b.f ∧ a.i < b.i)
theorem cmpI_cases (a b : Int) : (a < b ∧ cmpI a b = -1) ∨ (a = b ∧ cmpI a b = 0) ∨ (b < a ∧ cmpI a b = 1) := by
  unfold cmpI
  by_cases h : a < b
  · exact .inl ⟨h, by rw [if_pos h]⟩
  · by_cases h2 : a > b
    · exact .inr (.inr ⟨h2, by rw [if_neg h, if_pos h2]⟩)
    · exact .inr (.inl ⟨by omega, by rw [if_neg h, if_neg h2]⟩)
theorem notUp_lt {p s : St4} (h : notUp (some p) s = false) : ltS p s := by
  simp only [notUp, decide_eq_false_iff_not] at h
  unfold ltS
  rcases cmpI_cases p.f s.f with ⟨h1, h2⟩ | ⟨h1, h2⟩ | ⟨h1, h2⟩
  · exact .inl h1
  · rcases cmpI_cases p.i s.i with ⟨g1, g2⟩ | ⟨g1, g2⟩ | ⟨g1, g2⟩
    · exact .inr ⟨h1, g1⟩
    · rw [h2, g2] at h; simp [orI] at h
    · rw [h2, g2] at h; simp [orI] at h
  · rw [h2] at h; simp [orI] at h
/-- A step lies within a machine. -/
structure InM (S N O : Int) (s : St4) : Prop where
  f : 0 ≤ s.f ∧ s.f ≤ S
  t : 0 ≤ s.t ∧ s.t ≤ S
  i : 0 ≤ s.i ∧ s.i ≤ N
  o : 0 ≤ s.o ∧ s.o ≤ O
theorem stepsErr_zero {S N O : Int} : ∀ {l : List St4} {i : Nat} {p : Option St4}, (stepsErr S N O i p l).2 = 0 → (∀ s ∈ l, InM S N O s) ∧ l.Pairwise ltS ∧ ∀ q, p = some q → ∀ s ∈ l, ltS q s
  | [], i, p, _ => ⟨by simp, List.Pairwise.nil, by simp⟩
  | s :: l, i, p, h => by
    simp only [stepsErr] at h
    cases h1 : within s.f 0 S with
    | false => rw [h1] at h; simp at h
    | true =>
    cases h2 : within s.t 0 S with
    | false => rw [h1, h2] at h; simp at h
    | true =>
    cases h3 : within s.i 0 N with
    | false => rw [h1, h2, h3] at h; simp at h
    | true =>
    cases h4 : within s.o 0 O with
    | false => rw [h1, h2, h3, h4] at h; simp at h
    | true =>
    cases h5 : notUp p s with
    | true => rw [h1, h2, h3, h4, h5] at h; simp at h
    | false =>
      rw [h1, h2, h3, h4, h5] at h
      simp only [if_true, Bool.false_eq_true, if_false] at h
      obtain ⟨g1, g2, g3⟩ := stepsErr_zero h
      have g4 := g3 s rfl
      refine ⟨fun x hx => ?_, List.pairwise_cons.2 ⟨g4, g2⟩, fun q hq x hx => ?_⟩
      · rcases List.mem_cons.1 hx with rfl | hx
        · exact ⟨within_iff.1 h1, within_iff.1 h2, within_iff.1 h3, within_iff.1 h4⟩
        · exact g1 x hx
      · subst hq
        have hqs := notUp_lt h5
        rcases List.mem_cons.1 hx with rfl | hx
        · exact hqs
        · have := g4 x hx
          unfold ltS at *
          omega
/-- What holds of a right machine. -/
structure MaOk (S N O T : Int) (l : List St4) : Prop where
  s : 1 ≤ S ∧ S ≤ 40
  n : 1 ≤ N ∧ N ≤ 8
  o : 1 ≤ O ∧ O ≤ 8
  t : 0 ≤ T ∧ T < S
  le : (l.length : Int) ≤ S * N
  len : l.length ≤ 320
  mem : ∀ x ∈ l, 0 ≤ x.f ∧ x.f < S ∧ 0 ≤ x.t ∧ x.t < S ∧ 0 ≤ x.i ∧ x.i < N ∧ 0 ≤ x.o ∧ x.o < O
  up : l.Pairwise ltS
theorem maOk_of {S N O T : Int} {l : List St4} (h : (machErr S N O T l).2 = 0) : MaOk S N O T l := by
  unfold machErr at h
  cases h1 : within S 1 40 with
  | false => rw [h1] at h; simp at h
  | true =>
  cases h2 : within N 1 8 with
  | false => rw [h1, h2] at h; simp at h
  | true =>
  cases h3 : within O 1 8 with
  | false => rw [h1, h2, h3] at h; simp at h
  | true =>
  cases h4 : within T 0 (w1 S) with
  | false => rw [h1, h2, h3, h4] at h; simp at h
  | true =>
    rw [h1, h2, h3, h4] at h
    simp only [if_true] at h
    rw [within_iff] at h1 h2 h3 h4
    have e1 : w1 S = S - 1 := by unfold w1; rw [wrapI ⟨by omega, by omega⟩]
    have e2 : w1 N = N - 1 := by unfold w1; rw [wrapI ⟨by omega, by omega⟩]
    have e3 : w1 O = O - 1 := by unfold w1; rw [wrapI ⟨by omega, by omega⟩]
    have hb : S * N ≤ 40 * 8 := Int.mul_le_mul h1.2 h2.2 (by omega) (by omega)
    have hb0 : 0 ≤ S * N := Int.mul_nonneg (by omega) (by omega)
    rw [wrapI ⟨by omega, by omega⟩] at h
    by_cases h5 : (l.length : Int) > S * N
    · rw [if_pos h5] at h; simp at h
    · rw [if_neg h5, e1, e2, e3] at h
      obtain ⟨g1, g2, _⟩ := stepsErr_zero h
      rw [e1] at h4
      refine ⟨h1, h2, h3, by omega, by omega, by omega, fun x hx => ?_, g2⟩
      have := g1 x hx
      obtain ⟨a, b, c, d⟩ := this
      omega
theorem hit_iff {f n : Int} {s : St4} : hit f n s = true ↔ s.f = f ∧ s.i = n := by unfold hit; simp
/-- In a right machine no other step begins alike. -/
theorem up_unique {l : List St4} (h : l.Pairwise ltS) {a b : St4} (ha : a ∈ l) (hb : b ∈ l) (h1 : a.f = b.f) (h2 : a.i = b.i) : a = b := by
  induction h with
  | nil => simp at ha
  | cons h _ ih =>
    rcases List.mem_cons.1 ha with e1 | ha'
    · rcases List.mem_cons.1 hb with e2 | hb'
      · rw [e1, e2]
      · have := h b hb'; rw [← e1] at this; unfold ltS at this; omega
    · rcases List.mem_cons.1 hb with e2 | hb'
      · have := h a ha'; rw [← e2] at this; unfold ltS at this; omega
      · exact ih ha' hb'
theorem stp_some {l : List St4} {f n : Int} {s : St4} (h : stp l f n = some s) : s ∈ l ∧ s.f = f ∧ s.i = n := by
  unfold stp at h
  have h1 := List.find?_some h
  exact ⟨List.mem_of_find?_eq_some h, hit_iff.1 h1⟩
theorem stp_none {l : List St4} {f n : Int} (h : stp l f n = none) : ∀ s ∈ l, ¬ (s.f = f ∧ s.i = n) := by
  unfold stp at h
  rw [List.find?_eq_none] at h
  intro s hs
  have := h s hs
  rwa [hit_iff] at this
/-- The index of a step. -/
def stepAt (l : List St4) (f n : Int) : Int := idx (hit f n) 0 l
theorem stepAt_none {l : List St4} {f n : Int} (h : stp l f n = none) : stepAt l f n = -1 := by
  unfold stepAt
  rcases idx_cases (hit f n) l 0 with ⟨h1, _⟩ | ⟨j, hj, h1, h2⟩
  · exact h1
  · exact absurd (hit_iff.1 h2) (stp_none h _ (List.getElem_mem hj))
theorem stepAt_some : ∀ {l : List St4} {f n : Int} {s : St4} (i : Nat), stp l f n = some s → ∃ j : Nat, ∃ h : j < l.length, idx (hit f n) i l = ((i + j : Nat) : Int) ∧ l[j] = s
  | [], f, n, s, i, h => by simp [stp] at h
  | a :: l, f, n, s, i, h => by
    unfold stp at h
    unfold idx
    cases hh : hit f n a with
    | true =>
      rw [List.find?_cons_of_pos hh] at h
      cases h
      exact ⟨0, by simp, by simp, rfl⟩
    | false =>
      rw [List.find?_cons_of_neg (by simp [hh])] at h
      obtain ⟨j, hj, h1, h2⟩ := stepAt_some (i + 1) (show stp l f n = some s from h)
      simp only [Bool.false_eq_true, if_false]
      exact ⟨j + 1, by simpa using hj, by rw [h1]; omega, by simpa using h2⟩
theorem r66 {K : Nat} (S N O T : Int) (l : List St4) (hl : l.length ≤ 4611686018427387904) (h : l.length + 9 ≤ K) : run tab K 26 [eM S N O T l] = some (I (machErr S N O T l).2) := by
  obtain ⟨K, rfl⟩ := succK (show 1 ≤ K by omega)
  have := r20 (K := K) S N O T l hl (by omega)
  unfold eM at *
  rw [eq26]; unfold sh26 tr26
  rw [this]; rfl
theorem r33 {K : Nat} (S N O T : Int) (l : List St4) (hl : l.length ≤ 4611686018427387904) (h : l.length + 9 ≤ K) : run tab K 6 [eM S N O T l] = some (I (machErr S N O T l).2) := by
  obtain ⟨K, rfl⟩ := succK (show 1 ≤ K by omega)
  have := r22 (K := K) S N O T l hl (by omega)
  unfold eM at *
  rw [eq6]; unfold sh6 tr6
  rw [this]; rfl
theorem l68 (K : Nat) (S N O T f n : Int) (l : List St4) (hl : l.length ≤ 4611686018427387904) : ∀ (k i : Nat), l.length - i < k → lp31_2 K k f n (i : Int) S N O T (steps l) = some (I (idx (hit f n) i (l.drop i)))
  | 0, i, h => by omega
  | k + 1, i, h => by
    unfold lp31_2 tr31_2
    rw [steps_len]
    by_cases hi : i < l.length
    · have ih := l68 K S N O T f n l hl k (i + 1) (by omega)
      rw [← wrapN (by omega)] at ih
      rw [show decide ((i : Int) < (l.length : Int)) = true by simpa using hi, List.drop_eq_getElem_cons hi]
      simp only [if_pos (Int.natCast_nonneg i), steps_get hi, eS0, eS1, castI_I, idx, hit]
      by_cases h1 : (l[i].f == f) = true
      · simp only [h1, Bool.true_and]
        by_cases h2 : (l[i].i == n) = true
        · simp only [h2, if_true]
        · simp only [Bool.not_eq_true] at h2
          simp only [h2, Bool.false_eq_true, if_false]
          exact ih
      · simp only [Bool.not_eq_true] at h1
        simp only [h1, Bool.false_and, Bool.false_eq_true, if_false]
        exact ih
    · rw [show decide ((i : Int) < (l.length : Int)) = false by simpa using hi, List.drop_eq_nil_of_le (by omega)]
      rfl
theorem r68 {K : Nat} (S N O T f n : Int) (l : List St4) (hl : l.length ≤ 4611686018427387904) (hK : l.length + 2 ≤ K) : run tab K 31 [eM S N O T l, I f, I n] = some (I (stepAt l f n)) := by
  obtain ⟨K, rfl⟩ := succK (show 1 ≤ K by omega)
  unfold eM
  rw [eq31]; unfold sh31 tr31
  exact l68 K S N O T f n l hl K 0 (by omega)
/-- Outputs and states along a word, up to where it stops. -/
def ansS (l : List St4) : Int → List Int → List Int × List Int
  | _, [] => ([], [])
  | f, n :: w => match stp l f n with
    | some s => (s.o :: (ansS l s.t w).1, s.t :: (ansS l s.t w).2)
    | none => ([], [])
theorem ansS_len (l : List St4) : ∀ (w : List Int) (f : Int), (ansS l f w).1.length = (ansS l f w).2.length ∧ (ansS l f w).1.length ≤ w.length
  | [], f => by simp [ansS]
  | n :: w, f => by
    cases hs : stp l f n with
    | none => simp [ansS, hs]
    | some s =>
      have := ansS_len l w s.t
      simp [ansS, hs]; omega
/-- The indexes of the steps. -/
def takS (l : List St4) : Int → List Int → List Int
  | _, [] => []
  | f, n :: w => match stp l f n with
    | some s => stepAt l f n :: takS l s.t w
    | none => []
theorem l77 (K : Nat) (S N O T : Int) (l : List St4) (hl : l.length ≤ 1000) (hK : l.length + 2 ≤ K) (w : List Int) (hw : w.length ≤ 1000) : ∀ (k i : Nat) (f : Int) (acc : List Int), w.length - i < k → acc.length ≤ i →
    lp37_3 K k f (ints w) (ints acc) (i : Int) S N O T (steps l) = some (.sl 3 (ints (acc ++ takS l f (w.drop i))))
  | 0, i, f, acc, h, _ => by omega
  | k + 1, i, f, acc, h, ha => by
    unfold lp37_3 tr37_3
    rw [ints_len]
    by_cases hi : i < w.length
    · have e68 := r68 (K := K) S N O T f w[i] l (by omega) hK
      unfold eM at e68
      rw [show decide ((i : Int) < (w.length : Int)) = true by simpa using hi, List.drop_eq_getElem_cons hi]
      simp only [if_pos (Int.natCast_nonneg i), ints_get hi, castI_I, e68, takS]
      cases hs : stp l f w[i] with
      | none =>
        rw [stepAt_none hs]
        simp
      | some s =>
        obtain ⟨j, hj, h1, h2⟩ := stepAt_some 0 hs
        have h1' : stepAt l f w[i] = (j : Int) := by unfold stepAt; rw [h1]; simp
        have hq : ((ints acc).length + ([I (j : Int)] : List AV).length) * 8 ≤ maxBytes := by
          have : (2000 : Nat) * 8 ≤ maxBytes := by decide
          simp only [ints_len, List.length_cons, List.length_nil]; omega
        rw [h1', show ((j : Int) == -1) = false by simp]
        simp only [if_pos hq, if_pos (Int.natCast_nonneg j), steps_get hj, h2, eS3, castI_I]
        rw [wrapN (by omega), ints_snoc]
        refine (l77 K S N O T l hl hK w hw k (i + 1) s.t (acc ++ [(j : Int)]) (by omega) (by simp; omega)).trans ?_
        simp only [List.append_assoc, List.singleton_append]
    · rw [show decide ((i : Int) < (w.length : Int)) = false by simpa using hi, List.drop_eq_nil_of_le (by omega)]
      simp [takS]
theorem r77 {K : Nat} (S N O T f : Int) (l : List St4) (hl : l.length ≤ 1000) (w : List Int) (hw : w.length ≤ 1000) (hK : l.length + w.length + 4 ≤ K) : run tab K 37 [eM S N O T l, I f, .sl 3 (ints w)] = some (.sl 3 (ints (takS l f w))) := by
  obtain ⟨K, rfl⟩ := succK (show 1 ≤ K by omega)
  unfold eM
  rw [eq37]; unfold sh37 tr37
  exact l77 K S N O T l hl (by omega) w hw K 0 f [] (by omega) (by simp)
theorem takS_spec (l : List St4) : ∀ (w : List Int) (f : Int), (takS l f w).length = (ansS l f w).1.length ∧ ∀ (j : Nat) (hj : j < (takS l f w).length), ∃ q : Nat, ∃ hq : q < l.length, (takS l f w)[j] = (q : Int) ∧ (ansS l f w).1[j]? = some l[q].o ∧ (ansS l f w).2[j]? = some l[q].t
  | [], f => by simp [takS, ansS]
  | n :: w, f => by
    cases hs : stp l f n with
    | none => simp [takS, ansS, hs]
    | some s =>
      obtain ⟨h1, h2⟩ := takS_spec l w s.t
      have e1 : takS l f (n :: w) = stepAt l f n :: takS l s.t w := by simp only [takS, hs]
      have e2 : ansS l f (n :: w) = (s.o :: (ansS l s.t w).1, s.t :: (ansS l s.t w).2) := by simp only [ansS, hs]
      rw [e1, e2]
      refine ⟨by simp [h1], fun j hj => ?_⟩
      cases j with
      | zero =>
        obtain ⟨q, hq, g1, g2⟩ := stepAt_some 0 hs
        refine ⟨q, hq, ?_, ?_, ?_⟩
        · simp only [List.getElem_cons_zero]; unfold stepAt; rw [g1]; simp
        · simp [g2]
        · simp [g2]
      | succ j =>
        obtain ⟨q, hq, g1, g2, g3⟩ := h2 j (by simpa using hj)
        exact ⟨q, hq, by simpa using g1, by simpa using g2, by simpa using g3⟩
theorem l43 (K : Nat) (S N O T f : Int) (l : List St4) (w : List Int) (hw : w.length ≤ 1000) : ∀ (k i : Nat), (takS l f w).length - i < k → i ≤ (takS l f w).length →
    lp16_4 K k (ints ((ansS l f w).1.take i)) (ints ((ansS l f w).2.take i)) (ints (takS l f w)) (i : Int) S N O T (steps l) = some (.tup [.sl 3 (ints (ansS l f w).1), .sl 3 (ints (ansS l f w).2)])
  | 0, i, h, _ => by omega
  | k + 1, i, h, hil => by
    obtain ⟨h1, h2⟩ := takS_spec l w f
    obtain ⟨h3, h4⟩ := ansS_len l w f
    unfold lp16_4 tr16_4
    rw [ints_len]
    by_cases hi : i < (takS l f w).length
    · obtain ⟨q, hq, g1, g2, g3⟩ := h2 i hi
      have hi1 : i < (ansS l f w).1.length := by omega
      have hi2 : i < (ansS l f w).2.length := by omega
      have a1 : (ansS l f w).1[i] = l[q].o := by rw [List.getElem?_eq_getElem hi1] at g2; exact Option.some.inj g2
      have a2 : (ansS l f w).2[i] = l[q].t := by rw [List.getElem?_eq_getElem hi2] at g3; exact Option.some.inj g3
      have q1 : ((ints ((ansS l f w).1.take i)).length + ([I l[q].o] : List AV).length) * 8 ≤ maxBytes := by
        have : (2000 : Nat) * 8 ≤ maxBytes := by decide
        simp only [ints_len, List.length_cons, List.length_nil, List.length_take]; omega
      have q2 : ((ints ((ansS l f w).2.take i)).length + ([I l[q].t] : List AV).length) * 8 ≤ maxBytes := by
        have : (2000 : Nat) * 8 ≤ maxBytes := by decide
        simp only [ints_len, List.length_cons, List.length_nil, List.length_take]; omega
      rw [show decide ((i : Int) < ((takS l f w).length : Int)) = true by simpa using hi]
      simp only [if_pos (Int.natCast_nonneg i), ints_get hi, castI_I, g1, if_pos (Int.natCast_nonneg q), steps_get hq, eS2, eS3, if_pos q1, if_pos q2]
      rw [wrapN (by omega), ints_snoc, ints_snoc, ← a1, ← a2, ← List.take_succ_eq_append_getElem hi1, ← List.take_succ_eq_append_getElem hi2]
      exact l43 K S N O T f l w hw k (i + 1) (by omega) (by omega)
    · rw [show decide ((i : Int) < ((takS l f w).length : Int)) = false by simpa using hi, List.take_of_length_le (by omega), List.take_of_length_le (by omega)]
theorem r43 {K : Nat} (S N O T f : Int) (l : List St4) (hl : l.length ≤ 1000) (w : List Int) (hw : w.length ≤ 1000) (hK : l.length + w.length + 5 ≤ K) : run tab K 16 [eM S N O T l, I f, .sl 3 (ints w)] = some (.tup [.sl 3 (ints (ansS l f w).1), .sl 3 (ints (ansS l f w).2)]) := by
  obtain ⟨K, rfl⟩ := succK (show 1 ≤ K by omega)
  have e77 := r77 (K := K) S N O T f l hl w hw (by omega)
  have h1 := (takS_spec l w f).1
  have h2 := (ansS_len l w f).2
  unfold eM at *
  rw [eq16]; unfold sh16 tr16
  rw [e77]
  simp only [castL_L]
  exact l43 K S N O T f l w hw K 0 (by omega) (by omega)
end Go.Proofs.YtahifpeggdcamaaGreatDoor
