/- A part of an interpreter of the model's code that is proved sound, and of laws told by it: DamO1. -/
import Derived.Test.YtahifpeggdcamaaDoorPnH4
set_option linter.unusedVariables false
set_option linter.unusedSimpArgs false
/- Right machines are accepted; the model's answers. -/
namespace Go.Proofs.YtahifpeggdcamaaDoor
open Go.Dam
set_option linter.unusedVariables false
set_option linter.unusedSimpArgs false
theorem notUp_of {p s : St4} (h : ltS p s) : notUp (some p) s = false := by
  simp only [notUp, decide_eq_false_iff_not]
  unfold ltS at h
  rcases cmpI_cases p.f s.f with ⟨h1, h2⟩ | ⟨h1, h2⟩ | ⟨h1, h2⟩
  · rw [h2]; simp [orI]
  · rcases cmpI_cases p.i s.i with ⟨g1, g2⟩ | ⟨g1, g2⟩ | ⟨g1, g2⟩
    · rw [h2, g2]; simp [orI]
    · omega
    · omega
  · omega
theorem stepsErr_of {S N O : Int} : ∀ {l : List St4} {i : Nat} {p : Option St4}, (∀ s ∈ l, InM S N O s) → l.Pairwise ltS → (∀ q, p = some q → ∀ s ∈ l, ltS q s) → stepsErr S N O i p l = (0, 0)
  | [], i, p, _, _, _ => rfl
  | s :: l, i, p, h1, h2, h3 => by
    obtain ⟨a, b, c, d⟩ := h1 s (by simp)
    obtain ⟨h4, h5⟩ := List.pairwise_cons.1 h2
    have hu : notUp p s = false := by
      cases p with
      | none => rfl
      | some q => exact notUp_of (h3 q rfl s (by simp))
    simp only [stepsErr, within_iff.2 a, within_iff.2 b, within_iff.2 c, within_iff.2 d, if_true, hu, Bool.false_eq_true, if_false]
    exact stepsErr_of (fun x hx => h1 x (by simp [hx])) h5 fun q hq x hx => by cases hq; exact h4 x hx
theorem MaOk.err {S N O T : Int} {l : List St4} (ok : MaOk S N O T l) : machErr S N O T l = (0, 0) := by
  obtain ⟨s1, s2⟩ := ok.s
  obtain ⟨n1, n2⟩ := ok.n
  obtain ⟨o1, o2⟩ := ok.o
  have hle := ok.le
  have e1 : w1 S = S - 1 := by unfold w1; rw [wrapI ⟨by omega, by omega⟩]
  have e2 : w1 N = N - 1 := by unfold w1; rw [wrapI ⟨by omega, by omega⟩]
  have e3 : w1 O = O - 1 := by unfold w1; rw [wrapI ⟨by omega, by omega⟩]
  have hb : S * N ≤ 40 * 8 := Int.mul_le_mul s2 n2 (by omega) (by omega)
  have hb0 : 0 ≤ S * N := Int.mul_nonneg (by omega) (by omega)
  unfold machErr
  rw [within_iff.2 ⟨s1, s2⟩, within_iff.2 ⟨n1, n2⟩, within_iff.2 ⟨o1, o2⟩, within_iff.2 (show 0 ≤ T ∧ T ≤ w1 S by have := ok.t; omega)]
  simp only [if_true]
  rw [wrapI ⟨by omega, by omega⟩, if_neg (by omega), e1, e2, e3]
  exact stepsErr_of (fun x hx => by
    obtain ⟨m1, m2, m3, m4, m5, m6, m7, m8⟩ := ok.mem x hx
    exact ⟨⟨m1, by omega⟩, ⟨m3, by omega⟩, ⟨m5, by omega⟩, ⟨m7, by omega⟩⟩) ok.up (by simp)
theorem l40 (K : Nat) {S N O T : Int} {l : List St4} (ok : MaOk S N O T l) (w : List Int) (hw : ∀ n ∈ w, 0 ≤ n ∧ n < N) (hl : w.length ≤ 1000) : ∀ (k i : Nat) (f : Int) (a b : List Int), w.length - i < k → 0 ≤ f ∧ f < S → a.length ≤ i → b.length ≤ i →
    lp40_7 K k f (tblT l S N) (ints a) (ints b) (ints w) (w.length : Int) (i : Int) = some (.tup [.sl 3 (ints (a ++ (ansS l f (w.drop i)).1)), .sl 3 (ints (b ++ (ansS l f (w.drop i)).2)), I 0])
  | 0, i, f, a, b, h, _, _, _ => by omega
  | k + 1, i, f, a, b, h, hf, ha, hb => by
    unfold lp40_7 tr40_7
    by_cases hi : i < w.length
    · obtain ⟨n1, n2⟩ := hw _ (List.getElem_mem hi)
      have g1 : (tblT l S N)[f.toNat]? = some (.sl 122 (rowT l N f.toNat)) := tblT_get (by omega)
      have g2 : (rowT l N f.toNat)[w[i].toNat]? = some (ptr (stp l f w[i])) := by
        rw [rowT_get (by omega), show ((f.toNat : Nat) : Int) = f by omega, show ((w[i].toNat : Nat) : Int) = w[i] by omega]
      rw [show decide ((i : Int) < (w.length : Int)) = true by simpa using hi, List.drop_eq_getElem_cons hi]
      simp only [if_pos (Int.natCast_nonneg i), ints_get hi, castI_I, if_pos hf.1, g1, castL_L, if_pos n1, g2, castP_ptr, castNil_ptr]
      cases hs : stp l f w[i] with
      | none => simp [ansS, hs]
      | some s =>
        have hm := ok.mem s (stp_some hs).1
        have q1 : ((ints a).length + ([I s.o] : List AV).length) * 8 ≤ maxBytes := by
          have : (2000 : Nat) * 8 ≤ maxBytes := by decide
          simp only [ints_len, List.length_cons, List.length_nil]; omega
        have q2 : ((ints b).length + ([I s.t] : List AV).length) * 8 ≤ maxBytes := by
          have : (2000 : Nat) * 8 ≤ maxBytes := by decide
          simp only [ints_len, List.length_cons, List.length_nil]; omega
        simp only [Option.isNone_some, castRef_ptr, castRef_ref, List.getD_cons_zero, List.getD_cons_succ, castI_I, if_pos q1, if_pos q2]
        rw [wrapN (by omega), ints_snoc, ints_snoc]
        refine (l40 K ok w hw hl k (i + 1) s.t (a ++ [s.o]) (b ++ [s.t]) (by omega) ⟨hm.2.2.1, hm.2.2.2.1⟩ (by simp; omega) (by simp; omega)).trans ?_
        simp only [ansS, hs, List.append_assoc, List.singleton_append]
    · have hd : w.drop i = [] := List.drop_eq_nil_of_le (by omega)
      rw [show decide ((i : Int) < (w.length : Int)) = false by simpa using hi, hd]
      simp [ansS]
def ansE (S N O T : Int) (l : List St4) (f : Int) (w : List Int) : Int := orI [(machErr S N O T l).2, if within f 0 (w1 S) then 0 else 3, wordE w N 60]
theorem r40 {K : Nat} (S N O T : Int) (l : List St4) (f : Int) (w : List Int) (hl : l.length ≤ 4611686018427387904) (hw : w.length ≤ 4611686018427387904) (hK : l.length + w.length + 20 ≤ K) :
    run tab K 40 [eM S N O T l, I f, .sl 3 (ints w)] = some (if ansE S N O T l f w = 0 then .tup [.sl 3 (ints (ansS l f w).1), .sl 3 (ints (ansS l f w).2), I 0] else .tup [.sl 3 [], .sl 3 [], I (ansE S N O T l f w)]) := by
  obtain ⟨K, rfl⟩ := succK (show 1 ≤ K by omega)
  have e66 := r66 (K := K) S N O T l hl (by omega)
  have e69 := r69 (K := K) w hw N (by omega)
  have r3 : ∀ a b c : Int, run tab K 61 [.sl 32 [I a, I b, I c]] = some (I (orI [a, b, c])) := fun a b c => r61 [a, b, c] (by simp) (by simp; omega)
  have e : ∀ b : Bool, (if b = true then (0 : Int) else 3) = if b then 0 else 3 := fun _ => rfl
  by_cases h0 : ansE S N O T l f w = 0
  · rw [if_pos h0]
    have hz := orI_zero h0
    have z1 : (machErr S N O T l).2 = 0 := hz _ (by simp)
    have z2 : within f 0 (w1 S) = true := by
      have := hz (if within f 0 (w1 S) then 0 else 3) (by simp)
      cases hh : within f 0 (w1 S) with
      | true => rfl
      | false => rw [hh] at this; simp at this
    have z3 : wordE w N 60 = 0 := hz _ (by simp)
    have ok := maOk_of z1
    have e67 := r67 (K := K) (by omega) ok
    obtain ⟨s1, s2⟩ := ok.s
    obtain ⟨n1, n2⟩ := ok.n
    have z2' := z2
    rw [within_iff, show w1 S = S - 1 by unfold w1; rw [wrapI ⟨by omega, by omega⟩]] at z2'
    obtain ⟨w2, w3⟩ := wordE_ok z3
    have w4 : ∀ n ∈ w, 0 ≤ n ∧ n < N := fun n hn => by
      have := w3 n hn
      rw [within_iff, show w1 N = N - 1 by unfold w1; rw [wrapI ⟨by omega, by omega⟩]] at this
      omega
    have main := l40 K ok w w4 (by omega) K 0 f [] [] (by omega) (by omega) (by simp) (by simp)
    have z2w : within f 0 (IntKind.i64.wrap (S - 1)) = true := z2
    unfold eM at *
    rw [eq40]; unfold sh40 tr40
    simp only [e66, castI_I, r57 (show 1 ≤ K by omega), z2w, castB_B, r62 (show 1 ≤ K by omega), e69, z1, z3, r3, if_true]
    rw [show (orI [0, 0, 0] != 0) = false from rfl]
    simp only [e67, castL_L, ints_len]
    exact main
  · rw [if_neg h0]
    unfold ansE at *
    have ew : within f 0 (IntKind.i64.wrap (S - 1)) = within f 0 (w1 S) := rfl
    unfold eM at *
    rw [eq40]; unfold sh40 tr40
    simp only [e66, castI_I, r57 (show 1 ≤ K by omega), ew, castB_B, r62 (show 1 ≤ K by omega), e69, r3]
    rw [show (orI [(machErr S N O T l).2, if within f 0 (w1 S) = true then 0 else 3, wordE w N 60] != 0) = true by simpa using h0]
end Go.Proofs.YtahifpeggdcamaaDoor
