/- A part of an interpreter of the model's code that is proved sound, and of laws told by it: DamN4, DamO1, DamN5. -/
import Derived.Test.YtahifpeggdcamaaDoorPpH3
set_option linter.unusedVariables false
set_option linter.unusedSimpArgs false
/- The law ModelDifferences. -/
namespace Go.Proofs.YtahifpeggdcamaaDoor
open Go.Dam
set_option linter.unusedVariables false
set_option linter.unusedSimpArgs false
end Go.Proofs.YtahifpeggdcamaaDoor

/- Right machines are accepted; the model's answers. -/
namespace Go.Proofs.YtahifpeggdcamaaDoor
open Go.Dam
set_option linter.unusedVariables false
set_option linter.unusedSimpArgs false
theorem notUp_of {p s : St4} (h : ltS p s) : notUp (some p) s = false := by
  simp only [notUp, decide_eq_false_iff_not]
  unfold ltS at h
  rcases cmpI_cases p.f s.f with ⟨h1, h2⟩ | ⟨h1, h2⟩ | ⟨h1, h2⟩
  · rw [h2]; simp [orI]
  · rcases cmpI_cases p.i s.i with ⟨g1, g2⟩ | ⟨g1, g2⟩ | ⟨g1, g2⟩
    · rw [h2, g2]; simp [orI]
    · omega
    · omega
  · omega
theorem stepsErr_of {S N O : Int} : ∀ {l : List St4} {i : Nat} {p : Option St4}, (∀ s ∈ l, InM S N O s) → l.Pairwise ltS → (∀ q, p = some q → ∀ s ∈ l, ltS q s) → stepsErr S N O i p l = (0, 0)
  | [], i, p, _, _, _ => rfl
  | s :: l, i, p, h1, h2, h3 => by
    obtain ⟨a, b, c, d⟩ := h1 s (by simp)
    obtain ⟨h4, h5⟩ := List.pairwise_cons.1 h2
    have hu : notUp p s = false := by
      cases p with
      | none => rfl
      | some q => exact notUp_of (h3 q rfl s (by simp))
    simp only [stepsErr, within_iff.2 a, within_iff.2 b, within_iff.2 c, within_iff.2 d, if_true, hu, Bool.false_eq_true, if_false]
    exact stepsErr_of (fun x hx => h1 x (by simp [hx])) h5 fun q hq x hx => by cases hq; exact h4 x hx
theorem MaOk.err {S N O T : Int} {l : List St4} (ok : MaOk S N O T l) : machErr S N O T l = (0, 0) := by
  obtain ⟨s1, s2⟩ := ok.s
  obtain ⟨n1, n2⟩ := ok.n
  obtain ⟨o1, o2⟩ := ok.o
  have hle := ok.le
  have e1 : w1 S = S - 1 := by unfold w1; rw [wrapI ⟨by omega, by omega⟩]
  have e2 : w1 N = N - 1 := by unfold w1; rw [wrapI ⟨by omega, by omega⟩]
  have e3 : w1 O = O - 1 := by unfold w1; rw [wrapI ⟨by omega, by omega⟩]
  have hb : S * N ≤ 40 * 8 := Int.mul_le_mul s2 n2 (by omega) (by omega)
  have hb0 : 0 ≤ S * N := Int.mul_nonneg (by omega) (by omega)
  unfold machErr
  rw [within_iff.2 ⟨s1, s2⟩, within_iff.2 ⟨n1, n2⟩, within_iff.2 ⟨o1, o2⟩, within_iff.2 (show 0 ≤ T ∧ T ≤ w1 S by have := ok.t; omega)]
  simp only [if_true]
  rw [wrapI ⟨by omega, by omega⟩, if_neg (by omega), e1, e2, e3]
  exact stepsErr_of (fun x hx => by
    obtain ⟨m1, m2, m3, m4, m5, m6, m7, m8⟩ := ok.mem x hx
    exact ⟨⟨m1, by omega⟩, ⟨m3, by omega⟩, ⟨m5, by omega⟩, ⟨m7, by omega⟩⟩) ok.up (by simp)
end Go.Proofs.YtahifpeggdcamaaDoor

/- Completed machines are right machines; the search goes on them as before. -/
namespace Go.Proofs.YtahifpeggdcamaaDoor
open Go.Dam
set_option linter.unusedVariables false
set_option linter.unusedSimpArgs false
theorem difT_ok {S N O T S' O' T' : Int} {l l' : List St4} (ok : MaOk S N O T l) (ok' : MaOk S' N O' T' l') : difT S N O T l S' N O' T' l' = resD (searchM l l' N T T') := by
  unfold difT difE
  rw [ok.err, ok'.err, if_pos rfl]; simp [orI]
end Go.Proofs.YtahifpeggdcamaaDoor
