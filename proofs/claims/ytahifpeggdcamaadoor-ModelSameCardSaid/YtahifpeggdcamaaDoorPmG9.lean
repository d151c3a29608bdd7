/- A part of an interpreter of the model's code that is proved sound, and of laws told by it: DamLaw5. -/
import Derived.Test.YtahifpeggdcamaaDoorPmG8
import Derived.Test.YtahifpeggdcamaaDoorPmE4
set_option linter.unusedVariables false
set_option linter.unusedSimpArgs false
/- The laws ModelNexts, ModelRuns and ModelUnfolds: told true of each well-formed input. -/
namespace Go.Proofs.YtahifpeggdcamaaDoor
open Go.Dam
theorem dec22 {a : AV} (h : WfA tab 22 a) : ∃ l : List Int, a = .sl 3 (ints l) ∧ l.length * 8 ≤ maxBytes := by
  obtain ⟨z, s, b, hi, _, h2⟩ := h
  have hi' : tabInfo 22 = some (z, s, b) := hi
  cases hi'
  have := h2 0 (by omega)
  rw [elCell_eq] at this
  obtain ⟨l, z, s, b, hn, i4, w4, d4⟩ := wf_sl this
  cases i4
  obtain ⟨g4, rfl, _⟩ := wf_map I (fun _ => True) fun x hx => dec3 (d4 x hx)
  have e : a = .sl 3 (g4.map I) := hn
  simp only [List.length_map] at w4
  exact ⟨g4, e, reach_max w4⟩
theorem law3 (av : List AV) (hl : av.length = [26].length) (h : ∀ j t, [26][j]? = some t → WfA tab t (av.getD j .undef)) : ∃ k, run tab k 3 av = some (.sc (.bool true)) := by
  match av, hl with
  | [a], _ =>
    obtain ⟨m, rfl, g1, g2, g3, g4⟩ := dec26 (h 0 26 rfl)
    have e13 := awake_run (moNeed m + 800)
    exact ⟨moNeed m + 837 + 4, r3 (K := moNeed m + 837) m (moFit_of g1 g2 g3 g4 (by omega)) (by omega) e13⟩
theorem law5 (av : List AV) (hl : av.length = [26, 22, 3].length) (h : ∀ j t, [26, 22, 3][j]? = some t → WfA tab t (av.getD j .undef)) : ∃ k, run tab k 5 av = some (.sc (.bool true)) := by
  match av, hl with
  | [a, b, c], _ =>
    obtain ⟨m, rfl, g1, g2, g3, g4⟩ := dec26 (h 0 26 rfl)
    obtain ⟨l, rfl, h1⟩ := dec22 (h 1 22 rfl)
    obtain ⟨j, rfl, _⟩ := dec3 (h 2 3 rfl)
    have e13 := awake_run (l.length + moNeed m + 50)
    exact ⟨l.length + moNeed m + 87 + 4, r5 (K := l.length + moNeed m + 87) m l j (moFit_of g1 g2 g3 g4 (by omega)) h1 (by unfold moNeed; omega) e13⟩
theorem law7 (av : List AV) (hl : av.length = [26, 22].length) (h : ∀ j t, [26, 22][j]? = some t → WfA tab t (av.getD j .undef)) : ∃ k, run tab k 7 av = some (.sc (.bool true)) := by
  match av, hl with
  | [a, b], _ =>
    obtain ⟨m, rfl, g1, g2, g3, g4⟩ := dec26 (h 0 26 rfl)
    obtain ⟨l, rfl, h1⟩ := dec22 (h 1 22 rfl)
    have e13 := awake_run (l.length + moNeed m + 50)
    exact ⟨l.length + moNeed m + 87 + 4, r7 (K := l.length + moNeed m + 87) m l (moFit_of g1 g2 g3 g4 (by omega)) h1 (by omega) e13⟩
end Go.Proofs.YtahifpeggdcamaaDoor
