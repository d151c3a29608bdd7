/- A part of an interpreter of the model's code that is proved sound, and of laws told by it: DamLaw6. -/
import Derived.Test.YtahifpeggdcamaaDoorPmH4
import Derived.Test.YtahifpeggdcamaaDoorPmE4
set_option linter.unusedVariables false
set_option linter.unusedSimpArgs false
/- The laws ModelCompletes and ModelDifferences: told true of each well-formed input. -/
namespace Go.Proofs.YtahifpeggdcamaaDoor
open Go.Dam
theorem law6 (av : List AV) (hl : av.length = [30].length) (h : ∀ j t, [30][j]? = some t → WfA tab t (av.getD j .undef)) : ∃ k, run tab k 6 av = some (.sc (.bool true)) := by
  match av, hl with
  | [a], _ =>
    obtain ⟨S, N, O, T, l, rfl, h1⟩ := dec30 (h 0 30 rfl)
    have e13 := awake_run (l.length + 500)
    exact ⟨l.length + 540 + 1, r6 (K := l.length + 540) S N O T l h1 (by omega) e13⟩
theorem law8 (av : List AV) (hl : av.length = [30, 30].length) (h : ∀ j t, [30, 30][j]? = some t → WfA tab t (av.getD j .undef)) : ∃ k, run tab k 8 av = some (.sc (.bool true)) := by
  match av, hl with
  | [a, b], _ =>
    obtain ⟨S, N, O, T, l, rfl, h1⟩ := dec30 (h 0 30 rfl)
    obtain ⟨S', N', O', T', l', rfl, h2⟩ := dec30 (h 1 30 rfl)
    have e13 := awake_run (l.length + l'.length + 2100)
    exact ⟨l.length + l'.length + 2140 + 1, r8 (K := l.length + l'.length + 2140) S N O T l S' N' O' T' l' h1 h2 (by omega) e13⟩
end Go.Proofs.YtahifpeggdcamaaDoor
