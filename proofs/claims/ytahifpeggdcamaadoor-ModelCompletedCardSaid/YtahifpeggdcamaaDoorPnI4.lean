/- A part of an interpreter of the model's code that is proved sound, and of laws told by it: DamLaw9. -/
import Derived.Test.YtahifpeggdcamaaDoorPnI3
import Derived.Test.YtahifpeggdcamaaDoorPnE4
set_option linter.unusedVariables false
set_option linter.unusedSimpArgs false
/- The law ModelCompleted: told true of each well-formed input. -/
namespace Go.Proofs.YtahifpeggdcamaaDoor
open Go.Dam
theorem law9 (av : List AV) (hl : av.length = [30, 30].length) (h : ∀ j t, [30, 30][j]? = some t → WfA tab t (av.getD j .undef)) : ∃ k, run tab k 9 av = some (.sc (.bool true)) := by
  match av, hl with
  | [a, b], _ =>
    obtain ⟨S, N, O, T, l, rfl, h1⟩ := dec30 (h 0 30 rfl)
    obtain ⟨S', N', O', T', l', rfl, h2⟩ := dec30 (h 1 30 rfl)
    have e13 := awake_run (l.length + l'.length + 3000)
    exact ⟨l.length + l'.length + 3040 + 1, r9 (K := l.length + l'.length + 3040) S N O T l S' N' O' T' l' h1 h2 (by omega) e13⟩
end Go.Proofs.YtahifpeggdcamaaDoor
