/- A part of an interpreter of the model's code that is proved sound, and of laws told by it: DamLaw11. -/
import Derived.Test.YtahifpeggdcamaaDoorPoJ8
import Derived.Test.YtahifpeggdcamaaDoorPoE4
set_option linter.unusedVariables false
set_option linter.unusedSimpArgs false
/- The law ModelMinimal: told true of each well-formed input. -/
namespace Go.Proofs.YtahifpeggdcamaaDoor
open Go.Dam
theorem law11 (av : List AV) (hl : av.length = [30].length) (h : ∀ j t, [30][j]? = some t → WfA tab t (av.getD j .undef)) : ∃ k, run tab k 11 av = some (.sc (.bool true)) := by
  match av, hl with
  | [a], _ =>
    obtain ⟨S, N, O, T, l, rfl, h1⟩ := dec30 (h 0 30 rfl)
    have e13 := awake_run (l.length + 3000)
    exact ⟨l.length + 3040 + 1, r11 (K := l.length + 3040) S N O T l h1 (by omega) e13⟩
end Go.Proofs.YtahifpeggdcamaaDoor
