/- A part of an interpreter of the model's code that is proved sound, and of laws told by it: DamLaw10. -/
import Derived.Test.YtahifpeggdcamaaDoorPmI3
import Derived.Test.YtahifpeggdcamaaDoorPmG9
set_option linter.unusedVariables false
set_option linter.unusedSimpArgs false
/- The law ModelSame: told true of each well-formed input. -/
namespace Go.Proofs.YtahifpeggdcamaaDoor
open Go.Dam
theorem law10 (av : List AV) (hl : av.length = [26, 22].length) (h : ∀ j t, [26, 22][j]? = some t → WfA tab t (av.getD j .undef)) : ∃ k, run tab k 10 av = some (.sc (.bool true)) := by
  match av, hl with
  | [a, b], _ =>
    obtain ⟨m, rfl, g1, g2, g3, g4⟩ := dec26 (h 0 26 rfl)
    obtain ⟨l, rfl, h1⟩ := dec22 (h 1 22 rfl)
    have e13 := awake_run (l.length + moNeed m + 1000)
    exact ⟨l.length + moNeed m + 1037 + 4, r10 (K := l.length + moNeed m + 1037) m l (moFit_of g1 g2 g3 g4 (by omega)) h1 (by omega) e13⟩
end Go.Proofs.YtahifpeggdcamaaDoor
