/- A part of an interpreter of the model's code that is proved sound, and of laws told by it: DamN4, DamO1, DamN5. -/
import Derived.Test.YtahifpeggdcamaaDoorPoH3
set_option linter.unusedVariables false
set_option linter.unusedSimpArgs false
/- The law ModelDifferences. -/
namespace Go.Proofs.YtahifpeggdcamaaDoor
open Go.Dam
set_option linter.unusedVariables false
set_option linter.unusedSimpArgs false
end Go.Proofs.YtahifpeggdcamaaDoor

/- Right machines are accepted; the model's answers. -/
namespace Go.Proofs.YtahifpeggdcamaaDoor
open Go.Dam
set_option linter.unusedVariables false
set_option linter.unusedSimpArgs false
end Go.Proofs.YtahifpeggdcamaaDoor

/- Completed machines are right machines; the search goes on them as before. -/
namespace Go.Proofs.YtahifpeggdcamaaDoor
open Go.Dam
set_option linter.unusedVariables false
set_option linter.unusedSimpArgs false
end Go.Proofs.YtahifpeggdcamaaDoor
