/- A part of an interpreter of the model's code that is proved sound, and of laws told by it: DamM1, DamM2, DamM3. -/
import Derived.Test.YtahifpeggdcamaaDoorPpE4
set_option linter.unusedVariables false
set_option linter.unusedSimpArgs false
/- Operands' values, tests, moves: plain specifications; what the model's and the reference's functions tell. -/
namespace Go.Proofs.YtahifpeggdcamaaDoor
open Go.Dam
set_option linter.unusedVariables false
set_option linter.unusedSimpArgs false
theorem ints_get' {l : List Int} {i : Nat} (h : i < l.length) : (ints l)[i]? = some (I (l.getD i 0)) := by
  simp [ints, h, List.getD_eq_getElem?_getD]
end Go.Proofs.YtahifpeggdcamaaDoor

/- What a move does: the model's function and the reference's. -/
namespace Go.Proofs.YtahifpeggdcamaaDoor
open Go.Dam
set_option linter.unusedVariables false
set_option linter.unusedSimpArgs false
theorem ints_set (l : List Int) (j : Nat) (n : Int) : (ints l).set j (I n) = ints (l.set j n) := by simp [ints, List.map_set]
theorem isI64_ints (l : List Int) : (ints l).all isI64 = true := by
  simp only [ints, List.all_map, List.all_eq_true]; intro x _; rfl
theorem r70 {K : Nat} (h : 1 ≤ K) (l : List Int) (hl : l.length * 8 ≤ 140737488355328) : run tab K 70 [.sl 3 (ints l)] = some (.sl 3 (ints l)) := by
  obtain ⟨K, rfl⟩ := succK h
  rw [show run tab (K + 1) 70 [.sl 3 (ints l)] = extClone 3 [.sl 3 (ints l)] from rfl]
  unfold extClone
  simp only []
  rw [isI64_ints, show Nat.beq 3 3 = true from rfl, ints_len, show Nat.ble (l.length * 8) 140737488355328 = true by simpa using hl]
  rfl
end Go.Proofs.YtahifpeggdcamaaDoor

/- What comes of a signal: the model's function and the reference's. -/
namespace Go.Proofs.YtahifpeggdcamaaDoor
open Go.Dam
set_option linter.unusedVariables false
set_option linter.unusedSimpArgs false
end Go.Proofs.YtahifpeggdcamaaDoor
