/- A part of an interpreter of the model's code that is proved sound, and of laws told by it: DamQ7. -/
import Derived.Test.YtahifpeggdcamaaDoorPpJ6
set_option linter.unusedVariables false
set_option linter.unusedSimpArgs false
/- The minimal machine: what the reference's function tells; the law ModelMinimal. -/
namespace Go.Proofs.YtahifpeggdcamaaDoor
open Go.Dam
set_option linter.unusedVariables false
set_option linter.unusedSimpArgs false
section
variable {S N O T : Int} {l : List St4}
theorem keptF_len (al : Int → Int → Bool) : ∀ (r kept : List Int), (keptF al r kept).length ≤ kept.length + r.length
  | [], kept => Nat.le_refl _
  | s :: r, kept => by
    unfold keptF
    cases ixK al kept s with
    | some j => have := keptF_len al r kept; simp; omega
    | none => have := keptF_len al r (kept ++ [s]); simp at this ⊢; omega
theorem kept_facts (ok : MaOk S N O T l) : (∀ p ∈ keptM l S N T, p ∈ ordM l N T) ∧ (keptM l S N T).length ≤ 40 ∧ (toM l S N T).length = S.toNat ∧
    ∀ s ∈ ordM l N T, (toM l S N T)[s.toNat]? = some (ixV (alM l S.toNat N.toNat) (keptM l S N T) s) := by
  obtain ⟨_, o1, o2, o3, _⟩ := ord_facts ok
  obtain ⟨v, h1, h2⟩ := keptF_app (alM l S.toNat N.toNat) (ordM l N T) []
  refine ⟨fun p hp => ?_, ?_, ?_, fun s hs => ?_⟩
  · unfold keptM at hp
    rw [h1, List.nil_append] at hp
    exact h2 p hp
  · have := keptF_len (alM l S.toNat N.toNat) (ordM l N T) []
    unfold keptM; simp at this; omega
  · unfold toM; rw [toF_len]; simp
  · have hr := o1 s hs
    exact toF_get _ _ _ _ s (fun x hx => (o1 x hx).1) o3 hs (by simp; omega)
end
end Go.Proofs.YtahifpeggdcamaaDoor
