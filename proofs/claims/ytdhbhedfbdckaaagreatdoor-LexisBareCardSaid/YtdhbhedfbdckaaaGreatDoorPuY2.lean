/- A part of an interpreter of the model's code that is proved sound, and of laws told by it: DamX26, DamX27. -/
import Derived.Test.YtdhbhedfbdckaaaGreatDoorPuH2
set_option linter.unusedVariables false
set_option linter.unusedSimpArgs false
/- Tokens side by side: what a piece that is read at the head of a text depends on. -/
namespace Go.Proofs.YtdhbhedfbdckaaaGreatDoor
open Go.Dam
set_option linter.unusedVariables false
set_option linter.unusedSimpArgs false
theorem sym_ge (r : List UInt8) : ∀ (ws : List (List UInt8)) (m : Nat), m ≤ symM r m ws ∧ ∀ w ∈ ws, pfx w r = true → w.length ≤ symM r m ws
  | [], m => ⟨Nat.le_refl _, fun _ h => by cases h⟩
  | v :: ws, m => by
    unfold symM
    have ih := sym_ge r ws (if pfx v r = true then max m v.length else m)
    refine ⟨?_, fun w hw hp => ?_⟩
    · refine Nat.le_trans ?_ ih.1
      split <;> omega
    · rcases List.mem_cons.1 hw with he | hw
      · have := ih.1
        rw [he] at hp ⊢
        rw [if_pos hp] at this
        rw [if_pos hp]
        omega
      · exact ih.2 w hw hp
theorem sym_le (r : List UInt8) (N : Nat) : ∀ (ws : List (List UInt8)) (m : Nat), m ≤ N → (∀ w ∈ ws, pfx w r = true → w.length ≤ N) → symM r m ws ≤ N
  | [], m, h, _ => h
  | v :: ws, m, h, hw => by
    unfold symM
    refine sym_le r N ws _ ?_ fun w hm => hw w (by simp [hm])
    split
    · rename_i hp
      have := hw v (by simp) hp
      omega
    · exact h
theorem sym_mem (r : List UInt8) : ∀ (ws : List (List UInt8)) (m : Nat), symM r m ws = m ∨ ∃ w ∈ ws, pfx w r = true ∧ symM r m ws = w.length
  | [], m => .inl rfl
  | v :: ws, m => by
    unfold symM
    by_cases hp : pfx v r = true
    · rw [if_pos hp]
      rcases sym_mem r ws (max m v.length) with h | ⟨w, hw, h1, h2⟩
      · rw [h]
        by_cases hm : v.length ≤ m
        · left; omega
        · right; exact ⟨v, by simp, hp, by omega⟩
      · right; exact ⟨w, by simp [hw], h1, h2⟩
    · rw [if_neg hp]
      rcases sym_mem r ws m with h | ⟨w, hw, h1, h2⟩
      · left; exact h
      · right; exact ⟨w, by simp [hw], h1, h2⟩
theorem pfx_iff (p r : List UInt8) : pfx p r = true ↔ p <+: r := by
  unfold pfx
  rw [decide_eq_true_iff, List.prefix_iff_eq_take]
  exact ⟨fun h => h.symm, fun h => h.symm⟩
end Go.Proofs.YtdhbhedfbdckaaaGreatDoor

/- What is joined is read back as the same tokens. -/
namespace Go.Proofs.YtdhbhedfbdckaaaGreatDoor
open Go.Dam
set_option linter.unusedVariables false
set_option linter.unusedSimpArgs false
def comH (lang : Int) (r : List UInt8) : Bool := pfx [47, 42] r || (if lang = 0 then pfx [45, 45] r else pfx [47, 47] r)
theorem com_none (lang : Int) (r : List UInt8) : comT lang r = none ↔ comH lang r = false := by
  unfold comT comH
  cases pfx [47, 42] r with
  | true => simp
  | false =>
    by_cases h : lang = 0
    · rw [if_pos h, if_pos h]
      cases pfx [45, 45] r <;> simp
    · rw [if_neg h, if_neg h]
      cases pfx [47, 47] r <;> simp
theorem nm_len {lang : Int} {c : UInt8} {x : List UInt8} {k : Int} {n : Nat} (h : nmT lang (c :: x) = .tok k n) : n = 1 + nameT lang x ∧ k ≠ 6 := by
  unfold nmT at h
  rw [show (c :: x).drop 1 = x from rfl] at h
  split at h
  · injection h with h1 h2
    exact ⟨h2.symm, by omega⟩
  · split at h
    · cases h
    · injection h with h1 h2
      exact ⟨h2.symm, by omega⟩
theorem pc_parts {lang : Int} {r : List UInt8} {k : Int} {n : Nat} (h : pcT lang r = .tok k n) : comH lang r = false ∧ nxT lang r = .tok k n := by
  rcases pc_shape lang r with ⟨e, he, _⟩ | ⟨m, he, _⟩ | ⟨k', m, he, _, _, _, _, hc, hx⟩
  · rw [he] at h; cases h
  · rw [he] at h; cases h
  · rw [he] at h
    injection h with h1 h2
    subst h1 h2
    exact ⟨(com_none _ _).1 hc, hx⟩
theorem pc_mk {lang : Int} {r : List UInt8} {k : Int} {n : Nat} (hc : comH lang r = false) (hx : nxT lang r = .tok k n) : pcT lang r = .tok k n := by
  unfold pcT
  rw [(com_none _ _).2 hc]
  exact hx
end Go.Proofs.YtdhbhedfbdckaaaGreatDoor
