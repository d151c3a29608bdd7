/- A part of an interpreter of the model's code that is proved sound, and of laws told by it: DamX24. -/
import Derived.Test.YtdhbhedfbdckaaaGreatDoorPtH1
set_option linter.unusedVariables false
set_option linter.unusedSimpArgs false
/- The laws of written tokens and of texts with their places. -/
namespace Go.Proofs.YtdhbhedfbdckaaaGreatDoor
open Go.Dam
set_option linter.unusedVariables false
set_option linter.unusedSimpArgs false
theorem l21 (K : Nat) (ts : List Tk) (hl : ts.length ≤ 100000) : ∀ (k n : Nat), ts.length - n < k → n ≤ ts.length →
    ∃ b, lp21_4 K k (ts.map tkA) (n : Int) = some (B b) ∧ (b = true → ∀ t ∈ ts.drop n, t.s.length ≤ 300)
  | 0, n, h, _ => by omega
  | k + 1, n, h, hn => by
    unfold lp21_4 tr21_4
    rw [List.length_map]
    by_cases hi : n < ts.length
    · have w1 : IntKind.i64.wrap ((n : Int) + 1) = ((n + 1 : Nat) : Int) := wrapA (m := 1) (by omega) (by omega)
      have g := tkA_get ts n hi
      obtain ⟨b, ih, hb⟩ := l21 K ts hl k (n + 1) (by omega) (by omega)
      have hsz := sb_size ts[n].s
      rw [decide_eq_true (show (n : Int) < (ts.length : Int) by omega), List.drop_eq_getElem_cons hi]
      simp only [if_pos (Int.natCast_nonneg n), g, tkA, cellN, List.getD_cons_zero, List.getD_cons_succ, castS_S, w1, ih]
      by_cases h3 : 300 < ts[n].s.length
      · rw [decide_eq_true (show (((sb ts[n].s).size : Nat) : Int) > 300 by omega)]
        exact ⟨false, rfl, fun h => by cases h⟩
      · rw [decide_eq_false (show ¬ (((sb ts[n].s).size : Nat) : Int) > 300 by omega)]
        have fin : b = true → ∀ t ∈ ts[n] :: ts.drop (n + 1), t.s.length ≤ 300 := fun h t ht => by
          rcases List.mem_cons.1 ht with rfl | ht
          · omega
          · exact hb h t ht
        cases decide ((n : Int) > 60) with
        | false => exact ⟨b, rfl, fin⟩
        | true =>
          cases decide ((((sb ts[n].s).size : Nat) : Int) > 3) with
          | true => exact ⟨false, rfl, fun h => by cases h⟩
          | false => exact ⟨b, rfl, fin⟩
    · rw [decide_eq_false (show ¬ (n : Int) < (ts.length : Int) by omega), List.drop_eq_nil_of_le (by omega)]
      exact ⟨true, rfl, fun _ t ht => by cases ht⟩
theorem r21 {K : Nat} (hK : 2000 ≤ K) (ts : List Tk) : ∃ b, run tab K 21 [.sl 35 (ts.map tkA)] = some (B b) ∧ (b = true → ts.length ≤ 1505 ∧ ∀ t ∈ ts, t.s.length ≤ 300) := by
  obtain ⟨K, rfl⟩ := succK (show 1 ≤ K by omega)
  rw [eq21]; unfold sh21 tr21
  rw [List.length_map]
  have no : ∃ b, some (B false) = some (B b) ∧ (b = true → ts.length ≤ 1505 ∧ ∀ t ∈ ts, t.s.length ≤ 300) := ⟨false, rfl, fun h => by cases h⟩
  by_cases h5 : ts.length ≤ 1505
  · obtain ⟨b, h1, h2⟩ := l21 K ts (by omega) K 0 (by omega) (by omega)
    rw [List.drop_zero] at h2
    have go : ∃ b, lp21_4 K K (ts.map tkA) (0 : Int) = some (B b) ∧ (b = true → ts.length ≤ 1505 ∧ ∀ t ∈ ts, t.s.length ≤ 300) := ⟨b, h1, fun h => ⟨h5, h2 h⟩⟩
    rw [decide_eq_false (show ¬ (ts.length : Int) > 1505 by omega)]
    cases decide ((ts.length : Int) > 60) with
    | false => exact go
    | true =>
      cases decide ((ts.length : Int) ≤ 1500) with
      | true => exact no
      | false => exact go
  · rw [decide_eq_true (show (ts.length : Int) > 1505 by omega)]
    cases decide ((ts.length : Int) > 60) with
    | false => exact no
    | true => cases decide ((ts.length : Int) ≤ 1500) <;> exact no
theorem r23 {K : Nat} (h : 1 ≤ K) (ts : List Tk) (hl : ts.length ≤ 100000) : run tab K 23 [.sl 35 (ts.map tkA)] = some (.sl 35 (ts.map tkA)) := by
  obtain ⟨K, rfl⟩ := succK h
  rw [eq23]; unfold sh23 tr23
  rw [List.length_map, if_pos (by
    show (0 + ts.length) * 32 ≤ maxBytes
    unfold maxBytes
    omega)]
  rfl
theorem small_of {ts : List Tk} (h : ∀ t ∈ ts, t.s.length ≤ 300) : smallT ts = true := by
  unfold smallT
  rw [Bool.or_eq_true]
  right
  rw [List.all_eq_true]
  intro t ht
  have := h t ht
  rw [Nat.ble_eq]
  omega
end Go.Proofs.YtdhbhedfbdckaaaGreatDoor
