/- A part of an interpreter of the model's code that is proved sound, and of laws told by it: DamQ8. -/
import Derived.Test.YtahifpeggdcamaaDoorPoJ7
set_option linter.unusedVariables false
set_option linter.unusedSimpArgs false
/- The law ModelMinimal. -/
namespace Go.Proofs.YtahifpeggdcamaaDoor
open Go.Dam
set_option linter.unusedVariables false
set_option linter.unusedSimpArgs false
theorem colK_len (al : Int → Int → Bool) (l : List St4) (N : Nat) (kept : List Int) : ∀ (r : List Int) (i : Nat), (colK al l N kept r i).length ≤ r.length * N
  | [], i => by simp [colK]
  | p :: r, i => by
    unfold colK
    have h1 := rowK_len al l kept i p N 0
    have h2 := colK_len al l N kept r (i + 1)
    rw [List.length_append, List.length_cons, Nat.add_mul]; omega
theorem stepsM_len {S N O T : Int} {l : List St4} (ok : MaOk S N O T l) : (stepsM l S N T).length ≤ 320 := by
  obtain ⟨_, k2, _, _⟩ := kept_facts ok
  obtain ⟨n1, n2⟩ := ok.n
  have h := colK_len (alM l S.toNat N.toNat) l N.toNat (keptM l S N T) (keptM l S N T) 0
  have : (keptM l S N T).length * N.toNat ≤ 40 * 8 := Nat.mul_le_mul k2 (by omega)
  unfold stepsM; omega
theorem r11 {K : Nat} (S N O T : Int) (l : List St4) (hl : l.length * 32 ≤ maxBytes) (hK : l.length + 2300 ≤ K) (e13 : run tab K 13 [] = some (B true)) : run tab (K + 1) 11 [eM S N O T l] = some (B true) := by
  have hl2 : l.length ≤ 4611686018427387904 := by unfold maxBytes at hl; omega
  have e33 := r33 (K := K) S N O T l hl2 (by omega)
  have e21 := r21 (K := K) S N O T l hl (by omega)
  have e41 := r41 (K := K) S N O T l hl2 (by omega)
  by_cases h0 : (machErr S N O T l).2 = 0
  · have ok := maOk_of h0
    have e42 := r42 (K := K) ok (by omega)
    have hsl := stepsM_len ok
    obtain ⟨_, k2, k3, _⟩ := kept_facts ok
    obtain ⟨s1, s2⟩ := ok.s
    have e18 := r18 (K := K) (keptM l S N T).length N O 0 (keptM l S N T).length N O 0 (stepsM l S N T) (stepsM l S N T) (by omega) (by omega)
    have e31 := r31 (K := K) (toM l S N T) (toM l S N T) (by omega) (by omega) (by omega)
    rw [decide_eq_true ⟨rfl, rfl, rfl, rfl, rfl⟩] at e18
    rw [decide_eq_true rfl] at e31
    unfold minT at e41
    rw [if_pos h0] at e41
    by_cases g1 : S > 12
    · unfold eM at *
      rw [eq11]; unfold sh11 tr11
      simp only [e13, castB_B, Bool.not_true, e33, h0, castI_I, beq_self_eq_true]
      rw [decide_eq_true g1]
    · unfold eM at *
      rw [eq11]; unfold sh11 tr11
      simp only [e13, castB_B, Bool.not_true, e33, h0, castI_I, beq_self_eq_true]
      rw [decide_eq_false g1]
      simp only [e21, cellN_agg, List.getD_cons_zero, List.getD_cons_succ, castI_I, castL_L, e41, comp30, comp31, comp32, bne_self_eq_false, e42, comp20, comp21, beq_self_eq_true, e18, castB_B, e31]
  · have e18 := r18 (K := K) 0 0 0 0 0 0 0 0 [] [] (by simp) (by simp; omega)
    rw [decide_eq_true ⟨rfl, rfl, rfl, rfl, rfl⟩] at e18
    unfold minT at e41
    rw [if_neg h0] at e41
    have hne : ((machErr S N O T l).2 == 0) = false := by simpa using h0
    have hne2 : ((machErr S N O T l).2 != 0) = true := by simpa using h0
    unfold eM at *
    rw [eq11]; unfold sh11 tr11
    simp only [e13, castB_B, Bool.not_true, e33, castI_I, hne, hne2, e21, cellN_agg, List.getD_cons_zero, List.getD_cons_succ, castL_L, e41, comp30, comp31, comp32, beq_self_eq_true]
    change run tab K 18 [.agg [I 0, I 0, I 0, I 0, .sl 97 []], .agg [I 0, I 0, I 0, I 0, .sl 97 []]] = _ at e18
    simp only [steps, List.map_nil, e18, castB_B]
    rfl
end Go.Proofs.YtahifpeggdcamaaDoor
