/- A part of an interpreter of the model's code that is proved sound, and of laws told by it: DamN6. -/
import Derived.Test.YtahifpeggdcamaaDoorPnI2
set_option linter.unusedVariables false
set_option linter.unusedSimpArgs false
/- The law ModelCompleted. -/
namespace Go.Proofs.YtahifpeggdcamaaDoor
open Go.Dam
set_option linter.unusedVariables false
set_option linter.unusedSimpArgs false
theorem resD_cases (x : List Pr ⊕ (List Int × List Pr)) : ∃ (w : List Int) (c : Int), resD x = .tup [.sl 3 (ints w), I c] ∧ (c = 0 ∨ c = 23) := by
  cases x with
  | inl u => exact ⟨[], 23, rfl, .inr rfl⟩
  | inr w => exact ⟨w.1, 0, rfl, .inl rfl⟩
/-- The law ModelCompleted. -/
theorem r9 {K : Nat} (S N O T : Int) (l : List St4) (S' N' O' T' : Int) (l' : List St4) (hl : l.length * 32 ≤ maxBytes) (hl' : l'.length * 32 ≤ maxBytes) (hK : l.length + l'.length + 3000 ≤ K) (e13 : run tab K 13 [] = some (B true)) :
    run tab (K + 1) 9 [eM S N O T l, eM S' N' O' T' l'] = some (B true) := by
  have hb := big hl (by omega)
  have hb' := big hl' (by omega)
  have e33 := r33 (K := K) S N O T l hb (by omega)
  have e33' := r33 (K := K) S' N O T' l' hb' (by omega)
  have e21 := r21 (K := K) S N O T l hl (by omega)
  have e21' := r21 (K := K) S' N O T' l' hl' (by omega)
  have e32 := r32 (K := K) S N O T l hb (by omega)
  have e32' := r32 (K := K) S' N O T' l' hb' (by omega)
  have e38 := r38 (K := K) S N O T l S' N O T' l' hb hb' (by omega)
  by_cases h0 : (machErr S N O T l).2 = 0
  · by_cases h1 : (machErr S' N O T' l').2 = 0
    · have ok := maOk_of h0
      have ok' := maOk_of h1
      obtain ⟨s1, s2⟩ := ok.s
      obtain ⟨n1, n2⟩ := ok.n
      obtain ⟨o1, o2⟩ := ok.o
      by_cases g1 : S > 8
      · unfold eM at *
        rw [eq9]; unfold sh9 tr9
        simp only [e13, castB_B, Bool.not_true, e33, e33', h0, h1, castI_I, bne_self_eq_false]
        rw [decide_eq_true g1]
      by_cases g2 : S' > 8
      · unfold eM at *
        rw [eq9]; unfold sh9 tr9
        simp only [e13, castB_B, Bool.not_true, e33, e33', h0, h1, castI_I, bne_self_eq_false]
        rw [decide_eq_false g1, decide_eq_true g2]
      by_cases g3 : O = 8
      · unfold eM at *
        rw [eq9]; unfold sh9 tr9
        simp only [e13, castB_B, Bool.not_true, e33, e33', h0, h1, castI_I, bne_self_eq_false]
        rw [decide_eq_false g1, decide_eq_false g2, show (O == 8) = true by simpa using g3]
      have hO : O < 8 := by omega
      have c1 : comE S N O T l = 0 := by unfold comE; rw [if_pos h0, if_pos hO]
      have c2 : comE S' N O T' l' = 0 := by unfold comE; rw [if_pos h1, if_pos hO]
      rw [c1, if_pos rfl] at e32
      rw [c2, if_pos rfl] at e32'
      have k1 := compl_ok ok hO
      have k2 := compl_ok ok' hO
      have lc := complS_len l S N O
      have lc' := complS_len l' S' N O
      obtain ⟨s3, s4⟩ := ok'.s
      have hm : S.toNat * N.toNat ≤ 40 * 8 := Nat.mul_le_mul (by omega) (by omega)
      have hm' : S'.toNat * N.toNat ≤ 40 * 8 := Nat.mul_le_mul (by omega) (by omega)
      have e33a := r33 (K := K) S N (O + 1) T (complS l S N O) (by omega) (by omega)
      have e33b := r33 (K := K) S' N (O + 1) T' (complS l' S' N O) (by omega) (by omega)
      rw [k1.err] at e33a
      rw [k2.err] at e33b
      have e38b := r38 (K := K) S N (O + 1) T (complS l S N O) S' N (O + 1) T' (complS l' S' N O) (by omega) (by omega) (by omega)
      rw [difT_ok k1 k2, compl_search ok ok' hO] at e38b
      rw [difT_ok ok ok'] at e38
      obtain ⟨w, c, hr, hc⟩ := resD_cases (searchM l l' N T T')
      rw [hr] at e38 e38b
      have hlen : (((steps (complS l S N O)).length : Int) != IntKind.i64.wrap (S * N)) = false := by
        have hb : S * N ≤ 40 * 8 := Int.mul_le_mul s2 n2 (by omega) (by omega)
        have hb0 : 0 ≤ S * N := Int.mul_nonneg (by omega) (by omega)
        have hcast : ((S.toNat * N.toNat : Nat) : Int) = S * N := by
          rw [Int.natCast_mul, show ((S.toNat : Nat) : Int) = S by omega, show ((N.toNat : Nat) : Int) = N by omega]
        rw [steps_len, lc, hcast, wrapI ⟨by omega, by omega⟩]; simp
      unfold eM at *
      rw [eq9]; unfold sh9 tr9
      simp only [e13, castB_B, Bool.not_true, e33, e33', h0, h1, castI_I, bne_self_eq_false]
      rw [decide_eq_false g1, decide_eq_false g2, show (O == 8) = false by simpa using g3]
      simp only [e21, e21', e32, e32', comp20, comp21, cellN_agg, List.getD_cons_zero, List.getD_cons_succ, castI_I, castL_L, bne_self_eq_false, e33a, e33b, hlen, e38, e38b]
      rcases hc with rfl | rfl <;> rfl
    · unfold eM at *
      rw [eq9]; unfold sh9 tr9
      simp only [e13, castB_B, Bool.not_true, e33, e33', h0, castI_I, bne_self_eq_false]
      rw [show ((machErr S' N O T' l').2 != 0) = true by simpa using h1]
  · unfold eM at *
    rw [eq9]; unfold sh9 tr9
    simp only [e13, castB_B, Bool.not_true, e33, castI_I]
    rw [show ((machErr S N O T l).2 != 0) = true by simpa using h0]
end Go.Proofs.YtahifpeggdcamaaDoor
