/- A part of an interpreter of the model's code that is proved sound, and of laws told by it: DamN4. -/
import Derived.Test.YtahifpeggdcamaaDoorPnH3
set_option linter.unusedVariables false
set_option linter.unusedSimpArgs false
/- The law ModelDifferences. -/
namespace Go.Proofs.YtahifpeggdcamaaDoor
open Go.Dam
set_option linter.unusedVariables false
set_option linter.unusedSimpArgs false
theorem sr1_word {S S' : Int} {l l' : List St4} {x : Pr} {n : Nat} {u : List Pr} {w} (h : PI S S' u) (hx : x ∈ u) (he : sr1 l l' x n u = .inr w) : w.1.length ≤ 1601 := by
  have h1 := h.wl x hx
  have h2 := h.len
  unfold sr1 at he
  split at he
  · cases he
  · split at he
    · split at he <;> cases he
    · cases he; simp; omega
  · cases he; simp; omega
  · cases he; simp; omega
theorem srK_word {S N O T S' O' T' : Int} {l l' : List St4} (ok : MaOk S N O T l) (ok' : MaOk S' N O' T' l') {x : Pr} : ∀ {c n : Nat} {u : List Pr} {w}, PI S S' u → x ∈ u → srK l l' x c n u = .inr w → w.1.length ≤ 1601
  | 0, n, u, w, h, hx, he => by unfold srK at he; cases he
  | c + 1, n, u, w, h, hx, he => by
    unfold srK at he
    split at he
    · rename_i w' h1
      cases he
      exact sr1_word h hx h1
    · rename_i u1 h1
      obtain ⟨g1, v, rfl⟩ := sr1_ok ok ok' h hx h1
      exact srK_word ok ok' (n := n + 1) g1 (List.mem_append_left _ hx) he
theorem srO_word {S N O T S' O' T' : Int} {l l' : List St4} (ok : MaOk S N O T l) (ok' : MaOk S' N O' T' l') : ∀ {F i : Nat} {u : List Pr} {w}, PI S S' u → srO l l' N.toNat F i u = .inr w → w.1.length ≤ 1601
  | 0, i, u, w, h, he => by unfold srO at he; cases he
  | F + 1, i, u, w, h, he => by
    unfold srO at he
    split at he
    · rename_i x hx
      have hxm := List.mem_of_getElem? hx
      split at he
      · rename_i w' h1
        cases he
        exact srK_word ok ok' h hxm h1
      · rename_i u1 h1
        exact srO_word ok ok' (srK_ok ok ok' h hxm h1).1 he
    · cases he
theorem search_word {S N O T S' O' T' : Int} {l l' : List St4} (ok : MaOk S N O T l) (ok' : MaOk S' N O' T' l') {s t : Int} (hs : 0 ≤ s ∧ s < S) (ht : 0 ≤ t ∧ t < S') {w} (he : searchM l l' N s t = .inr w) : w.1.length ≤ 1601 := by
  obtain ⟨s1, s2⟩ := ok.s
  obtain ⟨s3, s4⟩ := ok'.s
  exact srO_word ok ok' (pi0 (by omega) (by omega) hs ht) he
/-- The law ModelDifferences. -/
theorem r8 {K : Nat} (S N O T : Int) (l : List St4) (S' N' O' T' : Int) (l' : List St4) (hl : l.length * 32 ≤ maxBytes) (hl' : l'.length * 32 ≤ maxBytes) (hK : l.length + l'.length + 2100 ≤ K) (e13 : run tab K 13 [] = some (B true)) :
    run tab (K + 1) 8 [eM S N O T l, eM S' N' O' T' l'] = some (B true) := by
  have hb := big hl (by omega)
  have hb' := big hl' (by omega)
  have e21 := r21 (K := K) S N O T l hl (by omega)
  have e22 := r21 (K := K) S' N' O' T' l' hl' (by omega)
  have e38 := r38 (K := K) S N O T l S' N' O' T' l' hb hb' (by omega)
  have e33 := r33 (K := K) S N O T l hb (by omega)
  have e34 := r33 (K := K) S' N' O' T' l' hb' (by omega)
  have rz : run tab K 31 [.sl 3 [], .sl 3 []] = some (B true) := r31s (K := K) [] (by simp; omega) (by simp)
  by_cases h0 : (machErr S N O T l).2 = 0
  · by_cases h1 : (machErr S' N' O' T' l').2 = 0
    · by_cases hN : N = N'
      · subst hN
        have ok := maOk_of h0
        have ok' := maOk_of h1
        have e39 := r39 (K := K) ok ok' ok.t ok'.t (by omega)
        have hd : difT S N O T l S' N O' T' l' = resD (searchM l l' N T T') := by
          unfold difT difE
          rw [h0, h1, if_pos rfl]; simp [orI]
        rw [hd] at e38
        unfold eM at *
        rw [eq8]; unfold sh8 tr8
        simp only [e13, castB_B, Bool.not_true, e21, e22, cellN_agg, List.getD_cons_zero, List.getD_cons_succ, castI_I, castL_L, e38, e33, e34, h0, h1, beq_self_eq_true, bne_self_eq_false, e39]
        cases hs : searchM l l' N T T' with
        | inl u => simp only [resD, resP, comp20, comp21, castL_L, castI_I, castB_B, Bool.not_false, beq_self_eq_true, rz]
        | inr w =>
          have hw := search_word ok ok' ok.t ok'.t hs
          have rs := r31s (K := K) w.1 (by omega) (by omega)
          simp only [resD, resP, okT, comp20, comp21, castL_L, castI_I, castB_B, Bool.not_true, beq_self_eq_true, rs]
      · have hd : difT S N O T l S' N' O' T' l' = .tup [.sl 3 [], I 6] := by
          unfold difT difE
          rw [h0, h1, if_neg hN]; simp [orI]
        rw [hd] at e38
        unfold eM at *
        rw [eq8]; unfold sh8 tr8
        simp only [e13, castB_B, Bool.not_true, e21, e22, cellN_agg, List.getD_cons_zero, List.getD_cons_succ, castI_I, castL_L, e38, e33, e34, h0, h1, beq_self_eq_true, comp20, comp21]
        rw [show (N != N') = true by simpa using hN]
        simp only [rz, castB_B]
    · have hd : difT S N O T l S' N' O' T' l' = .tup [.sl 3 [], I (machErr S' N' O' T' l').2] := by
        have : difE S N O T l S' N' O' T' l' = (machErr S' N' O' T' l').2 := by unfold difE; simp [orI, h0, h1]
        unfold difT
        rw [this, if_neg h1]
      rw [hd] at e38
      unfold eM at *
      rw [eq8]; unfold sh8 tr8
      simp only [e13, castB_B, Bool.not_true, e21, e22, cellN_agg, List.getD_cons_zero, List.getD_cons_succ, castI_I, castL_L, e38, e33, e34, h0, beq_self_eq_true, comp20, comp21]
      rw [show ((machErr S' N' O' T' l').2 == 0) = false by simpa using h1]
      simp only [beq_self_eq_true, rz, castB_B]
  · have hd : difT S N O T l S' N' O' T' l' = .tup [.sl 3 [], I (machErr S N O T l).2] := by
      have : difE S N O T l S' N' O' T' l' = (machErr S N O T l).2 := by unfold difE; simp [orI, h0]
      unfold difT
      rw [this, if_neg h0]
    rw [hd] at e38
    unfold eM at *
    rw [eq8]; unfold sh8 tr8
    simp only [e13, castB_B, Bool.not_true, e21, e22, cellN_agg, List.getD_cons_zero, List.getD_cons_succ, castI_I, castL_L, e38, e33, e34, comp20, comp21]
    rw [show ((machErr S N O T l).2 == 0) = false by simpa using h0]
    simp only [beq_self_eq_true, rz, castB_B]
end Go.Proofs.YtahifpeggdcamaaDoor
