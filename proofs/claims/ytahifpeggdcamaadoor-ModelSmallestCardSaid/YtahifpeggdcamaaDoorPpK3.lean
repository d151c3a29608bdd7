/- A part of an interpreter of the model's code that is proved sound, and of laws told by it: DamR5, DamLaw12. -/
import Derived.Test.YtahifpeggdcamaaDoorPpK1
import Derived.Test.YtahifpeggdcamaaDoorPpE4
set_option linter.unusedVariables false
set_option linter.unusedSimpArgs false
/- The law ModelSmallest. -/
namespace Go.Proofs.YtahifpeggdcamaaDoor
open Go.Dam
set_option linter.unusedVariables false
set_option linter.unusedSimpArgs false
theorem MaOk.start {S N O T : Int} {l : List St4} (ok : MaOk S N O T l) {s : Int} (hs : 0 ≤ s ∧ s < S) : MaOk S N O s l := ⟨ok.s, ok.n, ok.o, hs, ok.le, ok.len, ok.mem, ok.up⟩
theorem good_word {S N O T : Int} {l : List St4} (ok : MaOk S N O T l) {a b : Int} {w : List Int} (h : Good l N.toNat a b w) : wordE w N 60 = 0 := by
  obtain ⟨h1, h2, _⟩ := h
  obtain ⟨n1, n2⟩ := ok.n
  have e2 : w1 N = N - 1 := by unfold w1; rw [wrapI ⟨by omega, by omega⟩]
  unfold wordE
  rw [if_neg (by omega), if_pos]
  rw [List.all_eq_true]
  intro x hx
  rw [within_iff, e2]
  have := h2 x hx
  omega
theorem l12b (K : Nat) (hK : 2900 ≤ K) (q15) {S N O : Int} {l : List St4} (ok : MaOk S N O 0 l) (hS : S ≤ 8) (hu : ∀ i j : Nat, i < S.toNat → j < S.toNat → Alike l l N.toNat i j → i = j) (x1 x2 x3 x4 : Int) (xl : List AV) (y1 y2 y3 y4 : Int) (yl : List AV) (i : Nat) (hi : i < S.toNat) :
    ∀ (k j : Nat), i - j < k → j ≤ i → lp12_18 K q15 k (i : Int) (j : Int) x1 x2 x3 x4 xl y1 y2 y3 y4 yl S N O 0 (steps l) = q15 (IntKind.i64.wrap ((i : Int) + 1)) x1 x2 x3 x4 xl y1 y2 y3 y4 yl S N O 0 (steps l)
  | 0, j, h, _ => by omega
  | k + 1, j, h, hj => by
    have hlen := ok.len
    unfold lp12_18 tr12_18
    by_cases hij : j < i
    · have ha : 0 ≤ (i : Int) ∧ (i : Int) < S := by omega
      have hb : 0 ≤ (j : Int) ∧ (j : Int) < S := by omega
      obtain ⟨w, hw, hg⟩ := search_good ok hS ha hb (by omega) fun h => by have := hu i j hi (by omega) h; omega
      have e21 := r21 (K := K) S N O 0 l (by unfold maxBytes; omega) (by omega)
      have e38 := r38 (K := K) S N O i l S N O j l (by omega) (by omega) (by omega)
      rw [difT_ok (ok.start ha) (ok.start hb), hw] at e38
      have hgw := good_word ok hg
      obtain ⟨g1, g2, g3⟩ := hg
      have e36 := r36 (K := K) w.1 (by omega) N 60 (by omega)
      rw [hgw] at e36
      have e43 := r43 (K := K) S N O 0 i l (by omega) w.1 (by omega) (by omega)
      have e43' := r43 (K := K) S N O 0 j l (by omega) w.1 (by omega) (by omega)
      have a1 := ansS_len l w.1 i
      have a2 := ansS_len l w.1 j
      have e31 := r31 (K := K) (ansS l i w.1).1 (ansS l j w.1).1 (by omega) (by omega) (by omega)
      rw [decide_eq_false g3] at e31
      have ih := l12b K hK q15 ok hS hu x1 x2 x3 x4 xl y1 y2 y3 y4 yl i hi k (j + 1) (by omega) (by omega)
      rw [← wrapN (by omega)] at ih
      unfold eM at *
      simp only [resD, okT] at e38
      rw [show decide ((j : Int) < (i : Int)) = true by simpa using hij]
      simp only [e21, cellN_agg, List.getD_cons_zero, List.getD_cons_succ, castI_I, castL_L, e38, comp20, comp21, bne_self_eq_false, e36, e43, e43', e31, castB_B]
      exact ih
    · rw [show decide ((j : Int) < (i : Int)) = false by simpa using hij]
theorem l12a (K : Nat) (hK : 2900 ≤ K) {S N O : Int} {l : List St4} (ok : MaOk S N O 0 l) (hS : S ≤ 8) (hu : ∀ i j : Nat, i < S.toNat → j < S.toNat → Alike l l N.toNat i j → i = j) {S1 O1 T1 : Int} {l1 : List St4} {S2 O2 T2 : Int} {l2 : List St4} (ok1 : MaOk S1 N O1 T1 l1) (ok2 : MaOk S2 N O2 T2 l2)
    (hm : Alike l1 l2 N.toNat T1 T2 → S = ((keptM l2 S2 N T2).length : Int) ∧ l = stepsM l2 S2 N T2) :
    ∀ (k i : Nat), S.toNat - i < k → lp12_15 K k (i : Int) S1 N O1 T1 (steps l1) S2 N O2 T2 (steps l2) S N O 0 (steps l) = some (B true)
  | 0, i, h => by omega
  | k + 1, i, h => by
    obtain ⟨s1, s2⟩ := ok.s
    unfold lp12_15 tr12_15
    by_cases hi : i < S.toNat
    · have ih := l12a K hK ok hS hu ok1 ok2 hm k (i + 1) (by omega)
      rw [← wrapN (by omega)] at ih
      rw [show decide ((i : Int) < S) = true by simp; omega]
      simp only []
      have := l12b K hK (lp12_15 K k) ok hS hu S1 N O1 T1 (steps l1) S2 N O2 T2 (steps l2) i hi K 0 (by omega) (by omega)
      refine Eq.trans this ?_
      exact ih
    · have h1 := ok1.len
      have h2 := ok2.len
      have h3 := ok.len
      have e21 := r21 (K := K) S1 N O1 T1 l1 (by unfold maxBytes; omega) (by omega)
      have e22 := r21 (K := K) S2 N O2 T2 l2 (by unfold maxBytes; omega) (by omega)
      have e38 := r38 (K := K) S1 N O1 T1 l1 S2 N O2 T2 l2 (by omega) (by omega) (by omega)
      rw [difT_ok ok1 ok2] at e38
      have e41 := r41 (K := K) S2 N O2 T2 l2 (by omega) (by omega)
      unfold minT at e41
      rw [if_pos (by rw [ok2.err])] at e41
      rw [show decide ((i : Int) < S) = false by simp; omega]
      cases hs : searchM l1 l2 N T1 T2 with
      | inr w =>
        rw [hs] at e38
        simp only [resD, okT] at e38
        unfold eM at *
        simp only [e21, e22, cellN_agg, List.getD_cons_zero, List.getD_cons_succ, castI_I, castL_L, e38, comp20, comp21]
        rfl
      | inl u =>
        have hal := (search_iff ok1 ok2 ok1.t ok2.t).2 ⟨u, hs⟩
        obtain ⟨m1, m2⟩ := hm hal
        have e18 := r18 (K := K) S N O 0 (keptM l2 S2 N T2).length N O 0 l (stepsM l2 S2 N T2) (by omega) (by omega)
        rw [decide_eq_true ⟨m1, rfl, rfl, rfl, m2⟩] at e18
        rw [hs] at e38
        simp only [resD] at e38
        unfold eM at *
        simp only [e21, e22, cellN_agg, List.getD_cons_zero, List.getD_cons_succ, castI_I, castL_L, e38, comp20, comp21, bne_self_eq_false, e41, comp30, comp31, comp32, beq_self_eq_true, e18, castB_B]
theorem r12 {K : Nat} (S N O T : Int) (l : List St4) (S' N' O' T' : Int) (l' : List St4) (hl : l.length * 32 ≤ maxBytes) (hl' : l'.length * 32 ≤ maxBytes) (hK : l.length + l'.length + 3000 ≤ K) (e13 : run tab K 13 [] = some (B true)) :
    run tab (K + 1) 12 [eM S N O T l, eM S' N' O' T' l'] = some (B true) := by
  have hb := big hl (by omega)
  have hb' := big hl' (by omega)
  have e33 := r33 (K := K) S N O T l hb (by omega)
  have e33' := r33 (K := K) S' N' O' T' l' hb' (by omega)
  have e21 := r21 (K := K) S N O T l hl (by omega)
  have e38 := r38 (K := K) S N O T l (keptM l S N T).length N O 0 (stepsM l S N T)
  have e41 := r41 (K := K) S N O T l hb (by omega)
  by_cases h0 : (machErr S N O T l).2 = 0
  · by_cases h1 : (machErr S' N' O' T' l').2 = 0
    · by_cases g1 : S > 8
      · unfold eM at *
        rw [eq12]; unfold sh12 tr12
        simp only [e13, castB_B, Bool.not_true, e33, e33', h0, h1, castI_I, bne_self_eq_false]
        rw [decide_eq_true g1]
      · by_cases g2 : S' > 8
        · unfold eM at *
          rw [eq12]; unfold sh12 tr12
          simp only [e13, castB_B, Bool.not_true, e33, e33', h0, h1, castI_I, bne_self_eq_false]
          rw [decide_eq_false g1, decide_eq_true g2]
        · by_cases hN : N = N'
          · subst hN
            have ok := maOk_of h0
            have ok' := maOk_of h1
            have okm := min_ok ok
            have hml := okm.len
            have hkl := kept_le ok
            have hml2 : (stepsM l S N T).length * 32 ≤ maxBytes := by unfold maxBytes; omega
            have e33m := r33 (K := K) (keptM l S N T).length N O 0 (stepsM l S N T) (by omega) (by omega)
            have e21m := r21 (K := K) (keptM l S N T).length N O 0 (stepsM l S N T) hml2 (by omega)
            have e41m := r41 (K := K) (keptM l S N T).length N O 0 (stepsM l S N T) (by omega) (by omega)
            replace e38 := e38 hb (by omega) (by omega)
            rw [difT_ok ok okm] at e38
            obtain ⟨u, hu⟩ := (search_iff ok okm ok.t okm.t).1 (min_start ok)
            rw [hu] at e38
            simp only [resD] at e38
            unfold minT at e41 e41m
            rw [if_pos h0] at e41
            rw [if_pos (by rw [okm.err])] at e41m
            rw [okm.err] at e33m
            obtain ⟨m1, m2⟩ := min_again ok
            rw [m1, m2] at e41m
            have e18 := r18 (K := K) (keptM l S N T).length N O 0 (keptM l S N T).length N O 0 (stepsM l S N T) (stepsM l S N T) (by omega) (by omega)
            rw [decide_eq_true ⟨rfl, rfl, rfl, rfl, rfl⟩] at e18
            obtain ⟨_, _, k3, _⟩ := kept_facts ok
            have s12 := ok.s
            have hto : ((ints (toM l S N T)).length : Int) = S := by rw [ints_len, k3]; omega
            have main := l12a K (by omega) okm (by omega) (fun i j hi hj h => min_unlike ok (by omega) (by omega) h) ok ok' (fun h => by
              obtain ⟨h2, h3⟩ := min_unique ok ok' h
              exact ⟨by omega, h3⟩) K 0 (by omega)
            unfold eM at *
            rw [eq12]; unfold sh12 tr12
            simp only [e13, castB_B, Bool.not_true, e33, e33', h0, h1, castI_I, bne_self_eq_false]
            rw [decide_eq_false g1, decide_eq_false g2]
            simp only [e21, cellN_agg, List.getD_cons_zero, List.getD_cons_succ, castI_I, castL_L, e41, comp30, comp31, comp32, bne_self_eq_false, e33m, hto]
            rw [decide_eq_false (show ¬ ((keptM l S N T).length : Int) > S by omega)]
            simp only [e21, e21m, cellN_agg, List.getD_cons_zero, List.getD_cons_succ, castI_I, castL_L, e38, comp20, comp21, bne_self_eq_false, e41m, comp30, comp31, comp32, e18, castB_B, Bool.not_true]
            exact main
          · unfold eM at *
            rw [eq12]; unfold sh12 tr12
            simp only [e13, castB_B, Bool.not_true, e33, e33', h0, h1, castI_I, bne_self_eq_false]
            rw [decide_eq_false g1, decide_eq_false g2, show (N != N') = true by simpa using hN]
    · have hne : ((machErr S' N' O' T' l').2 != 0) = true := by simpa using h1
      unfold eM at *
      rw [eq12]; unfold sh12 tr12
      simp only [e13, castB_B, Bool.not_true, e33, e33', h0, castI_I, bne_self_eq_false, hne]
  · have hne : ((machErr S N O T l).2 != 0) = true := by simpa using h0
    unfold eM at *
    rw [eq12]; unfold sh12 tr12
    simp only [e13, castB_B, Bool.not_true, e33, castI_I, hne]
end Go.Proofs.YtahifpeggdcamaaDoor

/- The law ModelSmallest: told true of each well-formed input. -/
namespace Go.Proofs.YtahifpeggdcamaaDoor
open Go.Dam
theorem law12 (av : List AV) (hl : av.length = [30, 30].length) (h : ∀ j t, [30, 30][j]? = some t → WfA tab t (av.getD j .undef)) : ∃ k, run tab k 12 av = some (.sc (.bool true)) := by
  match av, hl with
  | [a, b], _ =>
    obtain ⟨S, N, O, T, l, rfl, h1⟩ := dec30 (h 0 30 rfl)
    obtain ⟨S', N', O', T', l', rfl, h2⟩ := dec30 (h 1 30 rfl)
    have e13 := awake_run (l.length + l'.length + 3000)
    exact ⟨l.length + l'.length + 3040 + 1, r12 (K := l.length + l'.length + 3040) S N O T l S' N' O' T' l' h1 h2 (by omega) e13⟩
end Go.Proofs.YtahifpeggdcamaaDoor
