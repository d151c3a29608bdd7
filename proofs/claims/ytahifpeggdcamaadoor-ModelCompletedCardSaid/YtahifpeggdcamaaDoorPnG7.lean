/- A part of an interpreter of the model's code that is proved sound, and of laws told by it: DamM7. -/
import Derived.Test.YtahifpeggdcamaaDoorPnG6
set_option linter.unusedVariables false
set_option linter.unusedSimpArgs false
/- A model unfolded: the loops of both functions. -/
namespace Go.Proofs.YtahifpeggdcamaaDoor
open Go.Dam
set_option linter.unusedVariables false
set_option linter.unusedSimpArgs false
theorem l14b (K : Nat) (m : Mo) (ok : MoOk m) (h0 : MsOk K m.vs.length m.ms) (hK : m.ms.length + m.vs.length + 100 ≤ K) (q8) (y13 y14 y15 y16 : Int) (y17 : List AV) (y18 y19 y20 y21 : Int) (i : Nat) (hi40 : i < 40) :
    ∀ (k j n : Nat) (u : U), sigN m - j < k → j ≤ sigN m → UI m n u → n ≤ 40 * 8 + j → i < u.1.length →
    lp14_11 (K + 1) q8 k ((allPs 0 m.ins).map eP) (u.1.map eRow) (i : Int) ((allPs 0 m.ins).map eP) (sigN m : Int) (j : Int) m.s m.st (ints m.ins) m.o (m.vs.map eVa) (m.ms.map eMv) y13 y14 y15 y16 y17 y18 y19 y20 y21 (steps u.2) =
      match unfK m i (sigN m - j) j u with
      | .inr e => some (badU e)
      | .inl u' => q8 ((allPs 0 m.ins).map eP) (u'.1.map eRow) (IntKind.i64.wrap ((i : Int) + 1)) m.s m.st (ints m.ins) m.o (m.vs.map eVa) (m.ms.map eMv) y13 y14 y15 y16 y17 y18 y19 y20 y21 (steps u'.2)
  | 0, j, n, u, h, _, _, _, _ => by omega
  | k + 1, j, n, u, h, hjl, hu, hn, hi => by
    have hs : sigN m = tot m.ins := allPs_len _ _
    have ht := ok.tot
    have hv := ok.vs
    unfold lp14_11 tr14_11
    by_cases hj : j < sigN m
    · have hj' : j < (allPs 0 m.ins).length := hj
      have hui := hu.rows _ (List.getElem_mem hi)
      have ha : u.1.getD i [] = u.1[i] := by simp [List.getD_eq_getElem?_getD, hi]
      have e50 := r50m m h0 hui (by omega) j hj'
      unfold eMo at e50
      rw [show decide ((j : Int) < (sigN m : Int)) = true by simpa using hj, show sigN m - j = (sigN m - (j + 1)) + 1 by omega]
      have ih := fun (n' : Nat) (u' : U) (g1 : UI m n' u') (g2 : n' ≤ 40 * 8 + (j + 1)) (g3 : i < u'.1.length) => l14b K m ok h0 hK q8 y13 y14 y15 y16 y17 y18 y19 y20 y21 i hi40 k (j + 1) n' u' (by omega) (by omega) g1 g2 g3
      simp only [if_pos (Int.natCast_nonneg j), if_pos (Int.natCast_nonneg i), map_get eP hj', row_get hi, eP0, eP1, castI_I, castL_L, e50, comp20, comp21, eMd0, eMd1, unfK, wrapN (show j ≤ 4611686018427387904 by omega)]
      have hok := fun u' he => unf1_ok (u' := u') hu hi hj he
      unfold unf1 at hok ⊢
      simp only [ha] at hok ⊢
      by_cases h23 : (nxt m u.1[i] j).2.2 = 23
      · rw [if_pos h23] at hok ⊢
        rw [show ((nxt m u.1[i] j).2.2 == 23) = true by simpa using h23]
        exact ih _ _ (hok _ rfl).1 (by omega) hi
      · rw [if_neg h23] at hok ⊢
        rw [show ((nxt m u.1[i] j).2.2 == 23) = false by simpa using h23]
        by_cases hz : (nxt m u.1[i] j).2.2 = 0
        · rw [if_pos hz] at hok ⊢
          rw [hz]
          simp only [bne_self_eq_false]
          have hnl := (nxt_len m u.1[i] j hj).2 hz
          rw [hui] at hnl
          have hul := hu.le
          have hst := hu.st
          have e51 := r51 (K := K + 1) (nxt m u.1[i] j).1 [I (nxt m u.1[i] j).2.1] u.1 (by omega) (by omega) (fun x hx => by rw [hu.rows x hx]; omega) (by omega)
          simp only [e51, castI_I]
          by_cases hp : idx (fun s => decide (s = (nxt m u.1[i] j).1)) 0 u.1 < 0
          · rw [if_pos hp] at hok ⊢
            rw [decide_eq_true hp]
            by_cases h40 : u.1.length = 40
            · rw [if_pos h40] at ⊢
              rw [show (((u.1.map eRow).length : Int) == 40) = true by simp [h40]]; rfl
            · rw [if_neg h40] at hok ⊢
              rw [show (((u.1.map eRow).length : Int) == 40) = false by simp; omega]
              have q1 : ((u.1.map eRow).length + ([.sl 3 (ints (nxt m u.1[i] j).1)] : List AV).length) * 24 ≤ maxBytes := by
                have : (2000 : Nat) * 24 ≤ maxBytes := by decide
                simp only [List.length_map, List.length_cons, List.length_nil]; omega
              have q2 : ((steps u.2).length + ([.agg [I (i : Int), I (j : Int), I (nxt m u.1[i] j).2.1, I (((u.1.map eRow).length : Nat) : Int)]] : List AV).length) * 32 ≤ maxBytes := by
                have : (2000 : Nat) * 32 ≤ maxBytes := by decide
                simp only [steps_len, List.length_cons, List.length_nil]; omega
              simp only [if_pos q1, if_pos q2]
              have := ih _ _ (hok _ rfl).1 (by omega) (by simp; omega)
              rw [← this, List.length_map]
              simp [steps, eRow, eS]
          · rw [if_neg hp] at hok ⊢
            rw [decide_eq_false hp]
            have q2 : ((steps u.2).length + ([.agg [I (i : Int), I (j : Int), I (nxt m u.1[i] j).2.1, I (idx (fun s => decide (s = (nxt m u.1[i] j).1)) 0 u.1)]] : List AV).length) * 32 ≤ maxBytes := by
              have : (2000 : Nat) * 32 ≤ maxBytes := by decide
              simp only [steps_len, List.length_cons, List.length_nil]; omega
            simp only [if_pos q2]
            have := ih _ _ (hok _ rfl).1 (by omega) hi
            rw [← this]
            simp [steps, eS]
        · rw [if_neg hz]
          rw [show ((nxt m u.1[i] j).2.2 != 0) = true by simpa using hz]; rfl
    · rw [show decide ((j : Int) < (sigN m : Int)) = false by simpa using hj, show sigN m - j = 0 by omega]
      rfl
theorem unfK_big {m : Mo} {i : Nat} {c k n : Nat} {u u' : U} (h : UI m n u) (hi : i < u.1.length) (hk : k + c ≤ sigN m) (he : unfK m i c k u = .inl u') : UI m (n + c) u' ∧ u.1.length ≤ u'.1.length := unfK_ok h hi hk he
theorem l14a (K : Nat) (m : Mo) (ok : MoOk m) (h0 : MsOk K m.vs.length m.ms) (hK : m.ms.length + m.vs.length + 100 ≤ K) (y13 y14 y15 y16 : Int) (y17 : List AV) (y18 : Int) :
    ∀ (F k i : Nat) (u : U), 40 - i < F → F ≤ k → i ≤ 40 → UI m (i * sigN m) u →
    lp14_8 (K + 1) k ((allPs 0 m.ins).map eP) (u.1.map eRow) (i : Int) m.s m.st (ints m.ins) m.o (m.vs.map eVa) (m.ms.map eMv) y13 y14 y15 y16 y17 y18 (sigN m : Int) m.o 0 (steps u.2) = some (outU m (unfO m F i u))
  | 0, k, i, u, h, _, _, _ => by omega
  | F + 1, 0, i, u, h, hk, _, _ => by omega
  | F + 1, k + 1, i, u, h, hk, h40, hu => by
    have hs : sigN m = tot m.ins := allPs_len _ _
    have ht := ok.tot
    have hul := hu.le
    unfold lp14_8 tr14_8 unfO
    rw [List.length_map]
    by_cases hi : i < u.1.length
    · rw [show decide ((i : Int) < (u.1.length : Int)) = true by simpa using hi, if_pos hi]
      have hb : i * sigN m ≤ 40 * 8 + 0 := by
        have := Nat.mul_le_mul h40 (show sigN m ≤ 8 by omega); omega
      have := l14b K m ok h0 hK (lp14_8 (K + 1) k) y13 y14 y15 y16 y17 y18 (sigN m : Int) m.o 0 i (by omega) (K + 1) 0 _ u (by omega) (by omega) hu hb hi
      simp only [List.length_map]
      rw [show ((allPs 0 m.ins).length : Int) = (sigN m : Int) from rfl, show (0 : Int) = ((0 : Nat) : Int) from rfl]
      refine Eq.trans this ?_
      rw [Nat.sub_zero]
      cases hk' : unfK m i (sigN m) 0 u with
      | inr e => rfl
      | inl u' =>
        obtain ⟨g1, g2⟩ := unfK_big hu hi (by omega) hk'
        simp only []
        rw [wrapN (by omega)]
        exact l14a K m ok h0 hK y13 y14 y15 y16 y17 y18 F k (i + 1) u' (by omega) (by omega) (by omega) (by rw [Nat.succ_mul]; exact g1)
    · rw [show decide ((i : Int) < (u.1.length : Int)) = false by simpa using hi, if_neg hi]
      rfl
/-- A model unfolded: states and steps, or the error. -/
def unfM (m : Mo) : U ⊕ Int := if (moErr m).2 = 0 then unfO m 41 0 ([firstS m], []) else .inr (moErr m).2
theorem ui0 (m : Mo) : UI m (0 * sigN m) ([firstS m], []) := ⟨fun s hs => by rw [List.mem_singleton.1 hs]; exact firstS_len m, by simp, by simp⟩
theorem r14 {K : Nat} (m : Mo) (hf : moFit K m) (hK : 200 ≤ K) : run tab (K + 2) 14 [eMo m] = some (outU m (unfM m)) := by
  have g3 := hf.ms
  have g2 := hf.vs
  have e47 := r47 (K := K) m hf
  have e48 := r48 (K := K + 1) m (hf.mono (by omega))
  unfold unfM
  by_cases h0 : (moErr m).2 = 0
  · have ok := moOk_of h0
    have hv := ok.vs
    have hm := ok.ms
    have e49 := r49 (K := K + 1) m (by omega) (by omega)
    have e48' := e48 h0
    rw [if_pos h0]
    rw [h0] at e47
    have := l14a K m ok (ok.msOk hf) (by omega) 0 0 0 0 [] 0 41 (K + 1) 0 _ (by omega) (by omega) (by omega) (ui0 m)
    unfold eMo at *
    rw [eq14]; unfold sh14 tr14
    simp only [e47, castI_I, bne_self_eq_false, e48', castL_L, e49]
    rw [List.length_map, show ((allPs 0 m.ins).length : Int) = (sigN m : Int) from rfl, ← this]
    rfl
  · rw [if_neg h0]
    unfold eMo at *
    rw [eq14]; unfold sh14 tr14
    simp only [e47, castI_I]
    rw [show ((moErr m).2 != 0) = true by simpa using h0]; rfl
theorem l17b (K : Nat) (m : Mo) (hf : moFit K m) (he : (moErr m).2 = 0) (hK : m.ms.length + m.vs.length + 100 ≤ K) (q5) (y13 y14 y15 y16 : Int) (y17 : List AV) (y18 y19 y20 y21 : Int) (i : Nat) (hi40 : i < 40) :
    ∀ (k j n : Nat) (u : U), sigN m - j < k → j ≤ sigN m → UI m n u → n ≤ 40 * 8 + j → i < u.1.length →
    lp17_8 (K + 1) q5 k (sigN m : Int) (u.1.map eRow) (i : Int) (j : Int) m.s m.st (ints m.ins) m.o (m.vs.map eVa) (m.ms.map eMv) y13 y14 y15 y16 y17 y18 y19 y20 y21 (steps u.2) =
      match unfK m i (sigN m - j) j u with
      | .inr e => some (badU e)
      | .inl u' => q5 (sigN m : Int) (u'.1.map eRow) (IntKind.i64.wrap ((i : Int) + 1)) m.s m.st (ints m.ins) m.o (m.vs.map eVa) (m.ms.map eMv) y13 y14 y15 y16 y17 y18 y19 y20 y21 (steps u'.2)
  | 0, j, n, u, h, _, _, _, _ => by omega
  | k + 1, j, n, u, h, hjl, hu, hn, hi => by
    have ok := moOk_of he
    have hs : sigN m = tot m.ins := allPs_len _ _
    have ht := ok.tot
    have hv := ok.vs
    unfold lp17_8 tr17_8
    by_cases hj : j < sigN m
    · have hui := hu.rows _ (List.getElem_mem hi)
      have ha : u.1.getD i [] = u.1[i] := by simp [List.getD_eq_getElem?_getD, hi]
      have e30 := r30 m hf he (ok.msOk hf) hui j hj
      unfold eMo at e30
      rw [show decide ((j : Int) < (sigN m : Int)) = true by simpa using hj, show sigN m - j = (sigN m - (j + 1)) + 1 by omega]
      have ih := fun (n' : Nat) (u' : U) (g1 : UI m n' u') (g2 : n' ≤ 40 * 8 + (j + 1)) (g3 : i < u'.1.length) => l17b K m hf he hK q5 y13 y14 y15 y16 y17 y18 y19 y20 y21 i hi40 k (j + 1) n' u' (by omega) (by omega) g1 g2 g3
      simp only [if_pos (Int.natCast_nonneg i), row_get hi, castI_I, castL_L, e30, comp30, comp31, comp32, unfK, wrapN (show j ≤ 4611686018427387904 by omega)]
      have hok := fun u' he => unf1_ok (u' := u') hu hi hj he
      unfold unf1 at hok ⊢
      simp only [ha] at hok ⊢
      by_cases h23 : (nxt m u.1[i] j).2.2 = 23
      · rw [if_pos h23] at hok ⊢
        rw [show ((nxt m u.1[i] j).2.2 == 23) = true by simpa using h23]
        exact ih _ _ (hok _ rfl).1 (by omega) hi
      · rw [if_neg h23] at hok ⊢
        rw [show ((nxt m u.1[i] j).2.2 == 23) = false by simpa using h23]
        by_cases hz : (nxt m u.1[i] j).2.2 = 0
        · rw [if_pos hz] at hok ⊢
          rw [hz]
          simp only [bne_self_eq_false]
          have hnl := (nxt_len m u.1[i] j hj).2 hz
          rw [hui] at hnl
          have hul := hu.le
          have hst := hu.st
          have e56 := r56 (K := K + 1) (nxt m u.1[i] j).1 u.1 (by omega) (by omega) (fun x hx => by rw [hu.rows x hx]; omega) (by omega)
          simp only [e56, castI_I]
          have hpp : (idx (fun s => decide (s = (nxt m u.1[i] j).1)) 0 u.1 == -1) = decide (idx (fun s => decide (s = (nxt m u.1[i] j).1)) 0 u.1 < 0) := by
            rcases idx_cases (fun s => decide (s = (nxt m u.1[i] j).1)) u.1 0 with ⟨g, _⟩ | ⟨p, _, g, _⟩
            · rw [g]; rfl
            · rw [g, show ((((0 + p : Nat) : Int)) == -1) = false by simp]; simp
          rw [hpp]
          by_cases hp : idx (fun s => decide (s = (nxt m u.1[i] j).1)) 0 u.1 < 0
          · rw [if_pos hp] at hok ⊢
            rw [decide_eq_true hp]
            by_cases h40 : u.1.length = 40
            · rw [if_pos h40] at ⊢
              rw [show (((u.1.map eRow).length : Int) == 40) = true by simp [h40]]; rfl
            · rw [if_neg h40] at hok ⊢
              rw [show (((u.1.map eRow).length : Int) == 40) = false by simp; omega]
              have q1 : ((u.1.map eRow).length + ([.sl 3 (ints (nxt m u.1[i] j).1)] : List AV).length) * 24 ≤ maxBytes := by
                have : (2000 : Nat) * 24 ≤ maxBytes := by decide
                simp only [List.length_map, List.length_cons, List.length_nil]; omega
              have q2 : ((steps u.2).length + ([.agg [I (i : Int), I (j : Int), I (nxt m u.1[i] j).2.1, I (((u.1.map eRow).length : Nat) : Int)]] : List AV).length) * 32 ≤ maxBytes := by
                have : (2000 : Nat) * 32 ≤ maxBytes := by decide
                simp only [steps_len, List.length_cons, List.length_nil]; omega
              simp only [if_pos q1, if_pos q2]
              have := ih _ _ (hok _ rfl).1 (by omega) (by simp; omega)
              rw [← this, List.length_map]
              simp [steps, eRow, eS]
          · rw [if_neg hp] at hok ⊢
            rw [decide_eq_false hp]
            have q2 : ((steps u.2).length + ([.agg [I (i : Int), I (j : Int), I (nxt m u.1[i] j).2.1, I (idx (fun s => decide (s = (nxt m u.1[i] j).1)) 0 u.1)]] : List AV).length) * 32 ≤ maxBytes := by
              have : (2000 : Nat) * 32 ≤ maxBytes := by decide
              simp only [steps_len, List.length_cons, List.length_nil]; omega
            simp only [if_pos q2]
            have := ih _ _ (hok _ rfl).1 (by omega) hi
            rw [← this]
            simp [steps, eS]
        · rw [if_neg hz]
          rw [show ((nxt m u.1[i] j).2.2 != 0) = true by simpa using hz]; rfl
    · rw [show decide ((j : Int) < (sigN m : Int)) = false by simpa using hj, show sigN m - j = 0 by omega]
      rfl
theorem l17a (K : Nat) (m : Mo) (hf : moFit K m) (he : (moErr m).2 = 0) (hK : m.ms.length + m.vs.length + 100 ≤ K) (y13 y14 y15 y16 : Int) (y17 : List AV) (y18 : Int) :
    ∀ (F k i : Nat) (u : U), 40 - i < F → F ≤ k → i ≤ 40 → UI m (i * sigN m) u →
    lp17_5 (K + 1) k (sigN m : Int) (u.1.map eRow) (i : Int) m.s m.st (ints m.ins) m.o (m.vs.map eVa) (m.ms.map eMv) y13 y14 y15 y16 y17 y18 (sigN m : Int) m.o 0 (steps u.2) = some (outU m (unfO m F i u))
  | 0, k, i, u, h, _, _, _ => by omega
  | F + 1, 0, i, u, h, hk, _, _ => by omega
  | F + 1, k + 1, i, u, h, hk, h40, hu => by
    have ok := moOk_of he
    have hs : sigN m = tot m.ins := allPs_len _ _
    have ht := ok.tot
    have hul := hu.le
    unfold lp17_5 tr17_5 unfO
    rw [List.length_map]
    by_cases hi : i < u.1.length
    · rw [show decide ((i : Int) < (u.1.length : Int)) = true by simpa using hi, if_pos hi]
      have hb : i * sigN m ≤ 40 * 8 + 0 := by
        have := Nat.mul_le_mul h40 (show sigN m ≤ 8 by omega); omega
      have := l17b K m hf he hK (lp17_5 (K + 1) k) y13 y14 y15 y16 y17 y18 (sigN m : Int) m.o 0 i (by omega) (K + 1) 0 _ u (by omega) (by omega) hu hb hi
      rw [show (0 : Int) = ((0 : Nat) : Int) from rfl]
      refine Eq.trans this ?_
      rw [Nat.sub_zero]
      cases hk' : unfK m i (sigN m) 0 u with
      | inr e => rfl
      | inl u' =>
        obtain ⟨g1, g2⟩ := unfK_big hu hi (by omega) hk'
        simp only []
        rw [wrapN (by omega)]
        exact l17a K m hf he hK y13 y14 y15 y16 y17 y18 F k (i + 1) u' (by omega) (by omega) (by omega) (by rw [Nat.succ_mul]; exact g1)
    · rw [show decide ((i : Int) < (u.1.length : Int)) = false by simpa using hi, if_neg hi]
      rfl
theorem r17 {K : Nat} (m : Mo) (hf : moFit K m) (hK : 200 ≤ K) (h0 : (moErr m).2 = 0) : run tab (K + 2) 17 [eMo m] = some (outU m (unfM m)) := by
  have g3 := hf.ms
  have g2 := hf.vs
  have ok := moOk_of h0
  have hv := ok.vs
  have hm := ok.ms
  have e25 := r25 (K := K + 1) m (hf.mono (by omega)) h0
  have e55 := r55 (K := K + 1) m (by omega) (by omega)
  have := l17a K m hf h0 (by omega) 0 0 0 0 [] 0 41 (K + 1) 0 _ (by omega) (by omega) (by omega) (ui0 m)
  unfold unfM
  rw [if_pos h0]
  unfold eMo at *
  rw [eq17]; unfold sh17 tr17
  simp only [e25, castL_L, e55]
  rw [List.length_map, show ((allPs 0 m.ins).length : Int) = (sigN m : Int) from rfl, ← this]
  rfl
end Go.Proofs.YtahifpeggdcamaaDoor
