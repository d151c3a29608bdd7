/- A part of an interpreter of the model's code that is proved sound, and of laws told by it: DamM8. -/
import Derived.Test.YtahifpeggdcamaaDoorPnG7
set_option linter.unusedVariables false
set_option linter.unusedSimpArgs false
/- The model's runs; machines and lists of lists compared; the laws ModelRuns and ModelUnfolds. -/
namespace Go.Proofs.YtahifpeggdcamaaDoor
open Go.Dam
set_option linter.unusedVariables false
set_option linter.unusedSimpArgs false
theorem l35 (K : Nat) (m : Mo) (ok : MoOk m) (h0 : MsOk K m.vs.length m.ms) (hK : m.ms.length + 2 ≤ K) (w : List Int) (hw : ∀ n ∈ w, within n 0 (w1 (sigN m)) = true) (hl : w.length ≤ 1000) : ∀ (k i : Nat) (a out : List Int), w.length - i < k → a.length = m.vs.length + 1 → out.length ≤ i →
    lp35_11 (K + 1) k ((allPs 0 m.ins).map eP) (ints out) (ints a) (ints w) (w.length : Int) (i : Int) m.s m.st (ints m.ins) m.o (m.vs.map eVa) (m.ms.map eMv) =
      some (.tup [.sl 3 (ints (runS m a (w.drop i) out).1), I ((runS m a (w.drop i) out).1.length : Int), I (runS m a (w.drop i) out).2])
  | 0, i, a, out, h, _, _ => by omega
  | k + 1, i, a, out, h, ha, ho => by
    have hs : sigN m = tot m.ins := allPs_len _ _
    have ht := ok.tot
    unfold lp35_11 tr35_11
    by_cases hi : i < w.length
    · have h2 := hw _ (List.getElem_mem hi)
      rw [w1_nat (by omega), within_iff] at h2
      have hj : w[i].toNat < (allPs 0 m.ins).length := by unfold sigN at h2; omega
      have ej : ((allPs 0 m.ins).map eP)[w[i].toNat]? = some (eP (allPs 0 m.ins)[w[i].toNat]) := by simp [hj]
      have e50 := r50m m h0 ha hK w[i].toNat hj
      unfold eMo at e50
      rw [show decide ((i : Int) < (w.length : Int)) = true by simpa using hi, List.drop_eq_getElem_cons hi]
      simp only [if_pos (Int.natCast_nonneg i), ints_get hi, castI_I, if_pos h2.1, ej, eP0, eP1, e50, comp20, comp21, eMd0, eMd1, castL_L, runS]
      by_cases hz : (nxt m a w[i].toNat).2.2 = 0
      · have hq : ((ints out).length + ([I (nxt m a w[i].toNat).2.1] : List AV).length) * 8 ≤ maxBytes := by
          have : (2000 : Nat) * 8 ≤ maxBytes := by decide
          simp only [ints_len, List.length_cons, List.length_nil]; omega
        have hn := (nxt_len m a w[i].toNat hj).2 hz
        rw [if_pos hz, hz]
        simp only [bne_self_eq_false, if_pos hq]
        have ih := l35 K m ok h0 hK w hw hl k (i + 1) (nxt m a w[i].toNat).1 (out ++ [(nxt m a w[i].toNat).2.1]) (by omega) (by omega) (by simp; omega)
        rw [wrapN (by omega), ints_snoc]
        exact ih
      · rw [if_neg hz, show ((nxt m a w[i].toNat).2.2 != 0) = true by simpa using hz]
        simp only [ints_len]
    · have hd : w.drop i = [] := List.drop_eq_nil_of_le (by omega)
      rw [show decide ((i : Int) < (w.length : Int)) = false by simpa using hi, hd]
      simp only [ints_len, runS]
/-- What a run tells. -/
def runM (m : Mo) (w : List Int) : List Int × Int := if (moErr m).2 = 0 then if wordE w (sigN m) 60 = 0 then runS m (firstS m) w [] else ([], wordE w (sigN m) 60) else ([], (moErr m).2)
theorem wordE_ok {w : List Int} {n : Int} (h : wordE w n 60 = 0) : w.length ≤ 60 ∧ ∀ x ∈ w, within x 0 (w1 n) = true := by
  unfold wordE at h
  split at h
  · simp at h
  · split at h
    · rename_i h1
      rw [List.all_eq_true] at h1
      exact ⟨by omega, h1⟩
    · simp at h
theorem r35 {K : Nat} (m : Mo) (hf : moFit K m) (w : List Int) (hl : w.length ≤ 4611686018427387904) (hK : w.length + 8 ≤ K) : run tab (K + 2) 35 [eMo m, .sl 3 (ints w)] = some (.tup [.sl 3 (ints (runM m w).1), I ((runM m w).1.length : Int), I (runM m w).2]) := by
  have g2 := hf.vs
  have g3 := hf.ms
  have e47 := r47 (K := K) m hf
  unfold runM
  by_cases h0 : (moErr m).2 = 0
  · have ok := moOk_of h0
    have hv := ok.vs
    have e48 := r48 (K := K + 1) m (hf.mono (by omega)) h0
    have e49 := r49 (K := K + 1) m (by omega) (by omega)
    have e69 := r69 (K := K + 1) w hl (sigN m) (by omega)
    rw [h0] at e47
    rw [if_pos h0]
    unfold eMo at *
    rw [eq35]; unfold sh35 tr35
    simp only [e47, castI_I, bne_self_eq_false, e48, castL_L, List.length_map]
    rw [show ((allPs 0 m.ins).length : Int) = (sigN m : Int) from rfl]
    simp only [e69, castI_I]
    by_cases h1 : wordE w (sigN m) 60 = 0
    · rw [if_pos h1, h1]
      obtain ⟨b1, b2⟩ := wordE_ok h1
      simp only [bne_self_eq_false, e49, castL_L, ints_len]
      exact l35 K m ok (ok.msOk hf) (by omega) w b2 (by omega) (K + 1) 0 (firstS m) [] (by omega) (firstS_len m) (by simp)
    · rw [if_neg h1, show (wordE w (sigN m) 60 != 0) = true by simpa using h1]
      rfl
  · rw [if_neg h0]
    unfold eMo at *
    rw [eq35]; unfold sh35 tr35
    simp only [e47, castI_I]
    rw [show ((moErr m).2 != 0) = true by simpa using h0]
    rfl
theorem runS_len (m : Mo) : ∀ (w a out : List Int), (runS m a w out).1.length ≤ out.length + w.length
  | [], a, out => by simp [runS]
  | x :: w, a, out => by
    unfold runS
    split
    · have := runS_len m w (nxt m a x.toNat).1 (out ++ [(nxt m a x.toNat).2.1])
      simp at this ⊢; omega
    · simp
theorem runM_len (m : Mo) (w : List Int) : (runM m w).1.length ≤ w.length := by
  unfold runM
  split
  · split
    · have := runS_len m w (firstS m) []
      simpa using this
    · simp
  · simp
/-- The law ModelRuns. -/
theorem r7 {K : Nat} (m : Mo) (w : List Int) (hf : moFit K m) (hw : w.length * 8 ≤ maxBytes) (hK : w.length + 10 ≤ K) (e13 : run tab (K + 3) 13 [] = some (B true)) : run tab (K + 4) 7 [eMo m, .sl 3 (ints w)] = some (B true) := by
  have hb := big hw (by omega)
  have e15 := r15 (K := K + 3) m (hf.mono (by omega))
  have e27 := r27 (K := K + 3) (ints w) (by rw [ints_len]; exact hw) (by omega)
  have e35 := r35 (K := K + 1) m (hf.mono (by omega)) w hb (by omega)
  have e16 := r16 (K := K + 3) m (hf.mono (by omega))
  have e25 : (moErr m).2 = 0 → _ := r25 (K := K + 3) m (hf.mono (by omega))
  have e36 := r36 (K := K + 3) w hb (sigN m) 60 (by omega)
  have e37 : (moErr m).2 = 0 → wordE w (sigN m) 60 = 0 → _ := fun h0 h1 => r37 (K := K + 1) m (hf.mono (by omega)) h0 w h1 (by omega)
  have ln := runM_len m w
  have rs := r31s (K := K + 3) (runM m w).1 (by omega) (by omega)
  have rz : run tab (K + 3) 31 [.sl 3 [], .sl 3 []] = some (B true) := r31s (K := K + 3) [] (by simp) (by simp)
  unfold eMo at *
  rw [eq7]; unfold sh7 tr7
  simp only [e13, castB_B, Bool.not_true, e15, cellN_agg, List.getD_cons_zero, List.getD_cons_succ, castI_I, castL_L, e27, e35, e16, comp30, comp31, comp32, pairI0, pairI1]
  by_cases h0 : (moErr m).2 = 0
  · have hs : (((allPs 0 m.ins).map eP).length : Int) = (sigN m : Int) := by rw [List.length_map]; rfl
    simp only [h0, beq_self_eq_true, e25 h0, castL_L, hs, e36, castI_I]
    by_cases h1 : wordE w (sigN m) 60 = 0
    · have hn : runM m w = runS m (firstS m) w [] := by unfold runM; rw [if_pos h0, if_pos h1]
      rw [hn] at rs ⊢
      simp only [h1, beq_self_eq_true, e37 h0 h1, comp20, comp21, castL_L, castI_I, ints_len, rs, castB_B]
    · have hn : runM m w = ([], wordE w (sigN m) 60) := by unfold runM; rw [if_pos h0, if_neg h1]
      rw [hn]
      rw [show (wordE w (sigN m) 60 == 0) = false by simpa using h1]
      simp only [List.length_nil, beq_self_eq_true, ints, List.map_nil, rz, castB_B]
  · have hn : runM m w = ([], (moErr m).2) := by unfold runM; rw [if_neg h0]
    rw [hn]
    rw [show ((moErr m).2 == 0) = false by simpa using h0]
    simp only [List.length_nil, beq_self_eq_true, ints, List.map_nil, rz, castB_B]
/-! ### machines, and lists of lists, are the same -/
def eqS4 (a b : St4) : Bool := (a.f == b.f) && ((a.i == b.i) && ((a.o == b.o) && ((a.t == b.t) && true)))
theorem eqS4_iff {a b : St4} : eqS4 a b = true ↔ a = b := by
  cases a; cases b
  simp [eqS4]
instance : DecidableEq St4 := fun a b => decidable_of_iff _ eqS4_iff
theorem eqS4_dec (a b : St4) : eqS4 a b = decide (a = b) := by
  by_cases h : a = b
  · rw [eqS4_iff.2 h, decide_eq_true h]
  · rw [decide_eq_false h]
    cases h2 : eqS4 a b with
    | true => exact absurd (eqS4_iff.1 h2) h
    | false => rfl
theorem l18 (K : Nat) (S N O T S' N' O' T' : Int) (x y : List St4) (hl : x.length = y.length) (hx : x.length ≤ 4611686018427387904) : ∀ (k i : Nat), x.length - i < k → lp18_4 K k (i : Int) S N O T (steps x) S' N' O' T' (steps y) = some (B (decide (x.drop i = y.drop i)))
  | 0, i, h => by omega
  | k + 1, i, h => by
    unfold lp18_4 tr18_4
    rw [steps_len]
    by_cases hi : i < x.length
    · have hj : i < y.length := by omega
      have e1 := List.drop_eq_getElem_cons hi
      have e2 := List.drop_eq_getElem_cons hj
      rw [show decide ((i : Int) < (x.length : Int)) = true by simpa using hi]
      simp only [if_pos (Int.natCast_nonneg i), steps_get hi, steps_get hj, eS0, eS1, eS2, eS3, castI_I]
      have e3 : ((x[i].f == y[i].f) && ((x[i].i == y[i].i) && ((x[i].o == y[i].o) && ((x[i].t == y[i].t) && true)))) = decide (x[i] = y[i]) := eqS4_dec x[i] y[i]
      rw [e3]
      by_cases he : x[i] = y[i]
      · rw [decide_eq_true he]
        simp only [Bool.not_true]
        rw [wrapN (by omega), l18 K S N O T S' N' O' T' x y hl hx k (i + 1) (by omega)]
        refine congrArg (fun b => some (B b)) ?_
        rw [decide_eq_decide, e1, e2]
        simp only [List.cons.injEq, he, true_and]
      · rw [decide_eq_false he]
        simp only [Bool.not_false]
        refine congrArg (fun b => some (B b)) (Eq.symm (decide_eq_false ?_))
        rw [e1, e2]
        simp only [List.cons.injEq, he, false_and, not_false_eq_true]
    · rw [show decide ((i : Int) < (x.length : Int)) = false by simpa using hi, List.drop_eq_nil_of_le (by omega), List.drop_eq_nil_of_le (by omega)]
      simp
theorem r18 {K : Nat} (S N O T S' N' O' T' : Int) (x y : List St4) (hx : x.length ≤ 4611686018427387904) (hK : x.length + 2 ≤ K) : run tab K 18 [eM S N O T x, eM S' N' O' T' y] = some (B (decide (S = S' ∧ N = N' ∧ O = O' ∧ T = T' ∧ x = y))) := by
  obtain ⟨K, rfl⟩ := succK (show 1 ≤ K by omega)
  unfold eM
  rw [eq18]; unfold sh18 tr18
  have hno : ∀ P : Prop, [Decidable P] → ¬ P → some (B false) = some (B (decide P)) := fun P _ h => by rw [decide_eq_false h]
  by_cases h1 : S = S'
  · rw [show (S != S') = false by simpa using h1]
    by_cases h2 : N = N'
    · rw [show (N != N') = false by simpa using h2]
      by_cases h3 : O = O'
      · rw [show (O != O') = false by simpa using h3]
        by_cases h4 : T = T'
        · rw [show (T != T') = false by simpa using h4, steps_len, steps_len]
          by_cases h5 : x.length = y.length
          · rw [show ((x.length : Int) != (y.length : Int)) = false by rw [h5]; simp]
            simp only []
            refine (l18 K S N O T S' N' O' T' x y h5 hx K 0 (by omega)).trans ?_
            simp only [List.drop_zero, h1, h2, h3, h4, true_and]
          · rw [show ((x.length : Int) != (y.length : Int)) = true by simp; omega]
            exact hno _ fun h => h5 (by rw [h.2.2.2.2])
        · rw [show (T != T') = true by simpa using h4]
          exact hno _ fun h => h4 h.2.2.2.1
      · rw [show (O != O') = true by simpa using h3]
        exact hno _ fun h => h3 h.2.2.1
    · rw [show (N != N') = true by simpa using h2]
      exact hno _ fun h => h2 h.2.1
  · rw [show (S != S') = true by simpa using h1]
    exact hno _ fun h => h1 h.1
theorem l19 (K : Nat) (x y : List (List Int)) (hl : x.length = y.length) (hx : x.length ≤ 4611686018427387904) (hr : ∀ r ∈ x, r.length ≤ 4611686018427387904 ∧ r.length + 2 ≤ K) (hr' : ∀ r ∈ y, r.length ≤ 4611686018427387904) : ∀ (k i : Nat), x.length - i < k → lp19_4 K k (x.map eRow) (y.map eRow) (i : Int) = some (B (decide (x.drop i = y.drop i)))
  | 0, i, h => by omega
  | k + 1, i, h => by
    unfold lp19_4 tr19_4
    rw [List.length_map]
    by_cases hi : i < x.length
    · have hj : i < y.length := by omega
      have e1 := List.drop_eq_getElem_cons hi
      have e2 := List.drop_eq_getElem_cons hj
      obtain ⟨x1, x2⟩ := hr _ (List.getElem_mem hi)
      rw [show decide ((i : Int) < (x.length : Int)) = true by simpa using hi]
      simp only [if_pos (Int.natCast_nonneg i), row_get hi, row_get hj, castL_L, r31 x[i] y[i] x1 (hr' _ (List.getElem_mem hj)) x2, castB_B]
      by_cases he : x[i] = y[i]
      · rw [decide_eq_true he]
        simp only [Bool.not_true]
        rw [wrapN (by omega), l19 K x y hl hx hr hr' k (i + 1) (by omega)]
        refine congrArg (fun b => some (B b)) ?_
        rw [decide_eq_decide, e1, e2]
        simp only [List.cons.injEq, he, true_and]
      · rw [decide_eq_false he]
        simp only [Bool.not_false]
        refine congrArg (fun b => some (B b)) (Eq.symm (decide_eq_false ?_))
        rw [e1, e2]
        simp only [List.cons.injEq, he, false_and, not_false_eq_true]
    · rw [show decide ((i : Int) < (x.length : Int)) = false by simpa using hi, List.drop_eq_nil_of_le (by omega), List.drop_eq_nil_of_le (by omega)]
      simp
theorem r19 {K : Nat} (x y : List (List Int)) (hx : x.length ≤ 4611686018427387904) (hr : ∀ r ∈ x, r.length ≤ 4611686018427387904 ∧ r.length + 3 ≤ K) (hr' : ∀ r ∈ y, r.length ≤ 4611686018427387904) (hK : x.length + 2 ≤ K) :
    run tab K 19 [.sl 22 (x.map eRow), .sl 22 (y.map eRow)] = some (B (decide (x = y))) := by
  obtain ⟨K, rfl⟩ := succK (show 1 ≤ K by omega)
  rw [eq19]; unfold sh19 tr19
  rw [List.length_map, List.length_map]
  by_cases hl : x.length = y.length
  · rw [show ((x.length : Int) != (y.length : Int)) = false by rw [hl]; simp]
    exact l19 K x y hl hx (fun r h => ⟨(hr r h).1, by have := (hr r h).2; omega⟩) hr' K 0 (by omega)
  · rw [show ((x.length : Int) != (y.length : Int)) = true by simp; omega]
    simp only []
    rw [show decide (x = y) = false by simp; intro he; exact hl (by rw [he])]
/-! ### what an unfolding holds -/
theorem unfO_ok {m : Mo} : ∀ {F i : Nat} {u u' : U}, UI m (i * sigN m) u → unfO m F i u = .inl u' → ∃ i', UI m (i' * sigN m) u' ∧ i' ≤ i + F
  | 0, i, u, u', h, he => by unfold unfO at he; cases he; exact ⟨i, h, by omega⟩
  | F + 1, i, u, u', h, he => by
    unfold unfO at he
    split at he
    · rename_i hi
      split at he
      · cases he
      · rename_i u1 h1
        obtain ⟨g1, g2⟩ := unfK_ok h hi (by omega) h1
        obtain ⟨i', f1, f2⟩ := unfO_ok (i := i + 1) (by rw [Nat.succ_mul]; exact g1) he
        exact ⟨i', f1, by omega⟩
    · cases he
      exact ⟨i, h, by omega⟩
/-- The law ModelUnfolds. -/
theorem r3 {K : Nat} (m : Mo) (hf : moFit K m) (hK : 800 ≤ K) (e13 : run tab (K + 3) 13 [] = some (B true)) : run tab (K + 4) 3 [eMo m] = some (B true) := by
  have e15 := r15 (K := K + 3) m (hf.mono (by omega))
  have e14 := r14 (K := K + 1) m (hf.mono (by omega)) (by omega)
  have e16 := r16 (K := K + 3) m (hf.mono (by omega))
  have e17 : (moErr m).2 = 0 → _ := r17 (K := K + 1) m (hf.mono (by omega)) (by omega)
  have b0 : run tab (K + 3) 18 [.agg [I 0, I 0, I 0, I 0, .sl 97 []], .agg [I 0, I 0, I 0, I 0, .sl 97 []]] = some (B true) := by
    have := r18 (K := K + 3) 0 0 0 0 0 0 0 0 [] [] (by simp) (by simp)
    simpa [eM, steps] using this
  have b1 : run tab (K + 3) 19 [.sl 22 [], .sl 22 []] = some (B true) := by
    have := r19 (K := K + 3) [] [] (by simp) (by simp) (by simp) (by simp)
    simpa using this
  have c0 : ∀ e, compN (badU e) 0 = .agg [I 0, I 0, I 0, I 0, .sl 97 []] := fun _ => rfl
  have c1 : ∀ e, compN (badU e) 1 = .sl 22 [] := fun _ => rfl
  have c2 : ∀ e, compN (badU e) 2 = I e := fun _ => rfl
  unfold eMo at *
  rw [eq3]; unfold sh3 tr3
  simp only [e13, castB_B, Bool.not_true, e15, cellN_agg, List.getD_cons_zero, List.getD_cons_succ, castI_I, castL_L, e14, e16, pairI0, pairI1]
  by_cases h0 : (moErr m).2 = 0
  · rw [h0]
    simp only [beq_self_eq_true, e17 h0]
    cases hu : unfM m with
    | inr e =>
      simp only [outU, c0, c1, c2, cellN_agg, List.getD_cons_zero, List.getD_cons_succ, castI_I, castL_L, beq_self_eq_true, b0, b1, castB_B]
    | inl u =>
      have ok := moOk_of h0
      have hv := ok.vs
      have hs : sigN m = tot m.ins := allPs_len _ _
      have ht := ok.tot
      unfold unfM at hu
      rw [if_pos h0] at hu
      obtain ⟨i', f1, f2⟩ := unfO_ok (ui0 m) hu
      have hle := f1.le
      have hst := f1.st
      have hm : i' * sigN m ≤ 41 * 8 := Nat.mul_le_mul (by omega) (by omega)
      have d0 := r18 (K := K + 3) (u.1.length : Int) (sigN m : Int) m.o 0 (u.1.length : Int) (sigN m : Int) m.o 0 u.2 u.2 (by omega) (by omega)
      have d1 := r19 (K := K + 3) u.1 u.1 (by omega) (fun r hr => by rw [f1.rows r hr]; omega) (fun r hr => by rw [f1.rows r hr]; omega) (by omega)
      unfold eM at d0
      simp only [and_self, decide_true] at d0 d1
      simp only [outU, comp30, comp31, comp32, cellN_agg, List.getD_cons_zero, List.getD_cons_succ, castI_I, castL_L, beq_self_eq_true, d0, d1, castB_B]
  · have hu : unfM m = .inr (moErr m).2 := by unfold unfM; rw [if_neg h0]
    rw [hu, show ((moErr m).2 == 0) = false by simpa using h0]
    simp only [outU, c0, c1, c2, cellN_agg, List.getD_cons_zero, List.getD_cons_succ, castI_I, castL_L, beq_self_eq_true, b0, b1, castB_B]
end Go.Proofs.YtahifpeggdcamaaDoor
