/- A part of an interpreter of the model's code that is proved sound, and of laws told by it: DamO3. -/
import Derived.Test.YtahifpeggdcamaaDoorPmI2
set_option linter.unusedVariables false
set_option linter.unusedSimpArgs false
/- The law ModelSame. -/
namespace Go.Proofs.YtahifpeggdcamaaDoor
open Go.Dam
set_option linter.unusedVariables false
set_option linter.unusedSimpArgs false
theorem ansS_inv {l : List St4} {f : Int} {w : List Int} {t : Int} {ts : List Int} (h : (ansS l f w).2 = t :: ts) : ∃ n w', w = n :: w' ∧ ∃ s, stp l f n = some s ∧ s.t = t ∧ (ansS l s.t w').2 = ts ∧ (ansS l f w).1 = s.o :: (ansS l s.t w').1 := by
  cases w with
  | nil => simp [ansS] at h
  | cons n w' =>
    refine ⟨n, w', rfl, ?_⟩
    cases hs : stp l f n with
    | none => simp [ansS, hs] at h
    | some s =>
      simp only [ansS, hs, List.cons.injEq] at h
      exact ⟨s, rfl, h.1, h.2, by simp only [ansS, hs]⟩
theorem unfO_err {m : Mo} : ∀ {F i : Nat} {u : U} {e : Int}, unfO m F i u = .inr e → e ≠ 0
  | 0, i, u, e, he => by unfold unfO at he; cases he
  | F + 1, i, u, e, he => by
    have one : ∀ {i k : Nat} {u : U} {e : Int}, unf1 m i k u = .inr e → e ≠ 0 := by
      intro i k u e he
      unfold unf1 at he
      split at he
      · cases he
      · split at he
        · split at he
          · split at he
            · cases he; decide
            · cases he
          · cases he
        · rename_i h0
          cases he; exact h0
    have kk : ∀ {c i k : Nat} {u : U} {e : Int}, unfK m i c k u = .inr e → e ≠ 0 := by
      intro c
      induction c with
      | zero => intro i k u e he; unfold unfK at he; cases he
      | succ c ih =>
        intro i k u e he
        unfold unfK at he
        split at he
        · rename_i e' h1; cases he; exact one h1
        · exact ih he
    unfold unfO at he
    split at he
    · split at he
      · rename_i e' h1; cases he; exact kk h1
      · exact unfO_err he
    · cases he
theorem unfM_err {m : Mo} {e : Int} (he : unfM m = .inr e) : e ≠ 0 := by
  unfold unfM at he
  split at he
  · exact unfO_err he
  · rename_i h0; cases he; exact h0
theorem rows_at {u : U} {t : Nat} (h : t < u.1.length) : (u.1.map eRow)[t]? = some (.sl 3 (ints (gA u t))) := by
  simp [gA, List.getD_eq_getElem?_getD, h, eRow]
theorem l10 {K : Nat} (m : Mo) (hf : moFit K m) (h0 : (moErr m).2 = 0) {u : U} (h : UF m u) (w : List Int) (hw : ∀ n ∈ w, 0 ≤ n ∧ n < (sigN m : Int)) (hl : w.length ≤ 1000) (code : Int) :
    ∀ (k i a : Nat), (ansS u.2 0 w).2.length - i < k → i ≤ (ansS u.2 0 w).2.length → a < u.1.length → (ansS u.2 a (w.drop i)).2 = (ansS u.2 0 w).2.drop i → (ansS u.2 a (w.drop i)).1 = (ansS u.2 0 w).1.drop i →
    lp10_14 (K + 3) k (ints w) (u.1.map eRow) code (ints (ansS u.2 0 w).1) (ints (ansS u.2 0 w).2) (a : Int) (i : Int) m.s m.st (ints m.ins) m.o (m.vs.map eVa) (m.ms.map eMv) = some (B ((code == 0) == (((ansS u.2 0 w).1.length : Int) == (w.length : Int))))
  | 0, i, a, h1, _, _, _, _ => by omega
  | k + 1, i, a, h1, hil, ha, e2, e1 => by
    have ok := moOk_of h0
    have hv := ok.vs
    have g2 := hf.vs
    obtain ⟨p1, p2⟩ := h.pos
    obtain ⟨q1, q2⟩ := ansS_len u.2 w 0
    unfold lp10_14 tr10_14
    rw [ints_len]
    by_cases hi : i < (ansS u.2 0 w).2.length
    · rw [List.drop_eq_getElem_cons hi] at e2
      obtain ⟨n, w', hwd, s, hs, ht, hts, ho⟩ := ansS_inv e2
      have hi1 : i < (ansS u.2 0 w).1.length := by omega
      rw [List.drop_eq_getElem_cons hi1, ho] at e1
      have ho1 : (ansS u.2 0 w).1[i] = s.o := by have := (List.cons.inj e1).1; exact this.symm
      have ho2 : (ansS u.2 s.t w').1 = (ansS u.2 0 w).1.drop (i + 1) := (List.cons.inj e1).2
      have hiw : i < w.length := by
        by_cases hh : i < w.length
        · exact hh
        · rw [List.drop_eq_nil_of_le (by omega)] at hwd; cases hwd
      have hwi : w[i] = n ∧ w.drop (i + 1) = w' := by
        rw [List.drop_eq_getElem_cons hiw] at hwd
        exact ⟨(List.cons.inj hwd).1, (List.cons.inj hwd).2⟩
      have hn := hw _ (List.getElem_mem hiw)
      rw [hwi.1] at hn
      have hg := h.good a n.toNat ha (by omega)
      unfold Good at hg
      rw [show ((n.toNat : Nat) : Int) = n by omega] at hg
      rcases hg with ⟨_, hbad⟩ | ⟨c0, t, ht1, ht2, ht3⟩
      · rw [hs] at hbad; cases hbad
      rw [hs] at ht2
      have hse : s = ⟨a, n, (nxt m (gA u a) n.toNat).2.1, t⟩ := Option.some.inj ht2
      have hto : (ansS u.2 0 w).2[i] = (t : Int) := by rw [← ht, hse]
      have hso : s.o = (nxt m (gA u a) n.toNat).2.1 := by rw [hse]
      have hrow := h.rows a ha
      have hrow' := h.rows t ht1
      have hla := hrow.len
      have hlt := hrow'.len
      have e15 := r15 (K := K + 3) m (hf.mono (by omega))
      have e27 := r27 (K := K + 3) (ints (gA u a)) (by
        rw [ints_len, hla]
        have : (1000 : Nat) * 8 ≤ maxBytes := by decide
        omega) (by omega)
      have e26 := r26 m hf (gA u a) (by omega) n
      have hnof : nofS m (gA u a) n = nxt m (gA u a) n.toNat := by
        unfold nofS
        obtain ⟨s1, s2⟩ := sig_pos ok
        rw [if_pos h0, if_pos hrow.err, if_pos]
        rw [within_iff, w1_nat (by omega)]; omega
      rw [hnof] at e26
      have hu : (u.1.map eRow).length = u.1.length := by simp
      have e29 : run tab (K + 3) 29 [I (t : Int), I 0, I (IntKind.i64.wrap (((u.1.map eRow).length : Int) - 1))] = some (B true) := by
        rw [r29 (by omega), within_iff.2]
        rw [hu, wrapI ⟨by omega, by omega⟩]; omega
      have e31 := r31s (K := K + 3) (nxt m (gA u a) n.toNat).1 (by rw [← ht3]; omega) (by rw [← ht3]; omega)
      have ih := l10 m hf h0 h w hw hl code k (i + 1) t (by omega) (by omega) ht1 (by rw [hwi.2, ← hto, ← ht]; exact hts) (by rw [hwi.2, ← hto, ← ht]; exact ho2)
      unfold eMo at e15 e26
      rw [show decide ((i : Int) < ((ansS u.2 0 w).2.length : Int)) = true by simpa using hi]
      have gw : (ints w)[((i : Nat) : Int).toNat]? = some (I n) := by rw [ints_get hiw, hwi.1]
      have gto : (ints (ansS u.2 0 w).2)[((i : Nat) : Int).toNat]? = some (I (t : Int)) := by rw [ints_get hi, hto]
      have go : (ints (ansS u.2 0 w).1)[((i : Nat) : Int).toNat]? = some (I s.o) := by rw [ints_get hi1, ho1]
      have ga : (u.1.map eRow)[((a : Nat) : Int).toNat]? = some (.sl 3 (ints (gA u a))) := by rw [Int.toNat_natCast]; exact rows_at ha
      have gt : (u.1.map eRow)[((t : Nat) : Int).toNat]? = some (.sl 3 (ints (nxt m (gA u a) n.toNat).1)) := by rw [Int.toNat_natCast, rows_at ht1, ht3]
      simp only [if_pos (Int.natCast_nonneg i), if_pos (Int.natCast_nonneg a), if_pos (Int.natCast_nonneg t), gw, gto, go, ga, gt, castL_L, castI_I, e15, cellN_agg, List.getD_cons_zero, List.getD_cons_succ, e27, e26, tri0, tri1, tri2, c0, bne_self_eq_false, ← hso, e29, castB_B, Bool.not_true, e31]
      rw [wrapN (by omega)]
      exact ih
    · rw [show decide ((i : Int) < ((ansS u.2 0 w).2.length : Int)) = false by simpa using hi]
      simp only [ints_len]
theorem r10 {K : Nat} (m : Mo) (w : List Int) (hf : moFit K m) (hw : w.length * 8 ≤ maxBytes) (hK : w.length + 1000 ≤ K) (e13 : run tab (K + 3) 13 [] = some (B true)) : run tab (K + 4) 10 [eMo m, .sl 3 (ints w)] = some (B true) := by
  have hb := big hw (by omega)
  have e15 := r15 (K := K + 3) m (hf.mono (by omega))
  have e14 := r14 (K := K + 1) m (hf.mono (by omega)) (by omega)
  have e27 := r27 (K := K + 3) (ints w) (by rw [ints_len]; exact hw) (by omega)
  have e35 := r35 (K := K + 1) m (hf.mono (by omega)) w hb (by omega)
  have c0 : ∀ e, compN (badU e) 0 = .agg [I 0, I 0, I 0, I 0, .sl 97 []] := fun _ => rfl
  have c1 : ∀ e, compN (badU e) 1 = .sl 22 [] := fun _ => rfl
  have c2 : ∀ e, compN (badU e) 2 = I e := fun _ => rfl
  cases hu : unfM m with
  | inr e =>
    have he := unfM_err hu
    rw [hu] at e14
    unfold eMo at *
    rw [eq10]; unfold sh10 tr10
    simp only [e13, castB_B, Bool.not_true, e15, cellN_agg, List.getD_cons_zero, List.getD_cons_succ, castI_I, castL_L, e14, outU, c0, c1, c2]
    rw [show (e != 0) = true by simpa using he]
  | inl u =>
    have h0 : (moErr m).2 = 0 := by
      by_cases hh : (moErr m).2 = 0
      · exact hh
      · unfold unfM at hu; rw [if_neg hh] at hu; cases hu
    have ok := moOk_of h0
    have h := unf_final h0 hu
    have ma := h.ma
    obtain ⟨p1, p2⟩ := h.pos
    obtain ⟨s1, s2⟩ := sig_pos ok
    have hlen := ma.len
    rw [hu] at e14
    have e33 := r33 (K := K + 3) (u.1.length : Int) (sigN m : Int) m.o 0 u.2 (by omega) (by omega)
    rw [ma.err] at e33
    have e36 := r36 (K := K + 3) w hb (sigN m) 60 (by omega)
    have e21 := r21 (K := K + 3) (u.1.length : Int) (sigN m : Int) m.o 0 u.2 (by
      have : (1000 : Nat) * 32 ≤ maxBytes := by decide
      omega) (by omega)
    have e40 := r40 (K := K + 3) (u.1.length : Int) (sigN m : Int) m.o 0 u.2 0 w (by omega) hb (by omega)
    have hlr : ((u.1.map eRow).length : Int) = (u.1.length : Int) := by simp
    by_cases h1 : wordE w (sigN m) 60 = 0
    · obtain ⟨b1, b2⟩ := wordE_ok h1
      have hwb : ∀ n ∈ w, 0 ≤ n ∧ n < (sigN m : Int) := fun n hn => by
        have := b2 n hn
        rw [w1_nat (by omega), within_iff] at this
        omega
      have ha : ansE (u.1.length : Int) (sigN m : Int) m.o 0 u.2 0 w = 0 := by
        unfold ansE
        rw [ma.err, h1, within_iff.2 (show 0 ≤ (0 : Int) ∧ 0 ≤ w1 (u.1.length : Int) by rw [w1_nat (by omega)]; omega)]
        rfl
      rw [ha, if_pos rfl] at e40
      have hrun : runM m w = ((ansS u.2 0 w).1, if (ansS u.2 0 w).1.length = w.length then 0 else 23) := by
        unfold runM
        rw [if_pos h0, if_pos h1, ← h.first, run_ans h w 0 [] hwb (by omega)]
        simp
      rw [hrun] at e35
      obtain ⟨q1, q2⟩ := ansS_len u.2 w 0
      have e31 := r31s (K := K + 3) (ansS u.2 0 w).1 (by omega) (by omega)
      have fin := l10 m hf h0 h w hwb (by omega) (if (ansS u.2 0 w).1.length = w.length then 0 else 23) (K + 3) 0 0 (by omega) (by omega) (by omega) rfl rfl
      have hres : some (B (((if (ansS u.2 0 w).1.length = w.length then (0 : Int) else 23) == 0) == (((ansS u.2 0 w).1.length : Int) == (w.length : Int)))) = some (B true) := by
        by_cases hh : (ansS u.2 0 w).1.length = w.length
        · rw [if_pos hh, hh]; simp
        · rw [if_neg hh, show (((ansS u.2 0 w).1.length : Int) == (w.length : Int)) = false by simp; omega]; rfl
      have hne : ((ansS u.2 0 w).2.length : Int) = ((ansS u.2 0 w).1.length : Int) := by omega
      rw [hres] at fin
      unfold eM at e33 e21 e40
      unfold eMo at *
      rw [eq10]; unfold sh10 tr10
      simp only [e13, castB_B, Bool.not_true, e15, cellN_agg, List.getD_cons_zero, List.getD_cons_succ, castI_I, castL_L, e14, outU, comp30, comp31, comp32, bne_self_eq_false, e33, hlr, e36, h1, e27, e35, e21, e40, hne, ints_len]
      by_cases hh : (ansS u.2 0 w).1.length = w.length
      · rw [if_pos hh] at fin ⊢
        simp only [bne_self_eq_false, e31, castB_B, Bool.not_true, hne]
        exact fin
      · rw [if_neg hh] at fin ⊢
        simp only [show ((23 : Int) != 0) = true from rfl, bne_self_eq_false, e31, castB_B, Bool.not_true, hne]
        exact fin
    · unfold eM at e33
      unfold eMo at *
      rw [eq10]; unfold sh10 tr10
      simp only [e13, castB_B, Bool.not_true, e15, cellN_agg, List.getD_cons_zero, List.getD_cons_succ, castI_I, castL_L, e14, outU, comp30, comp31, comp32, bne_self_eq_false, e33, hlr, e36]
      rw [show (wordE w (sigN m) 60 != 0) = true by simpa using h1]
      simp only [beq_self_eq_true]
end Go.Proofs.YtahifpeggdcamaaDoor
