/- A part of an interpreter of the model's code that is proved sound, and of laws told by it: DamA3, DamLaw3. -/
import Derived.Test.YtahifpeggdcamaaGreatDoorPqK1
import Derived.Test.YtahifpeggdcamaaGreatDoorPqH2
import Derived.Test.YtahifpeggdcamaaGreatDoorPqE3
import Derived.Test.YtahifpeggdcamaaGreatDoorPqDA
set_option linter.unusedVariables false
set_option linter.unusedSimpArgs false
/- The law ModelAnswers. -/
namespace Go.Proofs.YtahifpeggdcamaaGreatDoor
open Go.Dam
set_option linter.unusedVariables false
set_option linter.unusedSimpArgs false
theorem stF_len (u : List Ac) : ∀ (c i : Nat), (stF u c i).length ≤ c
  | 0, i => Nat.le_refl _
  | c + 1, i => by
    unfold stF
    have := stF_len u c (i + 1)
    rw [List.length_append]
    have h : (if inL (i : Int) (fsts u) = true then [(i : Int)] else []).length ≤ 1 := by split <;> simp
    omega
/-- The reference's lists are put together. -/
theorem l3 (K : Nat) {S N O T : Int} {l : List St4} (s1 : 1 ≤ S) (s2 : S ≤ 40) (u : List Ac) (hw : ∀ s, 0 ≤ s → s < S → (wordOf u s).length ≤ 40) (a1 : Int) (w : List AV) (c : Int) (x4 x5 : List AV) :
    ∀ (k i : Nat) (acc : List Int), S.toNat - i < k → i ≤ S.toNat → acc.length ≤ i → ∃ k',
    lp3_12 K k a1 w c x4 x5 (wordsA S u) (isA S u) (ints acc) (acc.map (accT u)) (i : Int) S N O T (steps l) =
    lp3_12 K (k' + 1) a1 w c x4 x5 (wordsA S u) (isA S u) (ints (acc ++ stF u (S.toNat - i) i)) ((acc ++ stF u (S.toNat - i) i).map (accT u)) S S N O T (steps l)
  | 0, i, acc, h, _, _ => by omega
  | k + 1, i, acc, h, hi, ha => by
    by_cases hii : i < S.toNat
    · have hr : 0 ≤ (i : Int) ∧ (i : Int) < S := by omega
      have g1 := isA_get (u := u) hr
      have g2 := wordsA_get (u := u) hr
      rw [show S.toNat - i = (S.toNat - (i + 1)) + 1 by omega]
      cases hin : inL (i : Int) (fsts u) with
      | true =>
        have q1 : ((ints acc).length + ([I (i : Int)] : List AV).length) * 8 ≤ maxBytes := by
          have : (2000 : Nat) * 8 ≤ maxBytes := by decide
          simp only [ints_len, List.length_cons, List.length_nil]; omega
        have q2 : ((acc.map (accT u)).length + ([.sl 3 (ints (wordOf u (i : Int)))] : List AV).length) * 24 ≤ maxBytes := by
          have : (2000 : Nat) * 24 ≤ maxBytes := by decide
          simp only [List.length_map, List.length_cons, List.length_nil]; omega
        obtain ⟨k', ih⟩ := l3 K (N := N) (O := O) (T := T) (l := l) s1 s2 u hw a1 w c x4 x5 k (i + 1) (acc ++ [(i : Int)]) (by omega) (by omega) (by simp; omega)
        refine ⟨k', Eq.trans ?_ (ih.trans ?_)⟩
        · conv => lhs; unfold lp3_12 tr3_12
          rw [← wrapN (by omega)]
          rw [show decide ((i : Int) < S) = true by simp; omega]
          simp only [if_pos (Int.natCast_nonneg i), g1, castB_B, hin, g2, castL_L, if_pos q1, if_pos q2]
          simp [ints, accT]
        · simp only [stF, hin, if_true, List.append_assoc]
      | false =>
        obtain ⟨k', ih⟩ := l3 K (N := N) (O := O) (T := T) (l := l) s1 s2 u hw a1 w c x4 x5 k (i + 1) acc (by omega) (by omega) (by omega)
        refine ⟨k', Eq.trans ?_ (ih.trans ?_)⟩
        · conv => lhs; unfold lp3_12 tr3_12
          rw [← wrapN (by omega)]
          rw [show decide ((i : Int) < S) = true by simp; omega]
          simp only [if_pos (Int.natCast_nonneg i), g1, castB_B, hin]
        · simp only [stF, hin, Bool.false_eq_true, if_false, List.nil_append]
    · have : i = S.toNat := by omega
      subst this
      refine ⟨k, ?_⟩
      rw [Nat.sub_self, show ((S.toNat : Nat) : Int) = S by omega]
      simp [stF]
theorem wordOf_len {S : Int} {u : List Ac} (h : AI S u) (s : Int) : (wordOf u s).length ≤ 40 := by
  have hlen := h.len
  have hs := h.s
  unfold wordOf
  cases hf : u.find? (fun (x : Ac) => x.1 == s) with
  | none => simp
  | some x =>
    obtain ⟨j, hj⟩ := List.getElem?_of_mem (List.mem_of_find?_eq_some hf)
    have := h.wl j x hj
    have := (List.getElem?_eq_some_iff.1 hj).1
    simp only [Option.map_some, Option.getD_some]
    omega
theorem r3 {K : Nat} (S N O T : Int) (l : List St4) (f : Int) (w : List Int) (hl : l.length * 32 ≤ maxBytes) (hw : w.length * 8 ≤ maxBytes) (hK : l.length + w.length + 2300 ≤ K) (e5 : run tab K 5 [] = some (B true)) :
    run tab (K + 1) 3 [eM S N O T l, I f, .sl 3 (ints w)] = some (B true) := by
  have hb : l.length ≤ 4611686018427387904 := by unfold maxBytes at hl; omega
  have hb' : w.length ≤ 4611686018427387904 := by unfold maxBytes at hw; omega
  have e6 := r33 (K := K) S N O T l hb (by omega)
  have e8 := r21 (K := K) S N O T l hl (by omega)
  have e7 := r7 (K := K) S N O T l hb (by omega)
  have e13 := r27 (K := K) (ints w) (by rw [ints_len]; exact hw) (by omega)
  have e12 := r40 (K := K) S N O T l f w hb hb' (by omega)
  have e14 := r29 (K := K) (by omega) f 0 (IntKind.i64.wrap (S - 1))
  have e15 := r36 (K := K) w hb' N 60 (by omega)
  have hz : (IntKind.i64.wrap ((([] : List AV).length : Int) + (([] : List AV).length : Int)) == (0 : Int)) = true := by rfl
  unfold acsT at e7
  unfold ansE at e12
  by_cases h0 : (machErr S N O T l).2 = 0
  · have ok := maOk_of h0
    have hp : AI S (accM l N T) := acc_ai ok (ai0 ok.s.2 ok.t)
    have hlen := hp.len
    have hS := hp.s
    obtain ⟨s1, s2⟩ := ok.s
    have e9 := r9 (K := K) ok (by omega)
    obtain ⟨k', main⟩ := l3 K (N := N) (O := O) (T := T) (l := l) s1 s2 (accM l N T) (fun s _ _ => wordOf_len hp s) f (ints w) 0 (ints (stF (accM l N T) S.toNat 0)) ((stF (accM l N T) S.toNat 0).map (accT (accM l N T))) K 0 [] (by omega) (by omega) (by simp)
    rw [Nat.sub_zero, List.nil_append] at main
    have hsl := stF_len (accM l N T) S.toNat 0
    have e10 := r31s (K := K) (stF (accM l N T) S.toNat 0) (by omega) (by omega)
    have hmap : (stF (accM l N T) S.toNat 0).map (accT (accM l N T)) = ((stF (accM l N T) S.toNat 0).map (wordOf (accM l N T))).map eRow := by rw [List.map_map]; rfl
    have e11 := r19 (K := K) ((stF (accM l N T) S.toNat 0).map (wordOf (accM l N T))) ((stF (accM l N T) S.toNat 0).map (wordOf (accM l N T))) (by simp; omega) (fun r hr => by
      obtain ⟨s, _, rfl⟩ := List.mem_map.1 hr
      have := wordOf_len hp s
      omega) (fun r hr => by
      obtain ⟨s, _, rfl⟩ := List.mem_map.1 hr
      have := wordOf_len hp s
      omega) (by simp; omega)
    rw [← hmap, decide_eq_true rfl] at e11
    rw [if_pos h0] at e7
    rw [h0] at e12
    have start : run tab (K + 1) 3 [eM S N O T l, I f, .sl 3 (ints w)] = lp3_12 K K f (ints w) 0 (ints (stF (accM l N T) S.toNat 0)) ((stF (accM l N T) S.toNat 0).map (accT (accM l N T))) (wordsA S (accM l N T)) (isA S (accM l N T)) (ints []) (List.map (accT (accM l N T)) []) ((0 : Nat) : Int) S N O T (steps l) := by
      unfold eM at *
      rw [eq3]; unfold sh3 tr3
      simp only [e5, castB_B, Bool.not_true, e6, castI_I, e8, cellN_agg, List.getD_cons_zero, List.getD_cons_succ, castL_L, e7, comp30, comp31, comp32, h0, bne_self_eq_false, beq_self_eq_true, e9, comp20, comp21]
      rfl
    rw [start, main]
    unfold lp3_12 tr3_12
    rw [show decide (S < S) = false by simp]
    have hw1 : IntKind.i64.wrap (S - 1) = w1 S := rfl
    rw [hw1] at e14 ⊢
    unfold eM at *
    by_cases hf : within f 0 (w1 S) = true
    · by_cases hwd : wordE w N 60 = 0
      · have hwl := (wordE_ok hwd).1
        have e16 := r43 (K := K) S N O T f l (by have := ok.len; omega) w (by omega) (by omega)
        unfold eM at e16
        have a1 := ansS_len l w f
        have x1 := r31s (K := K) (ansS l f w).1 (by omega) (by omega)
        have x2 := r31s (K := K) (ansS l f w).2 (by omega) (by omega)
        rw [hf, hwd] at e12
        simp only [orI, if_true] at e12
        rw [hf] at e14
        rw [hwd] at e15
        simp only [e10, castB_B, Bool.not_true, e11, e8, cellN_agg, List.getD_cons_zero, List.getD_cons_succ, castI_I, castL_L, e13, e12, comp30, comp31, comp32, beq_self_eq_true, e14, e15, bne_self_eq_false, e16, comp20, comp21, x1, x2]
      · rw [hf] at e12
        simp only [orI, if_true, if_neg hwd] at e12
        rw [hf] at e14
        have hne : (wordE w N 60 != 0) = true := by simpa using hwd
        simp only [e10, castB_B, Bool.not_true, e11, e8, cellN_agg, List.getD_cons_zero, List.getD_cons_succ, castI_I, castL_L, e13, e12, comp30, comp31, comp32, beq_self_eq_true, e14, e15, hne, hz]
    · simp only [Bool.not_eq_true] at hf
      rw [hf] at e12 e14
      simp only [orI, if_true, Bool.false_eq_true, if_false] at e12
      rw [if_neg (show ¬ (3 : Int) = 0 by omega)] at e12
      simp only [e10, castB_B, Bool.not_true, Bool.not_false, e11, e8, cellN_agg, List.getD_cons_zero, List.getD_cons_succ, castI_I, castL_L, e13, e12, comp30, comp31, comp32, beq_self_eq_true, e14, hz]
      rfl
  · have hne : ((machErr S N O T l).2 != 0) = true := by simpa using h0
    have hne2 : ((machErr S N O T l).2 == 0) = false := by simpa using h0
    have hd : decide (IntKind.i64.wrap ((([] : List AV).length : Int) + (([] : List AV).length : Int)) > (0 : Int)) = false := by rfl
    rw [if_neg h0] at e7
    simp only [orI, if_neg h0] at e12
    unfold eM at *
    rw [eq3]; unfold sh3 tr3
    simp only [e5, castB_B, Bool.not_true, e6, castI_I, e8, cellN_agg, List.getD_cons_zero, List.getD_cons_succ, castL_L, e7, comp30, comp31, comp32, bne_self_eq_false, hne, hd, hne2, e13, e12, beq_self_eq_true, hz]
end Go.Proofs.YtahifpeggdcamaaGreatDoor

/- The law ModelAnswers: told true of each well-formed input. -/
namespace Go.Proofs.YtahifpeggdcamaaGreatDoor
open Go.Dam
theorem dec22 {a : AV} (h : WfA tab 25 a) : ∃ l : List Int, a = .sl 3 (ints l) ∧ l.length * 8 ≤ maxBytes := by
  obtain ⟨z, s, b, hi, _, h2⟩ := h
  have hi' : tabInfo 25 = some (z, s, b) := hi
  cases hi'
  have := h2 0 (by omega)
  rw [elCell_eq] at this
  obtain ⟨l, z, s, b, hn, i4, w4, d4⟩ := wf_sl this
  cases i4
  obtain ⟨g4, rfl, _⟩ := wf_map I (fun _ => True) fun x hx => dec3 (d4 x hx)
  have e : a = .sl 3 (g4.map I) := hn
  simp only [List.length_map] at w4
  exact ⟨g4, e, reach_max w4⟩
theorem law3 (av : List AV) (hl : av.length = [24, 3, 25].length) (h : ∀ j t, [24, 3, 25][j]? = some t → WfA tab t (av.getD j .undef)) : ∃ k, run tab k 3 av = some (.sc (.bool true)) := by
  match av, hl with
  | [a, b, c], _ =>
    obtain ⟨S, N, O, T, l, rfl, h1⟩ := dec30 (h 0 24 rfl)
    obtain ⟨f, rfl, _⟩ := dec3 (h 1 3 rfl)
    obtain ⟨w, rfl, h2⟩ := dec22 (h 2 25 rfl)
    have e5 := awake_run (l.length + w.length + 2300)
    exact ⟨l.length + w.length + 2340 + 1, r3 (K := l.length + w.length + 2340) S N O T l f w h1 h2 (by omega) e5⟩
end Go.Proofs.YtahifpeggdcamaaGreatDoor
