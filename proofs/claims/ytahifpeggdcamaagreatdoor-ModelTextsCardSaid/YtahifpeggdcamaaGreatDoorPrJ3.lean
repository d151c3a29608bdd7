/- A part of an interpreter of the model's code that is proved sound, and of laws told by it: DamB6, DamLaw4. -/
import Derived.Test.YtahifpeggdcamaaGreatDoorPrJ2
import Derived.Test.YtahifpeggdcamaaGreatDoorPrE3
import Derived.Test.YtahifpeggdcamaaGreatDoorPrDA
set_option linter.unusedVariables false
set_option linter.unusedSimpArgs false
/- Both parsers, and the law ModelTexts. -/
namespace Go.Proofs.YtahifpeggdcamaaGreatDoor
open Go.Dam
set_option linter.unusedVariables false
set_option linter.unusedSimpArgs false
def badT (c : Int) : AV := .tup [eM 0 0 0 0 [], I c]
def finM (S N O T : Int) (l : List St4) : AV := if (machErr S N O T l).2 = 0 then .tup [eM S N O T l, I 0] else badT (machErr S N O T l).2
def stOf (p : List UInt8) : St4 := match vals p with
  | [a, b, c, d] => ⟨a, b, c, d⟩
  | _ => ⟨0, 0, 0, 0⟩
theorem stOf_of {p : List UInt8} {a b c d : Int} (h : vals p = [a, b, c, d]) : stOf p = ⟨a, b, c, d⟩ := by
  unfold stOf
  rw [h]
theorem quad_vals {p : List UInt8} (h : quad 3 p = true) : ∃ a b c d, vals p = [a, b, c, d] := by
  unfold quad at h
  simp only [Bool.and_eq_true, decide_eq_true_eq] at h
  have : (vals p).length = 4 := by unfold vals; rw [List.length_map]; exact h.1
  match vals p, this with
  | [a, b, c, d], _ => exact ⟨a, b, c, d, rfl⟩
theorem steps_app (l : List St4) (a b c d : Int) : steps l ++ [.agg [I a, I b, I c, I d]] = steps (l ++ [⟨a, b, c, d⟩]) := by simp [steps, eS]
theorem q32 {n : Nat} (h : n ≤ 20000) : (n + 1) * 32 ≤ maxBytes := by
  have : (30000 : Nat) * 32 ≤ maxBytes := by decide
  omega
/-- What is read of a text. -/
def parseT (l : List UInt8) : AV := if 8000 < l.length then badT 2 else match spl 59 l with
  | [] => badT 8
  | p :: ps => if (quad 3 p && ps.all (quad 3)) = true then finM (stOf p).f (stOf p).i (stOf p).o (stOf p).t (ps.map stOf) else badT 8
theorem finM_form (S N O T : Int) (l : List St4) (h : l.length ≤ 20000) : ∃ S' N' O' T' m c, finM S N O T l = .tup [eM S' N' O' T' m, I c] ∧ m.length ≤ 20000 := by
  unfold finM
  split
  · exact ⟨_, _, _, _, _, _, rfl, h⟩
  · exact ⟨_, _, _, _, _, _, rfl, by simp⟩
theorem parseT_form (l : List UInt8) : ∃ S N O T m c, parseT l = .tup [eM S N O T m, I c] ∧ m.length ≤ 20000 := by
  unfold parseT
  split
  · exact ⟨_, _, _, _, _, _, rfl, by simp⟩
  · rename_i h8
    have hs := spl_len 59 l
    have hc : l.count 59 ≤ l.length := List.count_le_length
    split
    · exact ⟨_, _, _, _, _, _, rfl, by simp⟩
    · rename_i p ps e
      rw [e, List.length_cons] at hs
      split
      · exact finM_form _ _ _ _ _ (by rw [List.length_map]; omega)
      · exact ⟨_, _, _, _, _, _, rfl, by simp⟩
theorem t19_bad {K k : Nat} (hK : 10 ≤ K) (hk : 1 ≤ k) (s : ByteArray) (more : Bool) (y4 y5 y6 y7 : Int) (y8 : List AV) (y9 y10 y11 y12 y13 y14 y15 y16 : Int) (y17 : List AV) :
    lp19_6 K k s more false y4 y5 y6 y7 y8 y9 y10 y11 y12 y13 y14 y15 y16 y17 = some (badT 8) := by
  obtain ⟨k, rfl⟩ := succK hk
  have e62 : run tab K 33 [B false, I 8] = some (I 8) := r62 (by omega) false 8
  have e61 : run tab K 32 [.sl 29 [I 8]] = some (I 8) := r61 [8] (by simp) (by simp; omega)
  unfold lp19_6 tr19_6
  cases more <;> simp only [e62, castI_I, e61] <;> rfl
theorem t19_fin {K k : Nat} (hk : 1 ≤ k) (s : ByteArray) (y4 y5 y6 y7 : Int) (y8 : List AV) (y9 y10 y11 y12 S N O T : Int) (l : List St4) (hl : l.length ≤ 20000) (hK : l.length + 20 ≤ K) :
    lp19_6 K k s false true y4 y5 y6 y7 y8 y9 y10 y11 y12 S N O T (steps l) = some (finM S N O T l) := by
  obtain ⟨k, rfl⟩ := succK hk
  have e62 : run tab K 33 [B true, I 8] = some (I 0) := r62 (by omega) true 8
  have e61 : run tab K 32 [.sl 29 [I 0]] = some (I 0) := r61 [0] (by simp) (by simp; omega)
  have e66 := r66 (K := K) S N O T l (by omega) (by omega)
  unfold eM at e66
  unfold lp19_6 tr19_6 finM
  simp only [e62, castI_I, e61, e66]
  by_cases h0 : (machErr S N O T l).2 = 0
  · rw [if_pos h0, h0]
    rfl
  · rw [if_neg h0, show ((machErr S N O T l).2 != 0) = true by simpa using h0]
    rfl
theorem l19p (K : Nat) (S N O T : Int) (hK : 40000 ≤ K) : ∀ (k : Nat) (s : List UInt8) (acc : List St4) (y4 y5 y6 y7 : Int) (y8 : List AV) (y9 y10 y11 y12 : Int), s.length + 2 ≤ k → acc.length + s.length ≤ 10000 →
    lp19_6 K k (sb s) true true y4 y5 y6 y7 y8 y9 y10 y11 y12 S N O T (steps acc) = some (if (spl 59 s).all (quad 3) = true then finM S N O T (acc ++ (spl 59 s).map stOf) else badT 8)
  | 0, s, acc, y4, y5, y6, y7, y8, y9, y10, y11, y12, h, _ => by omega
  | k + 1, s, acc, y4, y5, y6, y7, y8, y9, y10, y11, y12, h, ha => by
    show tr19_6 K (lp19_6 K k) _ _ _ _ _ _ _ _ _ _ _ _ _ _ _ _ _ = _
    unfold tr19_6
    have s59 : (⟨#[59]⟩ : ByteArray) = sb [59] := rfl
    have ec := r42c (K := K) (by omega) s 59 (by omega)
    rcases cut_cases 59 s with hn | ⟨p, r, hp, rfl⟩
    · obtain ⟨a, b, c, d, e43, hv⟩ := r43n (K := K) s (by omega) (by omega)
      rw [s59, ec.1 hn]
      simp only [cmpT, List.getD_cons_zero, List.getD_cons_succ, castS_S, castB_B]
      rw [e43]
      simp only [cmpT, List.getD_cons_zero, List.getD_cons_succ, castB_B, cellA, castI_I]
      rw [steps_app, steps_len, if_pos (by exact q32 (by omega)), spl_nc hn]
      cases hq : quad 3 s with
      | false =>
        rw [t19_bad (by omega) (by omega)]
        simp [hq]
      | true =>
        rw [t19_fin (by omega) _ _ _ _ _ _ _ _ _ _ _ _ _ _ _ (by simp; omega) (by simp; omega)]
        simp [hq, stOf_of (hv hq)]
    · have hlen : (p ++ 59 :: r).length = p.length + 1 + r.length := by simp; omega
      obtain ⟨a, b, c, d, e43, hv⟩ := r43n (K := K) p (by omega) (by omega)
      rw [s59, ec.2 p r hp rfl]
      simp only [cmpT, List.getD_cons_zero, List.getD_cons_succ, castS_S, castB_B]
      rw [e43]
      simp only [cmpT, List.getD_cons_zero, List.getD_cons_succ, castB_B, cellA, castI_I]
      rw [steps_app, steps_len, if_pos (by exact q32 (by omega)), spl_app r hp]
      cases hq : quad 3 p with
      | false =>
        rw [t19_bad (by omega) (by omega)]
        simp [hq]
      | true =>
        have ih := l19p K S N O T hK k r (acc ++ [⟨a, b, c, d⟩]) y4 y5 y6 y7 y8 a b c d (by omega) (by simp; omega)
        rw [ih]
        simp [hq, stOf_of (hv hq)]
theorem r19p {K : Nat} (hK : 50000 ≤ K) (l : List UInt8) : run tab K 19 [St (sb l)] = some (parseT l) := by
  obtain ⟨K, rfl⟩ := succK (show 1 ≤ K by omega)
  rw [eq19]; unfold sh19 tr19 parseT
  rw [sb_size]
  by_cases h8 : 8000 < l.length
  · rw [if_pos h8, decide_eq_true (show (l.length : Int) > 8000 by omega)]
    rfl
  · rw [if_neg h8, decide_eq_false (show ¬ (l.length : Int) > 8000 by omega)]
    have s59 : (⟨#[59]⟩ : ByteArray) = sb [59] := rfl
    have ec := r42c (K := K) (by omega) l 59 (by omega)
    rcases cut_cases 59 l with hn | ⟨p, r, hp, rfl⟩
    · obtain ⟨a, b, c, d, e43, hv⟩ := r43n (K := K) l (by omega) (by omega)
      rw [s59, ec.1 hn]
      simp only [cmpT, List.getD_cons_zero, List.getD_cons_succ, castS_S, castB_B]
      rw [e43]
      simp only [cmpT, List.getD_cons_zero, List.getD_cons_succ, castB_B, cellA, castI_I]
      rw [spl_nc hn]
      cases hq : quad 3 l with
      | false =>
        rw [t19_bad (by omega) (by omega)]
        simp [hq]
      | true =>
        show lp19_6 K K (sb []) false true 0 0 0 0 [] a b c d a b c d (steps []) = _
        rw [t19_fin (by omega) _ _ _ _ _ _ _ _ _ _ _ _ _ _ _ (by simp) (by simp; omega)]
        simp [hq, stOf_of (hv hq)]
    · have hlen : (p ++ 59 :: r).length = p.length + 1 + r.length := by simp; omega
      obtain ⟨a, b, c, d, e43, hv⟩ := r43n (K := K) p (by omega) (by omega)
      rw [s59, ec.2 p r hp rfl]
      simp only [cmpT, List.getD_cons_zero, List.getD_cons_succ, castS_S, castB_B]
      rw [e43]
      simp only [cmpT, List.getD_cons_zero, List.getD_cons_succ, castB_B, cellA, castI_I]
      rw [spl_app r hp]
      cases hq : quad 3 p with
      | false =>
        rw [t19_bad (by omega) (by omega)]
        simp [hq]
      | true =>
        show lp19_6 K K (sb r) true true 0 0 0 0 [] a b c d a b c d (steps []) = _
        rw [l19p K a b c d (by omega) K r [] _ _ _ _ _ _ _ _ _ (by omega) (by simp; omega)]
        simp [hq, stOf_of (hv hq)]
theorem told_quad {K : Nat} {l : List UInt8} (hl : l.length ≤ 8000) (hK : l.length + 30 ≤ K) (at' : Nat) (hat : at' ≤ l.length) (p t : List UInt8) (hp : 59 ∉ p) (ht : t = [] ∨ ∃ r, t = 59 :: r) (hd : l.drop at' = p ++ t) :
    if quad 3 p = true then run tab K 44 [St (sb l), I (at' : Int)] = some (.tup [.sl 3 (ints (vals p)), I ((at' + p.length : Nat) : Int), B true]) else ∃ L n, run tab K 44 [St (sb l), I (at' : Int)] = some (.tup [.sl 3 L, I n, B false]) := by
  have h := r44n (K := K) l (by omega) hK at' hat
  rw [hd, scan_quad 3 p t hp ht] at h
  split
  · rename_i hq
    rw [if_pos hq] at h
    exact h
  · rename_i hq
    rw [if_neg hq] at h
    exact h
theorem l20p (K : Nat) (l : List UInt8) (hl : l.length ≤ 8000) (S N O T : Int) (hK : 40000 ≤ K) (y3 y4 y5 y6 : Int) (y7 : List AV) : ∀ (k at' : Nat) (acc : List St4), at' ≤ l.length → l.length - at' < k → acc.length ≤ at' →
    (l.drop at' = [] → lp20_7 K k (sb l) (at' : Int) y3 y4 y5 y6 y7 S N O T (steps acc) = some (finM S N O T acc)) ∧
    (∀ s, l.drop at' = 59 :: s → lp20_7 K k (sb l) (at' : Int) y3 y4 y5 y6 y7 S N O T (steps acc) = some (if (spl 59 s).all (quad 3) = true then finM S N O T (acc ++ (spl 59 s).map stOf) else badT 8))
  | 0, at', acc, _, h, _ => by omega
  | k + 1, at', acc, hat, h, ha => by
    have hll : (l.drop at').length = l.length - at' := List.length_drop
    refine ⟨fun hd => ?_, fun s hd => ?_⟩
    · rw [hd, List.length_nil] at hll
      have e33 := r33 (K := K) S N O T acc (by omega) (by omega)
      unfold eM at e33
      unfold lp20_7 tr20_7 finM
      rw [sb_size, decide_eq_false (show ¬ ((at' : Int) < (l.length : Int)) by omega)]
      simp only []
      rw [e33]
      simp only [castI_I]
      by_cases h0 : (machErr S N O T acc).2 = 0
      · rw [if_pos h0, h0]
        rfl
      · rw [if_neg h0, show ((machErr S N O T acc).2 != 0) = true by simpa using h0]
        rfl
    · rw [hd, List.length_cons] at hll
      have hd1 : l.drop (at' + 1) = s := by rw [← List.drop_drop, hd]; rfl
      show tr20_7 K (lp20_7 K k) _ _ _ _ _ _ _ _ _ _ _ _ = _
      unfold tr20_7
      rw [sb_size, decide_eq_true (show ((at' : Int) < (l.length : Int)) by omega), wrapN (by omega)]
      simp only []
      rcases cut_cases 59 s with hn | ⟨p, r, hp, rfl⟩
      · have e := told_quad (K := K) hl (by omega) (at' + 1) (by omega) s [] hn (.inl rfl) (by rw [hd1, List.append_nil])
        rw [spl_nc hn]
        by_cases hq : quad 3 s = true
        · rw [if_pos hq] at e
          obtain ⟨a, b, c, d, hv⟩ := quad_vals hq
          rw [e, hv]
          simp only [cmpT, List.getD_cons_zero, List.getD_cons_succ, castL_L, castB_B, castI_I, ints, List.map_cons, List.map_nil, List.getElem?_cons_zero, List.getElem?_cons_succ, Bool.not_true]
          rw [steps_app, steps_len, if_pos (by exact q32 (by omega))]
          have ih := (l20p K l hl S N O T hK y3 y4 y5 y6 y7 k (at' + 1 + s.length) (acc ++ [⟨a, b, c, d⟩]) (by omega) (by omega) (by simp; omega)).1 (by rw [← List.drop_drop, hd1, List.drop_length])
          rw [ih]
          simp [hq, stOf_of hv]
        · rw [if_neg hq] at e
          obtain ⟨L, n, e⟩ := e
          rw [e]
          simp only [cmpT, List.getD_cons_zero, List.getD_cons_succ, castL_L, castB_B, castI_I]
          simp [hq, badT, eM, steps]
      · have hlen : (p ++ 59 :: r).length = p.length + 1 + r.length := by simp; omega
        have e := told_quad (K := K) hl (by omega) (at' + 1) (by omega) p (59 :: r) hp (.inr ⟨r, rfl⟩) hd1
        rw [spl_app r hp]
        by_cases hq : quad 3 p = true
        · rw [if_pos hq] at e
          obtain ⟨a, b, c, d, hv⟩ := quad_vals hq
          rw [e, hv]
          simp only [cmpT, List.getD_cons_zero, List.getD_cons_succ, castL_L, castB_B, castI_I, ints, List.map_cons, List.map_nil, List.getElem?_cons_zero, List.getElem?_cons_succ, Bool.not_true]
          rw [steps_app, steps_len, if_pos (by exact q32 (by omega))]
          have ih := (l20p K l hl S N O T hK y3 y4 y5 y6 y7 k (at' + 1 + p.length) (acc ++ [⟨a, b, c, d⟩]) (by omega) (by omega) (by simp; omega)).2 r (by rw [← List.drop_drop, hd1, List.drop_left])
          rw [ih]
          simp [hq, stOf_of hv]
        · rw [if_neg hq] at e
          obtain ⟨L, n, e⟩ := e
          rw [e]
          simp only [cmpT, List.getD_cons_zero, List.getD_cons_succ, castL_L, castB_B, castI_I]
          simp [hq, badT, eM, steps]
theorem r20p {K : Nat} (hK : 50000 ≤ K) (l : List UInt8) : run tab K 20 [St (sb l)] = some (parseT l) := by
  obtain ⟨K, rfl⟩ := succK (show 1 ≤ K by omega)
  rw [eq20]; unfold sh20 tr20 parseT
  rw [sb_size]
  by_cases h8 : 8000 < l.length
  · rw [if_pos h8, decide_eq_true (show (l.length : Int) > 8000 by omega)]
    rfl
  · rw [if_neg h8, decide_eq_false (show ¬ (l.length : Int) > 8000 by omega)]
    simp only []
    rcases cut_cases 59 l with hn | ⟨p, r, hp, rfl⟩
    · have e := told_quad (K := K) (l := l) (by omega) (by omega) 0 (by omega) l [] hn (.inl rfl) (by simp)
      rw [spl_nc hn]
      rw [show ((0 : Nat) : Int) = 0 from rfl] at e
      by_cases hq : quad 3 l = true
      · rw [if_pos hq] at e
        obtain ⟨a, b, c, d, hv⟩ := quad_vals hq
        rw [e, hv]
        simp only [cmpT, List.getD_cons_zero, List.getD_cons_succ, castL_L, castB_B, castI_I, ints, List.map_cons, List.map_nil, List.getElem?_cons_zero, List.getElem?_cons_succ, Bool.not_true]
        have main := (l20p K l (by omega) a b c d (by omega) 0 0 0 0 [] K (0 + l.length) [] (by omega) (by omega) (by simp)).1 (by simp)
        rw [show steps [] = [] from rfl] at main
        rw [main]
        simp [hq, stOf_of hv]
      · rw [if_neg hq] at e
        obtain ⟨L, n, e⟩ := e
        rw [e]
        simp only [cmpT, List.getD_cons_zero, List.getD_cons_succ, castL_L, castB_B, castI_I]
        simp [hq, badT, eM, steps]
    · have hlen : (p ++ 59 :: r).length = p.length + 1 + r.length := by simp; omega
      have e := told_quad (K := K) (l := p ++ 59 :: r) (by omega) (by omega) 0 (by omega) p (59 :: r) hp (.inr ⟨r, rfl⟩) (by simp)
      rw [spl_app r hp]
      rw [show ((0 : Nat) : Int) = 0 from rfl] at e
      by_cases hq : quad 3 p = true
      · rw [if_pos hq] at e
        obtain ⟨a, b, c, d, hv⟩ := quad_vals hq
        rw [e, hv]
        simp only [cmpT, List.getD_cons_zero, List.getD_cons_succ, castL_L, castB_B, castI_I, ints, List.map_cons, List.map_nil, List.getElem?_cons_zero, List.getElem?_cons_succ, Bool.not_true]
        have main := (l20p K (p ++ 59 :: r) (by omega) a b c d (by omega) 0 0 0 0 [] K (0 + p.length) [] (by omega) (by omega) (by simp)).2 r (by simp)
        rw [show steps [] = [] from rfl] at main
        rw [main]
        simp [hq, stOf_of hv]
      · rw [if_neg hq] at e
        obtain ⟨L, n, e⟩ := e
        rw [e]
        simp only [cmpT, List.getD_cons_zero, List.getD_cons_succ, castL_L, castB_B, castI_I]
        simp [hq, badT, eM, steps]
theorem r4t {K : Nat} (S N O T : Int) (l : List St4) (s : ByteArray) (hl : l.length * 32 ≤ maxBytes) (hK : l.length + 60000 ≤ K) (e5 : run tab K 5 [] = some (B true)) : run tab (K + 1) 4 [eM S N O T l, St s] = some (B true) := by
  have hm : maxBytes ≤ 4611686018427387904 := by decide
  have e21 := r21 (K := K) S N O T l hl (by omega)
  have e17 := r17 (K := K) S N O T l (by omega) (by omega)
  have e33 := r33 (K := K) S N O T l (by omega) (by omega)
  have par : ∀ t : List UInt8, ∃ S' N' O' T' m c, run tab K 19 [St (sb t)] = some (.tup [eM S' N' O' T' m, I c]) ∧ run tab K 20 [St (sb t)] = some (.tup [eM S' N' O' T' m, I c]) ∧ run tab K 21 [eM S' N' O' T' m, eM S' N' O' T' m] = some (B true) := fun t => by
    obtain ⟨S', N', O', T', m, c, h, hm⟩ := parseT_form t
    refine ⟨S', N', O', T', m, c, by rw [r19p (by omega), h], by rw [r20p (by omega), h], ?_⟩
    rw [r18 (K := K) S' N' O' T' S' N' O' T' m m (by omega) (by omega), decide_eq_true (by simp)]
  by_cases h0 : (machErr S N O T l).2 = 0
  · have ok := maOk_of h0
    have e18 := r18t (K := K) ok (by omega)
    obtain ⟨S', N', O', T', m, c, e19, e20, eS⟩ := par (textM S N O T l)
    unfold fmtT at e17
    rw [if_pos h0] at e17
    rw [h0] at e33
    unfold eM at *
    rw [eq4]; unfold sh4 tr4
    simp only [e5, castB_B, e21, cellA, List.getD_cons_zero, List.getD_cons_succ, castI_I, castL_L, e17, cmpT, castS_S, e33, e18, sb_beq, decide_true, e19, e20]
    rw [show (c == c) = true by simp]
    simp only [Bool.not_true, Bool.not_false, eS, castB_B]
    rfl
  · obtain ⟨S', N', O', T', m, c, e19, e20, eS⟩ := par (bl s)
    rw [sb_bl] at e19 e20
    unfold fmtT at e17
    rw [if_neg h0] at e17
    generalize hc : (machErr S N O T l).2 = cc at *
    have n1 : (cc != cc) = false := by simp
    have n2 : (cc == 0) = false := by simpa using h0
    have n3 : (cc != 0) = true := by simpa using h0
    have n4 : (!(sb [] == (⟨#[]⟩ : ByteArray))) = false := rfl
    unfold eM at *
    rw [eq4]; unfold sh4 tr4
    simp only [e5, castB_B, e21, cellA, List.getD_cons_zero, List.getD_cons_succ, castI_I, castL_L, e17, cmpT, castS_S, e33, n1, n2, n3, n4, e19, e20]
    rw [show (c == c) = true by simp]
    simp only [Bool.not_true, Bool.not_false, eS, castB_B]
end Go.Proofs.YtahifpeggdcamaaGreatDoor

/- The law ModelTexts: told true of each well-formed input. -/
namespace Go.Proofs.YtahifpeggdcamaaGreatDoor
open Go.Dam
theorem wf_str {s0 : ByteArray} {a : AV} (h : Wf tab (St s0) a) : ∃ s, a = St s := by
  cases h with
  | string s0 s _ => exact ⟨s, rfl⟩
theorem dec9 {a : AV} (h : WfA tab 9 a) : ∃ s : ByteArray, a = St s := by
  obtain ⟨z, s, b, hi, _, h2⟩ := h
  have hi' : tabInfo 9 = some (z, s, b) := hi
  cases hi'
  have := h2 0 (by omega)
  rw [elCell_eq] at this
  exact wf_str this
theorem law4 (av : List AV) (hl : av.length = [24, 9].length) (h : ∀ j t, [24, 9][j]? = some t → WfA tab t (av.getD j .undef)) : ∃ k, run tab k 4 av = some (.sc (.bool true)) := by
  match av, hl with
  | [a, b], _ =>
    obtain ⟨S, N, O, T, l, rfl, h1⟩ := dec30 (h 0 24 rfl)
    obtain ⟨s, rfl⟩ := dec9 (h 1 9 rfl)
    have e5 := awake_run (l.length + 60000)
    exact ⟨l.length + 60040 + 1, r4t (K := l.length + 60040) S N O T l s h1 (by omega) e5⟩
end Go.Proofs.YtahifpeggdcamaaGreatDoor
