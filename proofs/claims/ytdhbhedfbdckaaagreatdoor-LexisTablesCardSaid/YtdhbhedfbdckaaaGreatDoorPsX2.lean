/- A part of laws told by an interpreter that is proved sound: DamX25, DamLaw3. -/
import Derived.Test.YtdhbhedfbdckaaaGreatDoorPsX1
import Derived.Test.YtdhbhedfbdckaaaGreatDoorPsH1
import Derived.Test.YtdhbhedfbdckaaaGreatDoorPsR1
set_option linter.unusedVariables false
set_option linter.unusedSimpArgs false
/- Which texts are names; the law of the tables. -/
namespace Go.Proofs.YtdhbhedfbdckaaaGreatDoor
open Go.Dam
set_option linter.unusedVariables false
set_option linter.unusedSimpArgs false
set_option maxRecDepth 100000 in
theorem okPt_dec : ∀ n : Fin 256, isPt (UInt8.ofNat n) = true → okC (UInt8.ofNat n) = true := by decide
theorem okPt (c : UInt8) (h : isPt c = true) : okC c = true := by
  have := okPt_dec ⟨c.toNat, c.toNat_lt⟩
  simp only [UInt8.ofNat_toNat] at this
  exact this h
set_option maxRecDepth 100000 in
theorem letter_dec : ∀ n : Fin 256, isL (UInt8.ofNat n) = true → okC (UInt8.ofNat n) = true ∧ blank (UInt8.ofNat n) = false ∧ UInt8.ofNat n ≠ 47 ∧ UInt8.ofNat n ≠ 45 := by decide
theorem letter (c : UInt8) (h : isL c = true) : okC c = true ∧ blank c = false ∧ c ≠ 47 ∧ c ≠ 45 := by
  have := letter_dec ⟨c.toNat, c.toNat_lt⟩
  simp only [UInt8.ofNat_toNat] at this
  exact this h
theorem nameT_ok (lang : Int) : ∀ x : List UInt8, nameT lang x = x.length → ∀ c ∈ x, okC c = true
  | [], _, c, hc => by cases hc
  | d :: r, h, c, hc => by
    have hl : (d :: r).length = r.length + 1 := rfl
    have ih := nameT_ok lang r
    rw [hl] at h
    unfold nameT at h
    by_cases h1 : isPt d = true
    · rw [if_pos h1] at h
      rcases List.mem_cons.1 hc with he | hc
      · rw [he]; exact okPt _ h1
      · exact ih (by omega) c hc
    · rw [if_neg h1] at h
      by_cases h2 : d = 95 ∧ lang = 1
      · rw [if_pos h2] at h
        rcases List.mem_cons.1 hc with he | hc
        · rw [he, h2.1]; decide
        · exact ih (by omega) c hc
      · rw [if_neg h2] at h
        by_cases h3 : d = 45 ∧ lang = 0
        · rw [if_pos h3] at h
          rcases List.mem_cons.1 hc with he | hc
          · rw [he, h3.1]; decide
          · cases r with
            | nil => cases hc
            | cons e r =>
              simp only [] at h
              by_cases h4 : isPt e = true
              · rw [if_pos h4] at h
                exact ih (by omega) c hc
              · rw [if_neg h4] at h
                omega
        · rw [if_neg h3] at h
          omega
theorem badAt_of : ∀ {l : List UInt8}, (∀ c ∈ l, okC c = true) → badAt l = none
  | [], _ => rfl
  | c :: r, h => by rw [badAt_cons, if_pos (h c (by simp)), badAt_of fun d hd => h d (by simp [hd])]; rfl
theorem pfx_ne {a b c : UInt8} (x : List UInt8) (h : c ≠ a) : pfx [a, b] (c :: x) = false := by
  unfold pfx
  rw [decide_eq_false_iff_not]
  intro hh
  have hh : c :: x.take 1 = [a, b] := hh
  injection hh with h1 h2
  exact h h1
/-- A name of a language. -/
def isNm (lang : Int) : List UInt8 → Bool
  | [] => false
  | c :: x => decide (x.length + 1 ≤ 32) && (isL c && (decide (1 + nameT lang x = x.length + 1) && !decide (c :: x ∈ wsOf lang)))
theorem isNm_cons (lang : Int) (c : UInt8) (x : List UInt8) : isNm lang (c :: x) = (decide (x.length + 1 ≤ 32) && (isL c && (decide (1 + nameT lang x = x.length + 1) && !decide (c :: x ∈ wsOf lang)))) := rfl
theorem one_name {lang : Int} (hlang : lang = 0 ∨ lang = 1) (s : List UInt8) (hl : s.length ≤ 100) : oneT lang 0 s = isNm lang s := by
  rw [Bool.eq_iff_iff]
  constructor
  · intro h
    unfold oneT at h
    cases hr : rdT lang s with
    | bad a e => rw [hr] at h; cases h
    | ok ts cs =>
      rw [hr] at h
      match ts, hr, h with
      | [], _, h => cases h
      | t :: u :: r, _, h => cases h
      | [t], hr, h =>
        simp only [] at h
        rw [Bool.and_eq_true, decide_eq_true_iff, decide_eq_true_iff] at h
        have hlen : lenT [t] = s.length := by
          unfold lenT
          rw [List.map_cons, List.map_nil, List.sum_cons, List.sum_nil, h.2]
          rfl
        have hcs := full_no_com hr hlen
        subst hcs
        obtain ⟨_, _, _, hs, _⟩ := rd_ok hr
        cases s with
        | nil => cases hs
        | cons c x =>
          have hcx : (c :: x).length = x.length + 1 := rfl
          rw [scE_cons] at hs
          by_cases hb : blank c = true
          · rw [if_pos hb] at hs
            have := (scE_len lang _ _ _ _ _ hs).1
            omega
          · rw [if_neg hb] at hs
            rcases pc_shape lang (c :: x) with ⟨e, he, _⟩ | ⟨n, he, _⟩ | ⟨k, n, he, hn1, hn2, _, _, hc, hnx⟩
            · rw [he] at hs; cases hs
            · rw [he] at hs
              simp only [] at hs
              cases hd : scE lang (c :: x).length (0 + n) ((c :: x).drop n) with
              | bad a e => rw [hd] at hs; cases hs
              | ok ts' cs' =>
                rw [hd] at hs
                simp only [Rd.addC] at hs
                injection hs with h1 h2
                cases h2
            · rw [he] at hs
              simp only [] at hs
              cases hd : scE lang (c :: x).length (0 + n) ((c :: x).drop n) with
              | bad a e => rw [hd] at hs; cases hs
              | ok ts' cs' =>
                rw [hd] at hs
                simp only [Rd.addT] at hs
                injection hs with h1 h2
                injection h1 with h3 h4
                subst h3
                have h0 : k = 0 := h.1
                have ht : (c :: x).take n = c :: x := h.2
                have hn : n = (c :: x).length := by
                  have := congrArg List.length ht
                  rw [List.length_take] at this
                  omega
                subst h0
                unfold nxT at hnx
                simp only [] at hnx
                by_cases hL : isL c = true
                · rw [if_pos hL] at hnx
                  unfold nmT at hnx
                  rw [show (c :: x).drop 1 = x from rfl] at hnx
                  by_cases hw : (c :: x).take (1 + nameT lang x) ∈ wsOf lang
                  · rw [if_pos hw] at hnx
                    injection hnx with e1 e2
                    omega
                  · rw [if_neg hw] at hnx
                    by_cases h32 : 32 < 1 + nameT lang x
                    · rw [if_pos h32] at hnx; cases hnx
                    · rw [if_neg h32] at hnx
                      injection hnx with e1 e2
                      rw [e2, ht] at hw
                      rw [isNm_cons, decide_eq_true (show x.length + 1 ≤ 32 by omega), hL, decide_eq_true (show 1 + nameT lang x = x.length + 1 by omega), decide_eq_false hw]
                      rfl
                · rw [if_neg hL] at hnx
                  by_cases hD : isD c = true
                  · rw [if_pos hD] at hnx
                    rcases num_shape (c :: x) with ⟨e, he, _⟩ | ⟨m, he⟩
                    · rw [he] at hnx; cases hnx
                    · rw [he] at hnx
                      injection hnx with e1 e2
                      cases e1
                  · rw [if_neg hD] at hnx
                    by_cases h34 : c = 34
                    · rw [if_pos h34] at hnx
                      rcases qu_shape (c :: x) with ⟨e, he, _⟩ | ⟨m, he⟩
                      · rw [he] at hnx; cases hnx
                      · rw [he] at hnx
                        injection hnx with e1 e2
                        cases e1
                    · rw [if_neg h34] at hnx
                      by_cases h39 : c = 39
                      · rw [if_pos h39] at hnx
                        have := dgE_le lang _ _ _ _ _ _ hnx
                        omega
                      · rw [if_neg h39] at hnx
                        unfold syT at hnx
                        split at hnx
                        · cases hnx
                        · injection hnx with e1 e2
                          cases e1
  · intro h
    cases s with
    | nil => cases h
    | cons c x =>
      have hcx : (c :: x).length = x.length + 1 := rfl
      rw [isNm_cons, Bool.and_eq_true, Bool.and_eq_true, Bool.and_eq_true, decide_eq_true_iff, decide_eq_true_iff, Bool.not_eq_true', decide_eq_false_iff_not] at h
      obtain ⟨h32, hL, hn, hw⟩ := h
      obtain ⟨o1, o2, o3, o4⟩ := letter c hL
      have hb : badAt (c :: x) = none := badAt_of fun d hd => by
        rcases List.mem_cons.1 hd with he | hd
        · rw [he]; exact o1
        · exact nameT_ok lang x (by omega) d hd
      have hck : chkT (c :: x) = ((((c :: x).count 10 + 1 : Nat) : Int), (0 : Int)) := by
        unfold chkT
        rw [if_neg (show ¬ 8000 < (c :: x).length by omega), hb]
      have hc : comT lang (c :: x) = none := by
        unfold comT
        rw [pfx_ne x o3, pfx_ne x o3, pfx_ne x o4]
        split
        · rename_i h; cases h
        · split
          · rfl
          · rfl
      have hp : pcT lang (c :: x) = .tok 0 (c :: x).length := by
        unfold pcT
        rw [hc]
        simp only []
        unfold nxT
        simp only []
        rw [if_pos hL]
        unfold nmT
        rw [show (c :: x).drop 1 = x from rfl, hn, ← hcx, List.take_length, if_neg hw, if_neg (show ¬ 32 < (c :: x).length by omega)]
      have hsc : scE lang ((c :: x).length + 1) 0 (c :: x) = .ok [⟨0, c :: x, 0⟩] [] := by
        rw [scE_cons, o2, if_neg (by decide), hp]
        simp only []
        rw [List.drop_length, List.take_length, hcx, scE_nil]
        rfl
      unfold oneT
      rw [rdT_go hlang hck, hsc]
      simp only [List.length_singleton]
      rw [if_neg (by decide)]
      simp
theorem r32 {K : Nat} (lang : Int) (s : List UInt8) (hl : s.length ≤ 100) (hK : 2000 ≤ K) : run tab K 32 [I lang, St (sb s)] = some (B (isNm lang s)) := by
  obtain ⟨K, rfl⟩ := succK (show 1 ≤ K by omega)
  rw [eq32]; unfold sh32 tr32
  rw [sb_size, r25 (by omega)]
  simp only [castB_B]
  cases s with
  | nil => rfl
  | cons c x =>
    have hcx : (c :: x).length = x.length + 1 := rfl
    rw [isNm_cons, decide_eq_true (show (1 : Int) ≤ ((c :: x).length : Int) by omega), Bool.true_and]
    have e0 : decide (((c :: x).length : Int) ≤ 32) = decide (x.length + 1 ≤ 32) := by rw [Bool.eq_iff_iff, decide_eq_true_iff, decide_eq_true_iff]; omega
    rw [e0]
    cases decide (x.length + 1 ≤ 32) with
    | false => rfl
    | true =>
      have g : (sb (c :: x))[(0 : Int).toNat]? = some c := by
        rw [show (0 : Int).toNat = 0 from rfl, sb_get]
        rfl
      have e51 : run tab K 51 [.sc (.int .u8 (c.toNat : Int))] = some (B (isL c)) := r51 (by omega) c
      simp only [if_pos (Int.le_refl 0), g, e51, castB_B, Bool.true_and]
      cases hL : isL c with
      | false => rfl
      | true =>
        have e52 : run tab K 52 [I lang, St (sb (c :: x)), I 0] = some (I ((0 + 1 + nameT lang x : Nat) : Int)) := r52 lang (c :: x) 0 (by omega) hL (by omega) (by omega)
        have e1 : (((0 + 1 + nameT lang x : Nat) : Int) == ((c :: x).length : Int)) = decide (1 + nameT lang x = x.length + 1) := by
          rw [beqI, Bool.eq_iff_iff, decide_eq_true_iff, decide_eq_true_iff]
          omega
        rw [e52]
        simp only [castI_I, Bool.true_and]
        rw [e1]
        cases decide (1 + nameT lang x = x.length + 1) with
        | false => rfl
        | true =>
          have hws := (ws_sorted lang).2.2
          simp only [r30 (show 2 ≤ K by omega) lang, castL_L, r53 (wsOf lang) (c :: x) hws (show 1010 ≤ K by omega), castB_B, Bool.true_and]
theorem l29 (K : Nat) (ws : List (List UInt8)) (hl : ws.length ≤ 100000) : ∀ (k n : Nat), ws.length - n < k → n ≤ ws.length → lp29_4 K k (strsA ws) (strsA ws) (n : Int) = some (B true)
  | 0, n, h, _ => by omega
  | k + 1, n, h, hn => by
    unfold lp29_4 tr29_4
    rw [strsA_len]
    by_cases hi : n < ws.length
    · have w1 : IntKind.i64.wrap ((n : Int) + 1) = ((n + 1 : Nat) : Int) := wrapA (m := 1) (by omega) (by omega)
      have ih := l29 K ws hl k (n + 1) (by omega) (by omega)
      rw [decide_eq_true (show (n : Int) < (ws.length : Int) by omega)]
      simp only [if_pos (Int.natCast_nonneg n), Int.toNat_natCast, strsA_get ws n hi, castS_S, w1]
      rw [sb_refl]
      exact ih
    · rw [decide_eq_false (show ¬ (n : Int) < (ws.length : Int) by omega)]
theorem r29 {K : Nat} (ws : List (List UInt8)) (hl : ws.length ≤ 1000) (hK : 1010 ≤ K) : run tab K 29 [.sl 9 (strsA ws), .sl 9 (strsA ws)] = some (B true) := by
  obtain ⟨K, rfl⟩ := succK (show 1 ≤ K by omega)
  rw [eq29]; unfold sh29 tr29
  rw [show (((strsA ws).length : Int) != ((strsA ws).length : Int)) = false by simp]
  exact l29 K ws (by omega) K 0 (by omega) (by omega)
theorem law10 (K : Nat) (hK : 100000 ≤ K) (lang : Int) (s : List UInt8) : run tab2 (K + 1 + 1) 10 [I lang, St (sb s)] = some (B true) := by
  rw [eq10]; unfold sh10 tr10
  rw [awake2 (by omega)]
  simp only [castB_B, Bool.not_true]
  rw [sb_size]
  by_cases h1 : s.length ≤ 100
  · have h47 : run tab (KB - 1) 47 [I lang] = if lang = 0 ∨ lang = 1 then some (.tup [.agg [.sl 9 (strsA (wsOf lang)), .sl 9 (strsA (gsOf lang))], B true]) else some (.tup [.agg [.sl 9 [], .sl 9 []], B false]) := by
      by_cases hlang : lang = 0 ∨ lang = 1
      · rw [if_pos hlang, r47 (by rw [kb]; omega) hlang]
      · rw [if_neg hlang, r47n (by rw [kb]; omega) (fun h => hlang (.inl h)) (fun h => hlang (.inr h))]
    have hK1 : KB = KB - 1 + 1 := by rw [kb]
    have e26 := run2 K 26 [I lang] rfl
    have e27 := run2 K 27 [I lang] rfl
    have e28 := run2 K 28 [I lang, St (sb s)] rfl
    have e19 := run2 K 19 [I lang] rfl
    rw [hK1, eq26] at e26
    rw [hK1, eq27] at e27
    rw [hK1, eq28] at e28
    unfold sh26 tr26 at e26
    unfold sh27 tr27 at e27
    unfold sh28 tr28 at e28
    rw [h47] at e26 e27
    rw [r19 (by rw [kb]; omega)] at e19
    rw [r39 lang 0 s (by omega) (by rw [kb]; omega)] at e28
    rw [decide_eq_false (show ¬ (s.length : Int) > 100 by omega)]
    by_cases hlang : lang = 0 ∨ lang = 1
    · rw [if_pos hlang] at e26 e27
      rw [decide_eq_true hlang] at e19
      have e28' : run tab2 (K + 1) 28 [I lang, St (sb s)] = some (.tup [B (oneT lang 0 s), I 0]) := by
        rw [e28]
        rcases hlang with rfl | rfl <;> rfl
      have e30 := run2 K 30 [I lang] rfl
      have e31 := run2 K 31 [I lang] rfl
      have e29w := run2 K 29 [.sl 9 (strsA (wsOf lang)), .sl 9 (strsA (wsOf lang))] rfl
      have e29g := run2 K 29 [.sl 9 (strsA (gsOf lang)), .sl 9 (strsA (gsOf lang))] rfl
      have e32 := run2 K 32 [I lang, St (sb s)] rfl
      rw [r30 (by rw [kb]; omega)] at e30
      rw [r31 (by rw [kb]; omega)] at e31
      rw [r29 _ (ws_sorted lang).2.2 (by rw [kb]; omega)] at e29w
      rw [r29 _ (gs_small lang).2 (by rw [kb]; omega)] at e29g
      rw [r32 lang s h1 (by rw [kb]; omega), ← one_name hlang s h1] at e32
      simp only [compN, cellN, List.getD_cons_zero, List.getD_cons_succ, castL_L, castB_B, Bool.not_true] at e26 e27
      simp only [e26, e27, e28', e19, e30, e31, e29w, e29g, e32, compN, List.getD_cons_zero, List.getD_cons_succ, castL_L, castB_B, castI_I, Bool.not_true]
      rw [show ((0 : Int) == 0) = true from rfl]
      simp
    · rw [if_neg hlang] at e26 e27
      rw [decide_eq_false hlang] at e19
      have n0 : (lang != 0) = true := by simpa using fun h => hlang (.inl h)
      have n1 : (lang != 1) = true := by simpa using fun h => hlang (.inr h)
      have e28' : run tab2 (K + 1) 28 [I lang, St (sb s)] = some (.tup [B false, I 4]) := by
        rw [e28, n0, n1]
      simp only [compN, cellN, List.getD_cons_zero, List.getD_cons_succ, castL_L, castB_B, Bool.not_false] at e26 e27
      simp only [e26, e27, e28', e19, compN, List.getD_cons_zero, List.getD_cons_succ, castL_L, castB_B, castI_I, Bool.not_false]
      rfl
  · rw [decide_eq_true (show (s.length : Int) > 100 by omega)]
end Go.Proofs.YtdhbhedfbdckaaaGreatDoor

/- The law of the tables, of whatever arguments. -/
namespace Go.Proofs.YtdhbhedfbdckaaaGreatDoor
open Go.Dam
theorem two_list3 {av : List AV} {n : Nat} (hl : av.length = n) (hn : n = 2) : ∃ a b, av = [a, b] := by
  subst hn
  match av, hl with
  | [a, b], _ => exact ⟨a, b, rfl⟩
theorem lawv10 (av : List AV) (hl : av.length = [3, 9].length) (h : ∀ j t, [3, 9][j]? = some t → WfA tab2 t (av.getD j .undef)) : ∃ k, run tab2 k 10 av = some (.sc (.bool true)) := by
  obtain ⟨a, b, rfl⟩ := two_list3 hl rfl
  obtain ⟨n, hn⟩ := dec3 (h 0 3 rfl)
  obtain ⟨l, hb⟩ := dec9 (h 1 9 rfl)
  have hn : a = I n := hn
  have hb : b = St (sb l) := hb
  subst hn hb
  exact ⟨_, law10 100000 (Nat.le_refl _) n l⟩
end Go.Proofs.YtdhbhedfbdckaaaGreatDoor
