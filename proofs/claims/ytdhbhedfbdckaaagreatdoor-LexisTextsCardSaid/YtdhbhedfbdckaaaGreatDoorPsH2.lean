/- A part of an interpreter of the model's code that is proved sound, and of laws told by it: DamX24, DamLaw2. -/
import Derived.Test.YtdhbhedfbdckaaaGreatDoorPsH1
import Derived.Test.YtdhbhedfbdckaaaGreatDoorPsR1
set_option linter.unusedVariables false
set_option linter.unusedSimpArgs false
/- The laws of written tokens and of texts with their places. -/
namespace Go.Proofs.YtdhbhedfbdckaaaGreatDoor
open Go.Dam
set_option linter.unusedVariables false
set_option linter.unusedSimpArgs false
theorem l21 (K : Nat) (ts : List Tk) (hl : ts.length ≤ 100000) : ∀ (k n : Nat), ts.length - n < k → n ≤ ts.length →
    ∃ b, lp21_4 K k (ts.map tkA) (n : Int) = some (B b) ∧ (b = true → ∀ t ∈ ts.drop n, t.s.length ≤ 300)
  | 0, n, h, _ => by omega
  | k + 1, n, h, hn => by
    unfold lp21_4 tr21_4
    rw [List.length_map]
    by_cases hi : n < ts.length
    · have w1 : IntKind.i64.wrap ((n : Int) + 1) = ((n + 1 : Nat) : Int) := wrapA (m := 1) (by omega) (by omega)
      have g := tkA_get ts n hi
      obtain ⟨b, ih, hb⟩ := l21 K ts hl k (n + 1) (by omega) (by omega)
      have hsz := sb_size ts[n].s
      rw [decide_eq_true (show (n : Int) < (ts.length : Int) by omega), List.drop_eq_getElem_cons hi]
      simp only [if_pos (Int.natCast_nonneg n), g, tkA, cellN, List.getD_cons_zero, List.getD_cons_succ, castS_S, w1, ih]
      by_cases h3 : 300 < ts[n].s.length
      · rw [decide_eq_true (show (((sb ts[n].s).size : Nat) : Int) > 300 by omega)]
        exact ⟨false, rfl, fun h => by cases h⟩
      · rw [decide_eq_false (show ¬ (((sb ts[n].s).size : Nat) : Int) > 300 by omega)]
        have fin : b = true → ∀ t ∈ ts[n] :: ts.drop (n + 1), t.s.length ≤ 300 := fun h t ht => by
          rcases List.mem_cons.1 ht with rfl | ht
          · omega
          · exact hb h t ht
        cases decide ((n : Int) > 60) with
        | false => exact ⟨b, rfl, fin⟩
        | true =>
          cases decide ((((sb ts[n].s).size : Nat) : Int) > 3) with
          | true => exact ⟨false, rfl, fun h => by cases h⟩
          | false => exact ⟨b, rfl, fin⟩
    · rw [decide_eq_false (show ¬ (n : Int) < (ts.length : Int) by omega), List.drop_eq_nil_of_le (by omega)]
      exact ⟨true, rfl, fun _ t ht => by cases ht⟩
theorem r21 {K : Nat} (hK : 2000 ≤ K) (ts : List Tk) : ∃ b, run tab K 21 [.sl 35 (ts.map tkA)] = some (B b) ∧ (b = true → ts.length ≤ 1505 ∧ ∀ t ∈ ts, t.s.length ≤ 300) := by
  obtain ⟨K, rfl⟩ := succK (show 1 ≤ K by omega)
  rw [eq21]; unfold sh21 tr21
  rw [List.length_map]
  have no : ∃ b, some (B false) = some (B b) ∧ (b = true → ts.length ≤ 1505 ∧ ∀ t ∈ ts, t.s.length ≤ 300) := ⟨false, rfl, fun h => by cases h⟩
  by_cases h5 : ts.length ≤ 1505
  · obtain ⟨b, h1, h2⟩ := l21 K ts (by omega) K 0 (by omega) (by omega)
    rw [List.drop_zero] at h2
    have go : ∃ b, lp21_4 K K (ts.map tkA) (0 : Int) = some (B b) ∧ (b = true → ts.length ≤ 1505 ∧ ∀ t ∈ ts, t.s.length ≤ 300) := ⟨b, h1, fun h => ⟨h5, h2 h⟩⟩
    rw [decide_eq_false (show ¬ (ts.length : Int) > 1505 by omega)]
    cases decide ((ts.length : Int) > 60) with
    | false => exact go
    | true =>
      cases decide ((ts.length : Int) ≤ 1500) with
      | true => exact no
      | false => exact go
  · rw [decide_eq_true (show (ts.length : Int) > 1505 by omega)]
    cases decide ((ts.length : Int) > 60) with
    | false => exact no
    | true => cases decide ((ts.length : Int) ≤ 1500) <;> exact no
theorem r23 {K : Nat} (h : 1 ≤ K) (ts : List Tk) (hl : ts.length ≤ 100000) : run tab K 23 [.sl 35 (ts.map tkA)] = some (.sl 35 (ts.map tkA)) := by
  obtain ⟨K, rfl⟩ := succK h
  rw [eq23]; unfold sh23 tr23
  rw [List.length_map, if_pos (by
    show (0 + ts.length) * 32 ≤ maxBytes
    unfold maxBytes
    omega)]
  rfl
theorem small_of {ts : List Tk} (h : ∀ t ∈ ts, t.s.length ≤ 300) : smallT ts = true := by
  unfold smallT
  rw [Bool.or_eq_true]
  right
  rw [List.all_eq_true]
  intro t ht
  have := h t ht
  rw [Nat.ble_eq]
  omega
theorem law6 (K : Nat) (hK : 100000 ≤ K) (lang : Int) (ts : List Tk) : run tab2 (K + 1 + 1) 6 [I lang, .sl 35 (ts.map tkA)] = some (B true) := by
  obtain ⟨b, h1, h2⟩ := r21 (K := KB) (by rw [kb]; omega) ts
  have e21 := run2 K 21 [.sl 35 (ts.map tkA)] rfl
  rw [h1] at e21
  rw [eq6]; unfold sh6 tr6
  rw [awake2 (by omega), e21]
  simp only [castB_B, Bool.not_true]
  cases b with
  | false => rfl
  | true =>
    obtain ⟨h5, hs⟩ := h2 rfl
    have e23 := run2 K 23 [.sl 35 (ts.map tkA)] rfl
    rw [r23 (by rw [kb]; omega) ts (by omega)] at e23
    have e22 := run22 K lang ts (small_of hs)
    have e24 := run2 K 24 [I lang, .sl 35 (ts.map tkA)] rfl
    rw [r24 lang ts (fun _ t ht => by have := hs t ht; omega) (by rw [kb]; omega)] at e24
    generalize joinT lang ts = p at e22 e24
    simp only [Bool.not_true, e23, castL_L, e22, e24, compN, List.getD_cons_zero, List.getD_cons_succ, castS_S, castI_I]
    rw [show (p.2 == p.2) = true by simp, sb_refl]
theorem r56 {K : Nat} (h : 1 ≤ K) (l : List UInt8) (hl : l.length ≤ 1000000) : run tab K 56 [St (sb l), St (⟨#[10]⟩ : ByteArray)] = some (I (Lib.lastIndexByte (sb l) 10)) := by
  obtain ⟨K, rfl⟩ := succK h
  rw [show run tab (K + 1) 56 [St (sb l), St (⟨#[10]⟩ : ByteArray)] = extLast1 [St (sb l), St (⟨#[10]⟩ : ByteArray)] from rfl]
  unfold extLast1
  simp only []
  rw [if_pos (by rw [sb_size, Nat.blt_eq]; omega)]
  rfl
theorem data_at (l : List UInt8) (k : Nat) (h : k < l.length) : (sb l).data[k]! = l[k] := by
  have : k < (sb l).data.size := h
  rw [getElem!_pos (sb l).data k this]
  rfl
theorem last_take (l : List UInt8) (a : Nat) (ha : a ≤ l.length) : ∀ k, k ≤ a → Lib.lastIdx (sb (l.take a)) 10 k = Lib.lastIdx (sb l) 10 k
  | 0, _ => rfl
  | k + 1, h => by
    have e1 := data_at (l.take a) k (by rw [List.length_take]; omega)
    have e2 := data_at l k (by omega)
    have e3 : (l.take a)[k]'(by rw [List.length_take]; omega) = l[k]'(by omega) := List.getElem_take
    unfold Lib.lastIdx
    rw [e1, e2, e3, last_take l a ha k (by omega)]
theorem last_rng (l : List UInt8) (k : Nat) : -1 ≤ Lib.lastIdx (sb l) 10 k ∧ Lib.lastIdx (sb l) 10 k < (k : Int) ∨ (k = 0 ∧ Lib.lastIdx (sb l) 10 k = -1) := by
  rcases Lib.lastIdx_spec (sb l) 10 k with ⟨h, _⟩ | ⟨i, hi, h, _⟩
  · rw [h]; omega
  · rw [h]; omega
theorem r35 {K : Nat} (l : List UInt8) (at' : Int) (hl : l.length ≤ 99999) (hK : l.length + 100 ≤ K) : run tab K 35 [St (sb l), I at'] = some (if (chkT l).2 ≠ 0 then .tup [I 0, I 0, I (chkT l).2] else if 0 ≤ at' ∧ at' ≤ l.length then .tup [I ((l.take at'.toNat).count 10 + 1 : Nat), I (at' - Lib.lastIdx (sb l) 10 at'.toNat), I 0] else .tup [I 0, I 0, I 3]) := by
  obtain ⟨K, rfl⟩ := succK (show 1 ≤ K by omega)
  rw [eq35]; unfold sh35 tr35
  rw [r33 l (by omega) (by omega)]
  simp only [pairA, compN, List.getD_cons_zero, List.getD_cons_succ, castI_I]
  by_cases hc : (chkT l).2 = 0
  · rw [show ((chkT l).2 != 0) = false by simpa using hc, if_neg (show ¬ (chkT l).2 ≠ 0 from fun h => h hc)]
    simp only []
    rw [sb_size]
    by_cases h0 : at' < 0
    · rw [decide_eq_true h0, if_neg (show ¬ (0 ≤ at' ∧ at' ≤ (l.length : Int)) by omega)]
    · by_cases h1 : at' > (l.length : Int)
      · rw [decide_eq_false h0, decide_eq_true h1, if_neg (show ¬ (0 ≤ at' ∧ at' ≤ (l.length : Int)) by omega)]
      · obtain ⟨n, rfl⟩ : ∃ n : Nat, at' = (n : Int) := ⟨at'.toNat, by omega⟩
        have hnl : n ≤ l.length := by omega
        have hcnt := List.count_le_length (a := (10 : UInt8)) (l := l.take n)
        rw [List.length_take] at hcnt
        have hs : Lib.lastIndexByte (sb (l.take n)) 10 = Lib.lastIdx (sb l) 10 n := by
          unfold Lib.lastIndexByte
          rw [sb_size, List.length_take, show min n l.length = n by omega]
          exact last_take l n hnl n (Nat.le_refl _)
        have hr := last_rng l n
        rw [decide_eq_false h0, decide_eq_false h1, if_pos (show 0 ≤ (n : Int) ∧ (n : Int) ≤ (l.length : Int) from ⟨by omega, by omega⟩)]
        simp only [if_pos (show 0 ≤ (0 : Int) ∧ (0 : Int) ≤ (n : Int) ∧ (n : Int) ≤ (l.length : Int) from ⟨by omega, by omega, by omega⟩), sb_extract, Int.toNat_natCast, Int.toNat_zero, List.drop_zero]
        rw [r55 (by omega) _ (by rw [List.length_take]; omega), r56 (by omega) _ (by rw [List.length_take]; omega), hs]
        simp only [castI_I]
        rw [show IntKind.i64.wrap ((((l.take n).count 10 : Nat) : Int) + 1) = (((l.take n).count 10 + 1 : Nat) : Int) from wrapA (m := 1) (by omega) (by omega), show IntKind.i64.wrap ((n : Int) - Lib.lastIdx (sb l) 10 n) = (n : Int) - Lib.lastIdx (sb l) 10 n from wrapI ⟨by omega, by omega⟩]
  · rw [show ((chkT l).2 != 0) = true by simpa using hc, if_pos (show (chkT l).2 ≠ 0 from hc)]
theorem l11 (K : Nat) (l : List UInt8) (n : Nat) (hn : n ≤ l.length) (hl : l.length ≤ 99999) : ∀ (k i : Nat), n - i < k → i ≤ n →
    lp11_16 K k (sb l) (n : Int) (((l.take n).count 10 + 1 : Nat) : Int) ((n : Int) - Lib.lastIdx (sb l) 10 n) 0 (((l.take i).count 10 + 1 : Nat) : Int) (Lib.lastIdx (sb l) 10 i + 1) (i : Int) = some (B true)
  | 0, i, h, _ => by omega
  | k + 1, i, h, hi => by
    unfold lp11_16 tr11_16
    by_cases hin : i < n
    · have hlt : i < l.length := by omega
      have w1 : IntKind.i64.wrap ((i : Int) + 1) = ((i + 1 : Nat) : Int) := wrapA (m := 1) (by omega) (by omega)
      have hcnt := List.count_le_length (a := (10 : UInt8)) (l := l.take i)
      rw [List.length_take] at hcnt
      have w2 : IntKind.i64.wrap ((((l.take i).count 10 + 1 : Nat) : Int) + 1) = (((l.take i).count 10 + 1 + 1 : Nat) : Int) := wrapA (m := 1) (by omega) (by omega)
      have c10 : ((l[i].toNat : Int) == (10 : Int)) = decide (l[i] = 10) := chr_eq l[i] 10 (by decide)
      have htk : l.take (i + 1) = l.take i ++ [l[i]] := by rw [List.take_add_one, List.getElem?_eq_getElem hlt]; rfl
      have hd := data_at l i hlt
      have ih := l11 K l n hn hl k (i + 1) (by omega) (by omega)
      rw [decide_eq_true (show (i : Int) < (n : Int) by omega)]
      simp only [if_pos (Int.natCast_nonneg i), getL hlt, c10, w1, w2]
      by_cases h10 : l[i] = 10
      · rw [decide_eq_true h10]
        have e1 : Lib.lastIdx (sb l) 10 (i + 1) = (i : Int) := Lib.lastIdx_hit _ _ _ (by rw [hd, h10]; rfl)
        rw [e1, htk, List.count_append, h10] at ih
        exact ih
      · rw [decide_eq_false h10]
        have e1 : Lib.lastIdx (sb l) 10 (i + 1) = Lib.lastIdx (sb l) 10 i := Lib.lastIdx_miss _ _ _ (by
          rw [hd]
          intro h
          have := c10
          rw [decide_eq_false h10] at this
          simp [h] at this)
        have e2 : List.count (10 : UInt8) [l[i]] = 0 := List.count_eq_zero.2 (by
          rw [List.mem_singleton]
          exact fun h => h10 h.symm)
        rw [e1, htk, List.count_append, e2] at ih
        exact ih
    · have : i = n := by omega
      subst this
      have hr := last_rng l i
      have w3 : IntKind.i64.wrap ((i : Int) - (Lib.lastIdx (sb l) 10 i + 1)) = (i : Int) - (Lib.lastIdx (sb l) 10 i + 1) := wrapI ⟨by omega, by omega⟩
      have w4 : IntKind.i64.wrap ((i : Int) - (Lib.lastIdx (sb l) 10 i + 1) + 1) = (i : Int) - Lib.lastIdx (sb l) 10 i := by rw [wrapI ⟨by omega, by omega⟩]; omega
      rw [decide_eq_false (show ¬ (i : Int) < (i : Int) by omega), w3, w4]
      simp only []
      rw [show ((0 : Int) == 0) = true from rfl, show (((((l.take i).count 10 + 1 : Nat) : Int)) == (((l.take i).count 10 + 1 : Nat) : Int)) = true by simp]
      simp only []
      rw [show ((i : Int) - Lib.lastIdx (sb l) 10 i == (i : Int) - Lib.lastIdx (sb l) 10 i) = true by simp]
theorem law11 (K : Nat) (hK : 100000 ≤ K) (l : List UInt8) (at' : Int) : run tab2 (K + 1 + 1) 11 [St (sb l), I at'] = some (B true) := by
  have e13 := run2 K 13 [St (sb l)] rfl
  rw [r13 (by rw [kb]; omega)] at e13
  rw [eq11]; unfold sh11 tr11
  rw [awake2 (by omega), e13]
  simp only [castB_B, Bool.not_true]
  cases hs : (decide (l.length ≤ 400) || (decide (8000 < l.length) && decide (l.length < 8050))) with
  | false => rfl
  | true =>
    have hle := short_le hs
    have e33 := run2 K 33 [St (sb l)] rfl
    have e34 := run2 K 34 [St (sb l)] rfl
    have e35 := run2 K 35 [St (sb l), I at'] rfl
    have e25 := run2 K 25 [I at', I 0, I ((sb l).size : Int)] rfl
    rw [r33 l (by omega) (by rw [kb]; omega)] at e33
    rw [r34 l (by omega) (by rw [kb]; omega)] at e34
    rw [r35 l at' (by omega) (by rw [kb]; omega)] at e35
    rw [r25 (by rw [kb]; omega)] at e25
    simp only [Bool.not_true, e33, e34, e35, e25, pairA, compN, List.getD_cons_zero, List.getD_cons_succ, castI_I, castB_B]
    rw [show ((chkT l).2 != (chkT l).2) = false by simp, show ((chkT l).1 != (chkT l).1) = false by simp]
    simp only []
    by_cases hc : (chkT l).2 = 0
    · rw [show ((chkT l).2 == 0) = true by simpa using hc, show ((chkT l).2 != 0) = false by simpa using hc]
      rw [if_neg (show ¬ (chkT l).2 ≠ 0 from fun h => h hc)]
      by_cases hin : 0 ≤ at' ∧ at' ≤ (l.length : Int)
      · obtain ⟨n, rfl⟩ : ∃ n : Nat, at' = (n : Int) := ⟨at'.toNat, by omega⟩
        rw [if_pos hin, show (decide ((0 : Int) ≤ (n : Int)) && decide ((n : Int) ≤ ((sb l).size : Int))) = true by rw [Bool.and_eq_true, decide_eq_true_iff, decide_eq_true_iff, sb_size]; exact hin]
        simp only [List.getD_cons_zero, List.getD_cons_succ, castI_I, Int.toNat_natCast, Bool.not_true]
        exact l11 _ l n (by omega) (by omega) (K + 1) 0 (by omega) (by omega)
      · rw [if_neg hin, show (decide ((0 : Int) ≤ at') && decide (at' ≤ ((sb l).size : Int))) = false by rw [Bool.and_eq_false_iff, decide_eq_false_iff_not, decide_eq_false_iff_not, sb_size]; omega]
        rfl
    · rw [show ((chkT l).2 == 0) = false by simpa using hc, show ((chkT l).2 != 0) = true by simpa using hc]
      rw [if_pos (show (chkT l).2 ≠ 0 from hc)]
      simp only [List.getD_cons_zero, List.getD_cons_succ, castI_I]
      rw [show ((chkT l).2 == (chkT l).2) = true by simp]
      rfl
end Go.Proofs.YtdhbhedfbdckaaaGreatDoor

/- The laws of written tokens and of texts with their places, of whatever arguments. -/
namespace Go.Proofs.YtdhbhedfbdckaaaGreatDoor
open Go.Dam
theorem two_list2 {av : List AV} {n : Nat} (hl : av.length = n) (hn : n = 2) : ∃ a b, av = [a, b] := by
  subst hn
  match av, hl with
  | [a, b], _ => exact ⟨a, b, rfl⟩
theorem lawv6 (av : List AV) (hl : av.length = [3, 24].length) (h : ∀ j t, [3, 24][j]? = some t → WfA tab2 t (av.getD j .undef)) : ∃ k, run tab2 k 6 av = some (.sc (.bool true)) := by
  obtain ⟨a, b, rfl⟩ := two_list2 hl rfl
  obtain ⟨n, hn⟩ := dec3 (h 0 3 rfl)
  obtain ⟨ts, hb, _⟩ := dec24 (h 1 24 rfl)
  have hn : a = I n := hn
  have hb : b = .sl 35 (ts.map tkA) := hb
  subst hn hb
  exact ⟨_, law6 100000 (Nat.le_refl _) n ts⟩
theorem lawv11 (av : List AV) (hl : av.length = [9, 3].length) (h : ∀ j t, [9, 3][j]? = some t → WfA tab2 t (av.getD j .undef)) : ∃ k, run tab2 k 11 av = some (.sc (.bool true)) := by
  obtain ⟨a, b, rfl⟩ := two_list2 hl rfl
  obtain ⟨l, hn⟩ := dec9 (h 0 9 rfl)
  obtain ⟨n, hb⟩ := dec3 (h 1 3 rfl)
  have hn : a = St (sb l) := hn
  have hb : b = I n := hb
  subst hn hb
  exact ⟨_, law11 100000 (Nat.le_refl _) l n⟩
end Go.Proofs.YtdhbhedfbdckaaaGreatDoor
