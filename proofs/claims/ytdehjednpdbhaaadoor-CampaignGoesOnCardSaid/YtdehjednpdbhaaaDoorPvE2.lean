/- A part of an interpreter of the model's code that is proved sound, and of laws told by it: DamX1, DamX2. -/
import Derived.Test.YtdehjednpdbhaaaDoorPvE1
set_option linter.unusedVariables false
set_option linter.unusedSimpArgs false
/- Strings as lists of bytes; names of tests; entries; errors of entries, on both sides. -/
namespace Go.Proofs.YtdehjednpdbhaaaDoor
open Go.Dam
set_option linter.unusedVariables false
set_option linter.unusedSimpArgs false
def sb (l : List UInt8) : ByteArray := ⟨l.toArray⟩
def bl (s : ByteArray) : List UInt8 := s.data.toList
theorem bl_sb (l : List UInt8) : bl (sb l) = l := rfl
theorem sb_size (l : List UInt8) : (sb l).size = l.length := rfl
theorem sb_extract (l : List UInt8) (a b : Nat) : (sb l).extract a b = sb ((l.take b).drop a) := by
  apply ByteArray.ext
  rw [ByteArray.data_extract]
  unfold sb
  simp [List.extract_eq_take_drop, List.drop_take]
theorem sb_get (l : List UInt8) (i : Nat) : (sb l)[i]? = l[i]? := by
  by_cases h : i < l.length
  · rw [getElem?_pos (sb l) i (by rw [sb_size]; exact h), List.getElem?_eq_getElem h]
    rfl
  · rw [getElem?_neg (sb l) i (by rw [sb_size]; exact h), List.getElem?_eq_none (by omega)]
theorem sb_beq (a b : List UInt8) : (sb a == sb b) = decide (a = b) := by
  show (a.toArray == b.toArray) = _
  rw [Bool.eq_iff_iff, beq_iff_eq, decide_eq_true_iff]
  exact ⟨fun h => by simpa using h, fun h => by rw [h]⟩
theorem castI_I {R : Type} (n : Int) (F : Int → Option R) : castI .i64 (I n) F = F n := by simp [castI]
theorem castB_B {R : Type} (b : Bool) (F : Bool → Option R) : castB (B b) F = F b := rfl
theorem castS_S {R : Type} (s : ByteArray) (F : ByteArray → Option R) : castS (St s) F = F s := rfl
theorem castL_L {R : Type} (T : Nat) (l : List AV) (F : List AV → Option R) : castL T (.sl T l) F = F l := by simp [castL]
theorem succK {K : Nat} (h : 1 ≤ K) : ∃ k, K = k + 1 := ⟨K - 1, by omega⟩
def i64 (n : Int) : Prop := -9223372036854775808 ≤ n ∧ n ≤ 9223372036854775807
theorem wrapI {n : Int} (h : i64 n) : IntKind.i64.wrap n = n := by
  obtain ⟨h1, h2⟩ := h
  rw [IntKind.wrap_i64]
  omega
theorem wrapN {n : Nat} (h : n ≤ 9223372036854775806) : IntKind.i64.wrap ((n : Int) + 1) = ((n + 1 : Nat) : Int) := by
  rw [wrapI ⟨by omega, by omega⟩]
  omega
def u8 (b : UInt8) : AV := .sc (.int .u8 (b.toNat : Int))
theorem castU {R : Type} (c : UInt8) (F : Int → Option R) : castI .u8 (u8 c) F = F (c.toNat : Int) := by simp [castI, u8]
def inR (b : UInt8) (lo hi : Nat) : Bool := decide (lo ≤ b.toNat) && decide (b.toNat ≤ hi)
theorem rng (b : UInt8) (lo hi : Nat) : (match decide ((b.toNat : Int) ≥ (lo : Int)) with | true => some (B (decide ((b.toNat : Int) ≤ (hi : Int)))) | false => some (B false)) = some (B (inR b lo hi)) := by
  unfold inR
  by_cases h : lo ≤ b.toNat
  · rw [decide_eq_true (show (b.toNat : Int) ≥ (lo : Int) by omega), decide_eq_true h]
    simp only [Bool.true_and]
    rw [show decide ((b.toNat : Int) ≤ (hi : Int)) = decide (b.toNat ≤ hi) by rw [Bool.eq_iff_iff, decide_eq_true_iff, decide_eq_true_iff]; omega]
  · rw [decide_eq_false (show ¬ (b.toNat : Int) ≥ (lo : Int) by omega), decide_eq_false h]
    rfl
def isD (b : UInt8) : Bool := inR b 48 57
def isS (b : UInt8) : Bool := inR b 97 122
def isC (b : UInt8) : Bool := inR b 65 90
def isL (b : UInt8) : Bool := isS b || isC b
def isU (b : UInt8) : Bool := decide (b.toNat = 95) || decide (b.toNat = 46)
def isPt (b : UInt8) : Bool := isL b || isD b || isU b
theorem r40 {K : Nat} (h : 1 ≤ K) (b : UInt8) : run tab K 40 [u8 b] = some (B (isD b)) := by
  obtain ⟨K, rfl⟩ := succK h
  exact (eq40 K b.toNat).trans (rng b 48 57)
theorem r38 {K : Nat} (h : 1 ≤ K) (b : UInt8) : run tab K 38 [u8 b] = some (B (isS b)) := by
  obtain ⟨K, rfl⟩ := succK h
  exact (eq38 K b.toNat).trans (rng b 97 122)
theorem r39 {K : Nat} (h : 1 ≤ K) (b : UInt8) : run tab K 39 [u8 b] = some (B (isC b)) := by
  obtain ⟨K, rfl⟩ := succK h
  exact (eq39 K b.toNat).trans (rng b 65 90)
theorem r31 {K : Nat} (h : 1 ≤ K) (n a c : Int) : run tab K 31 [I n, I a, I c] = some (B (decide (a ≤ n) && decide (n ≤ c))) := by
  obtain ⟨K, rfl⟩ := succK h
  rw [eq31]; unfold sh31 tr31
  cases decide (a ≤ n) <;> rfl
def isNm : List UInt8 → Bool
  | [] => false
  | c :: l => decide (l.length < 20) && isL c && l.all isPt
theorem isNm_cons (c : UInt8) (l : List UInt8) : isNm (c :: l) = (decide (l.length < 20) && isL c && l.all isPt) := rfl
theorem l30 (K : Nat) (l : List UInt8) (hl : l.length ≤ 1000) : ∀ (k n : Nat), l.length - n < k → n ≤ l.length → lp30_4 (K + 1) k (sb l) (n : Int) = some (B ((l.drop n).all isPt))
  | 0, n, h, _ => by omega
  | k + 1, n, h, hn => by
    unfold lp30_4 tr30_4
    rw [sb_size]
    by_cases hi : n < l.length
    · rw [decide_eq_true (show (n : Int) < (l.length : Int) by omega), if_pos (by omega), Int.toNat_natCast, sb_get, List.getElem?_eq_getElem hi, List.drop_eq_getElem_cons hi, List.all_cons, wrapN (by omega)]
      have e1 := r38 (K := K + 1) (by omega) l[n]
      have e2 := r39 (K := K + 1) (by omega) l[n]
      have e3 := r40 (K := K + 1) (by omega) l[n]
      have ih := l30 K l hl k (n + 1) (by omega) (by omega)
      unfold u8 at e1 e2 e3
      simp only [e1, e2, e3, castB_B]
      unfold isPt isL
      cases isS l[n] with
      | true => simp only [Bool.not_true, Bool.true_or, Bool.true_and]; exact ih
      | false =>
        cases isC l[n] with
        | true => simp only [Bool.not_true, Bool.not_false, Bool.or_true, Bool.true_or, Bool.true_and]; exact ih
        | false =>
          cases isD l[n] with
          | true => simp only [Bool.not_true, Bool.not_false, Bool.false_or, Bool.true_or, Bool.true_and]; exact ih
          | false =>
            simp only [Bool.not_false, Bool.false_or]
            unfold isU
            by_cases h1 : l[n].toNat = 95
            · rw [show ((l[n].toNat : Int) != 95) = false by simp [h1], decide_eq_true h1]
              simp only [Bool.true_or, Bool.true_and]; exact ih
            · rw [show ((l[n].toNat : Int) != 95) = true by simp; omega, decide_eq_false h1]
              simp only []
              by_cases h2 : l[n].toNat = 46
              · rw [show ((l[n].toNat : Int) != 46) = false by simp [h2], decide_eq_true h2]
                simp only [Bool.false_or, Bool.true_and]; exact ih
              · rw [show ((l[n].toNat : Int) != 46) = true by simp; omega, decide_eq_false h2]
                rfl
    · rw [decide_eq_false (by omega), List.drop_eq_nil_of_le (by omega)]
      rfl
theorem r30 {K : Nat} (h : 100 ≤ K) (l : List UInt8) : run tab K 30 [St (sb l)] = some (B (isNm l)) := by
  obtain ⟨K, rfl⟩ : ∃ k, K = k + 2 := ⟨K - 2, by omega⟩
  rw [show K + 2 = K + 1 + 1 from rfl, eq30]; unfold sh30 tr30
  rw [sb_size, r31 (by omega)]
  simp only [castB_B]
  cases l with
  | nil => rfl
  | cons c l =>
    simp only [List.length_cons]
    by_cases hl : l.length < 20
    · rw [decide_eq_true (show (1 : Int) ≤ ((l.length + 1 : Nat) : Int) by omega), decide_eq_true (show ((l.length + 1 : Nat) : Int) ≤ 20 by omega)]
      have e1 := r38 (K := K + 1) (by omega) c
      have e2 := r39 (K := K + 1) (by omega) c
      have hg : (sb (c :: l))[(0 : Int).toNat]? = some c := by rw [sb_get]; rfl
      have e3 := l30 K (c :: l) (by simp; omega) (K + 1) 0 (by simp; omega) (by omega)
      unfold u8 at e1 e2
      simp only [Bool.true_and, Bool.not_true, hg, e1, e2, castB_B]
      rw [if_pos (by omega), if_pos (by omega)]
      have e4 : lp30_4 (K + 1) (K + 1) (sb (c :: l)) 0 = some (B (isPt c && l.all isPt)) := e3
      rw [e4]
      rw [isNm_cons, decide_eq_true hl]
      unfold isPt isL
      cases isS c <;> cases isC c <;> rfl
    · rw [decide_eq_false (show ¬ ((l.length + 1 : Nat) : Int) ≤ 20 by omega)]
      rw [isNm_cons, decide_eq_false hl]
      simp
theorem l35 (K : Nat) (l : List UInt8) (hl : l.length ≤ 1000) : ∀ (k n : Nat), l.length - n < k → 0 < n → n ≤ l.length → lp35_4 K k (l.map u8) (l.length : Int) (n : Int) = some (B ((l.drop n).all isPt))
  | 0, n, h, _, _ => by omega
  | k + 1, n, h, h0, hn => by
    unfold lp35_4 tr35_4
    by_cases hi : n < l.length
    · have ih := l35 K l hl k (n + 1) (by omega) (by omega) (by omega)
      rw [decide_eq_true (show (n : Int) < (l.length : Int) by omega), if_pos (by omega), Int.toNat_natCast, List.getElem?_map, List.getElem?_eq_getElem hi, List.drop_eq_getElem_cons hi, List.all_cons, wrapN (by omega), ih]
      have hz : ((n : Int) == 0) = false := by simp; omega
      simp only [Option.map_some, castU, hz]
      generalize (List.drop (n + 1) l).all isPt = r
      generalize l[n] = c
      unfold isPt isL isS isC isD isU inR
      by_cases a1 : 97 ≤ c.toNat <;> by_cases a2 : c.toNat ≤ 122 <;> by_cases a3 : 65 ≤ c.toNat <;> by_cases a4 : c.toNat ≤ 90 <;> by_cases a5 : c.toNat = 95 <;> by_cases a6 : c.toNat = 46 <;> by_cases a7 : 48 ≤ c.toNat <;> by_cases a8 : c.toNat ≤ 57 <;> first | (exfalso; omega) | skip
      all_goals
        first | rw [decide_eq_true (show (97 : Int) ≤ (c.toNat : Int) by omega)] | rw [decide_eq_false (show ¬ (97 : Int) ≤ (c.toNat : Int) by omega)]
        first | rw [decide_eq_true (show (c.toNat : Int) ≤ 122 by omega)] | rw [decide_eq_false (show ¬ (c.toNat : Int) ≤ 122 by omega)]
        first | rw [decide_eq_true (show (65 : Int) ≤ (c.toNat : Int) by omega)] | rw [decide_eq_false (show ¬ (65 : Int) ≤ (c.toNat : Int) by omega)]
        first | rw [decide_eq_true (show (c.toNat : Int) ≤ 90 by omega)] | rw [decide_eq_false (show ¬ (c.toNat : Int) ≤ 90 by omega)]
        first | rw [decide_eq_true (show (c.toNat : Int) < 48 by omega)] | rw [decide_eq_false (show ¬ (c.toNat : Int) < 48 by omega)]
        first | rw [decide_eq_true (show (c.toNat : Int) > 57 by omega)] | rw [decide_eq_false (show ¬ (c.toNat : Int) > 57 by omega)]
        first | rw [show ((c.toNat : Int) != 95) = true by simp; omega] | rw [show ((c.toNat : Int) != 95) = false by simp; omega]
        first | rw [show ((c.toNat : Int) != 46) = true by simp; omega] | rw [show ((c.toNat : Int) != 46) = false by simp; omega]
        simp only [a1, a2, a3, a4, a5, a6, a7, a8, decide_true, decide_false, Bool.true_and, Bool.false_and, Bool.and_true, Bool.and_false, Bool.or_true, Bool.true_or, Bool.or_false, Bool.false_or, Bool.not_true, Bool.not_false]
    · rw [decide_eq_false (by omega), List.drop_eq_nil_of_le (by omega)]
      rfl
end Go.Proofs.YtdehjednpdbhaaaDoor

/- Entries: their errors on both sides; lists of entries compared; the number of whole blocks. -/
namespace Go.Proofs.YtdehjednpdbhaaaDoor
open Go.Dam
set_option linter.unusedVariables false
set_option linter.unusedSimpArgs false
theorem r35 {K : Nat} (h : 100 ≤ K) (l : List UInt8) : run tab K 35 [St (sb l)] = some (B (isNm l)) := by
  obtain ⟨K, rfl⟩ : ∃ k, K = k + 2 := ⟨K - 2, by omega⟩
  rw [show K + 2 = K + 1 + 1 from rfl, eq35]; unfold sh35 tr35
  rw [sb_size]
  cases l with
  | nil => rfl
  | cons c l =>
    simp only [List.length_cons]
    rw [decide_eq_false (show ¬ ((l.length + 1 : Nat) : Int) < 1 by omega)]
    simp only []
    by_cases hl : l.length < 20
    · have hm : ((sb (c :: l)).data.toList.map fun c => AV.sc (.int .u8 (c.toNat : Int))) = (c :: l).map u8 := rfl
      rw [decide_eq_false (show ¬ ((l.length + 1 : Nat) : Int) > 20 by omega), hm, Nat.ble_eq_true_of_le (by omega)]
      simp only []
      rw [List.length_map]
      rw [isNm_cons, decide_eq_true hl]
      have ih := l35 (K + 1) (c :: l) (by simp; omega) K 1 (by simp; omega) (by omega) (by simp)
      unfold lp35_4 tr35_4
      have h1 : IntKind.i64.wrap ((0 : Int) + 1) = ((1 : Nat) : Int) := rfl
      rw [decide_eq_true (show (0 : Int) < ((c :: l).length : Int) by simp only [List.length_cons]; omega), if_pos (by omega), h1, ih]
      have hg : (List.map u8 (c :: l))[(0 : Int).toNat]? = some (u8 c) := rfl
      rw [hg]
      have hd : (c :: l).drop 1 = l := rfl
      rw [hd]
      simp only [castU, beq_self_eq_true, Bool.true_and]
      generalize l.all isPt = r
      unfold isL isS isC inR
      by_cases a1 : 97 ≤ c.toNat <;> by_cases a2 : c.toNat ≤ 122 <;> by_cases a3 : 65 ≤ c.toNat <;> by_cases a4 : c.toNat ≤ 90 <;> first | (exfalso; omega) | skip
      all_goals
        first | rw [decide_eq_true (show (97 : Int) ≤ (c.toNat : Int) by omega)] | rw [decide_eq_false (show ¬ (97 : Int) ≤ (c.toNat : Int) by omega)]
        first | rw [decide_eq_true (show (c.toNat : Int) ≤ 122 by omega)] | rw [decide_eq_false (show ¬ (c.toNat : Int) ≤ 122 by omega)]
        first | rw [decide_eq_true (show (65 : Int) ≤ (c.toNat : Int) by omega)] | rw [decide_eq_false (show ¬ (65 : Int) ≤ (c.toNat : Int) by omega)]
        first | rw [decide_eq_true (show (c.toNat : Int) ≤ 90 by omega)] | rw [decide_eq_false (show ¬ (c.toNat : Int) ≤ 90 by omega)]
        simp only [a1, a2, a3, a4, decide_true, decide_false, Bool.true_and, Bool.false_and, Bool.and_true, Bool.and_false, Bool.or_true, Bool.true_or, Bool.or_false, Bool.false_or, Bool.not_true, Bool.not_false]
    · rw [decide_eq_true (show ((l.length + 1 : Nat) : Int) > 20 by omega), isNm_cons, decide_eq_false hl]
      rfl
structure En where
  nm : List UInt8
  dg : Int
  vd : Int
  tn : Int
deriving DecidableEq
def enA (e : En) : AV := .agg [St (sb e.nm), I e.dg, I e.vd, I e.tn]
def rgE (e : En) : Bool := (decide (0 ≤ e.dg) && decide (e.dg ≤ 1099511627775)) && ((decide (0 ≤ e.vd) && decide (e.vd ≤ 4)) && (decide (0 ≤ e.tn) && decide (e.tn ≤ 200)))
def eErr (e : En) : Int := if isNm e.nm then (if rgE e then 0 else 3) else 7
theorem r23 {K : Nat} (h : 101 ≤ K) (e : En) : run tab K 23 [enA e] = some (I (eErr e)) := by
  obtain ⟨K, rfl⟩ := succK (show 1 ≤ K by omega)
  unfold enA
  rw [eq23]; unfold sh23 tr23
  rw [r30 (by omega), r31 (by omega), r31 (by omega), r31 (by omega)]
  simp only [castB_B]
  unfold eErr rgE
  cases isNm e.nm with
  | false => rfl
  | true =>
    cases (decide (0 ≤ e.dg) && decide (e.dg ≤ 1099511627775)) with
    | false => rfl
    | true =>
      cases (decide (0 ≤ e.vd) && decide (e.vd ≤ 4)) with
      | false => rfl
      | true => cases (decide (0 ≤ e.tn) && decide (e.tn ≤ 200)) <;> rfl
theorem r26 {K : Nat} (h : 101 ≤ K) (e : En) : run tab K 26 [enA e] = some (I (eErr e)) := by
  obtain ⟨K, rfl⟩ := succK (show 1 ≤ K by omega)
  unfold enA
  rw [eq26]; unfold sh26 tr26
  rw [r35 (by omega)]
  simp only [castB_B]
  unfold eErr rgE
  cases isNm e.nm with
  | false => rfl
  | true =>
    simp only [Bool.not_true, if_true]
    by_cases a1 : 0 ≤ e.dg
    · rw [decide_eq_false (show ¬ e.dg < 0 by omega), decide_eq_true a1]
      by_cases a2 : e.dg ≤ 1099511627775
      · rw [decide_eq_false (show ¬ e.dg > 1099511627775 by omega), decide_eq_true a2]
        by_cases a3 : 0 ≤ e.vd
        · rw [decide_eq_false (show ¬ e.vd < 0 by omega), decide_eq_true a3]
          by_cases a4 : e.vd ≤ 4
          · rw [decide_eq_false (show ¬ e.vd ≥ 5 by omega), decide_eq_true a4]
            by_cases a5 : 0 ≤ e.tn
            · rw [decide_eq_false (show ¬ e.tn < 0 by omega), decide_eq_true a5]
              by_cases a6 : e.tn ≤ 200
              · rw [decide_eq_false (show ¬ e.tn > 200 by omega), decide_eq_true a6]; rfl
              · rw [decide_eq_true (show e.tn > 200 by omega), decide_eq_false a6]; rfl
            · rw [decide_eq_true (show e.tn < 0 by omega), decide_eq_false a5]; rfl
          · rw [decide_eq_true (show e.vd ≥ 5 by omega), decide_eq_false a4]; rfl
        · rw [decide_eq_true (show e.vd < 0 by omega), decide_eq_false a3]; rfl
      · rw [decide_eq_true (show e.dg > 1099511627775 by omega), decide_eq_false a2]; rfl
    · rw [decide_eq_true (show e.dg < 0 by omega), decide_eq_false a1]; rfl
theorem enA_get (l : List En) (n : Nat) (h : n < l.length) : (l.map enA)[(n : Int).toNat]? = some (enA l[n]) := by
  rw [Int.toNat_natCast, List.getElem?_map, List.getElem?_eq_getElem h]
  rfl
/-- The error of the first entry that is not right. -/
def errL : List En → Int
  | [] => 0
  | e :: l => if eErr e = 0 then errL l else eErr e
theorem errL_zero : ∀ l : List En, errL l = 0 ↔ ∀ e ∈ l, eErr e = 0
  | [] => by simp [errL]
  | e :: l => by
    unfold errL
    by_cases h : eErr e = 0
    · rw [if_pos h, errL_zero l]
      simp [h]
    · rw [if_neg h]
      simp [h]
theorem castEn {R : Type} (e : En) (F : ByteArray → Int → Int → Int → Option R) : (castS (cellN (enA e) 0) fun s => castI .i64 (cellN (enA e) 1) fun a => castI .i64 (cellN (enA e) 2) fun b => castI .i64 (cellN (enA e) 3) fun c => F s a b c) = F (sb e.nm) e.dg e.vd e.tn := by
  have h0 : cellN (enA e) 0 = St (sb e.nm) := rfl
  have h1 : cellN (enA e) 1 = I e.dg := rfl
  have h2 : cellN (enA e) 2 = I e.vd := rfl
  have h3 : cellN (enA e) 3 = I e.tn := rfl
  rw [h0, h1, h2, h3]
  simp only [castS_S, castI_I]
theorem l14 (K : Nat) (hK : 101 ≤ K) (l : List En) (hl : l.length ≤ 1000) : ∀ (k n : Nat), l.length - n < k → n ≤ l.length → ∃ i, lp14_4 K k (l.map enA) (n : Int) = some (.tup [I i, I (errL (l.drop n))])
  | 0, n, h, _ => by omega
  | k + 1, n, h, hn => by
    unfold lp14_4 tr14_4
    rw [List.length_map]
    by_cases hi : n < l.length
    · obtain ⟨i, ih⟩ := l14 K hK l hl k (n + 1) (by omega) (by omega)
      rw [decide_eq_true (show (n : Int) < (l.length : Int) by omega), if_pos (by omega), enA_get l n hi, List.drop_eq_getElem_cons hi, wrapN (by omega)]
      simp only [castEn]
      have e := r23 hK l[n]
      unfold enA at e
      rw [e]
      simp only [castI_I]
      unfold errL
      by_cases h0 : eErr l[n] = 0
      · rw [h0, if_pos rfl]
        exact ⟨i, ih⟩
      · rw [show (eErr l[n] != 0) = true by simpa using h0, if_neg h0]
        exact ⟨n, rfl⟩
    · rw [decide_eq_false (by omega), List.drop_eq_nil_of_le (by omega)]
      exact ⟨0, rfl⟩
theorem r5 {K : Nat} (h : 200 ≤ K) (l : List En) (hl : l.length ≤ 60) : run tab K 5 [.sl 46 (l.map enA)] = some (I (errL l)) := by
  obtain ⟨K, rfl⟩ : ∃ k, K = k + 2 := ⟨K - 2, by omega⟩
  rw [show K + 2 = K + 1 + 1 from rfl, eq5]; unfold sh5 tr5
  rw [eq14]; unfold sh14 tr14
  rw [List.length_map, decide_eq_false (show ¬ (l.length : Int) > 60 by omega)]
  obtain ⟨i, e⟩ := l14 K (by omega) l (by omega) K 0 (by omega) (by omega)
  have e : lp14_4 K K (l.map enA) 0 = some (.tup [I i, I (errL l)]) := e
  rw [e]
  simp only [compN, List.getD_cons_zero, List.getD_cons_succ, castI_I]
theorem l18 (K : Nat) (hK : 101 ≤ K) (l : List En) (hl : l.length ≤ 1000) : ∀ (k n : Nat), l.length - n < k → n ≤ l.length → ∃ i, lp18_4 K k (l.map enA) (l.length : Int) (n : Int) = some (.tup [I i, I (errL (l.drop n))])
  | 0, n, h, _ => by omega
  | k + 1, n, h, hn => by
    unfold lp18_4 tr18_4
    by_cases hi : n < l.length
    · obtain ⟨i, ih⟩ := l18 K hK l hl k (n + 1) (by omega) (by omega)
      rw [decide_eq_true (show (n : Int) < (l.length : Int) by omega), if_pos (by omega), enA_get l n hi, List.drop_eq_getElem_cons hi, wrapN (by omega)]
      simp only [castEn]
      have e := r26 hK l[n]
      unfold enA at e
      rw [e]
      simp only [castI_I]
      unfold errL
      by_cases h0 : eErr l[n] = 0
      · rw [h0, if_pos rfl]
        exact ⟨i, ih⟩
      · rw [show (eErr l[n] != 0) = true by simpa using h0, if_neg h0]
        exact ⟨n, rfl⟩
    · rw [decide_eq_false (by omega), List.drop_eq_nil_of_le (by omega)]
      exact ⟨0, rfl⟩
theorem r18 {K : Nat} (h : 200 ≤ K) (l : List En) (hl : l.length ≤ 60) : ∃ i, run tab K 18 [.sl 46 (l.map enA)] = some (.tup [I i, I (errL l)]) := by
  obtain ⟨K, rfl⟩ := succK (show 1 ≤ K by omega)
  rw [eq18]; unfold sh18 tr18
  rw [List.length_map, decide_eq_false (show ¬ (l.length : Int) > 60 by omega)]
  exact l18 K (by omega) l (by omega) K 0 (by omega) (by omega)
theorem En.eqB (x y : En) : ((sb x.nm == sb y.nm) && ((x.dg == y.dg) && ((x.vd == y.vd) && ((x.tn == y.tn) && true)))) = decide (x = y) := by
  rw [sb_beq, Bool.and_true]
  cases x; cases y
  rw [Bool.eq_iff_iff]
  simp
theorem l9 (K : Nat) (a b : List En) (ha : a.length ≤ 1000) (hab : a.length = b.length) : ∀ (k n : Nat), a.length - n < k → n ≤ a.length → lp9_4 K k (a.map enA) (b.map enA) (n : Int) = some (B (decide (a.drop n = b.drop n)))
  | 0, n, h, _ => by omega
  | k + 1, n, h, hn => by
    unfold lp9_4 tr9_4
    rw [List.length_map]
    by_cases hi : n < a.length
    · have ih := l9 K a b ha hab k (n + 1) (by omega) (by omega)
      have hb : n < b.length := by omega
      rw [decide_eq_true (show (n : Int) < (a.length : Int) by omega), if_pos (by omega), enA_get a n hi, List.drop_eq_getElem_cons hi, List.drop_eq_getElem_cons hb, wrapN (by omega)]
      simp only [castEn]
      rw [enA_get b n hb]
      simp only [castEn]
      rw [if_pos (by omega), En.eqB, ih]
      by_cases h0 : a[n] = b[n]
      · rw [decide_eq_true h0, h0]
        simp only [Bool.not_true, List.cons.injEq, true_and]
      · rw [decide_eq_false h0]
        simp only [Bool.not_false, List.cons.injEq, h0, false_and, decide_false]
    · rw [decide_eq_false (by omega), List.drop_eq_nil_of_le (by omega), List.drop_eq_nil_of_le (by omega)]
      rfl
theorem r9 {K : Nat} (h : 1002 ≤ K) (a b : List En) (ha : a.length ≤ 1000) : run tab K 9 [.sl 46 (a.map enA), .sl 46 (b.map enA)] = some (B (decide (a = b))) := by
  obtain ⟨K, rfl⟩ := succK (show 1 ≤ K by omega)
  rw [eq9]; unfold sh9 tr9
  rw [List.length_map, List.length_map]
  by_cases hl : a.length = b.length
  · rw [show ((a.length : Int) != (b.length : Int)) = false by simp [hl]]
    exact l9 K a b ha hl K 0 (by omega) (by omega)
  · rw [show ((a.length : Int) != (b.length : Int)) = true by simp; omega, decide_eq_false (fun hh => hl (by rw [hh]))]
theorem l10 (K N : Nat) (hN : N ≤ 1000) : ∀ (k n : Nat), N - n < k → n ≤ N → lp10_3 K k (N : Int) (List.replicate n (I 32)) (n : Int) = some (.sl 3 (List.replicate N (I 32)))
  | 0, n, h, _ => by omega
  | k + 1, n, h, hn => by
    unfold lp10_3 tr10_3
    by_cases hi : n < N
    · rw [decide_eq_true (show (n : Int) < (N : Int) by omega), if_pos (by simp [maxBytes]; omega), wrapN (by omega)]
      have e : List.replicate n (I 32) ++ ([I 32] : LA) = List.replicate (n + 1) (I 32) := by rw [List.replicate_succ']
      rw [e]
      exact l10 K N hN k (n + 1) (by omega) (by omega)
    · have : n = N := by omega
      subst this
      rw [decide_eq_false (by omega)]
theorem r10 {K : Nat} (h : 1002 ≤ K) (N : Nat) (hN : N ≤ 1000) : run tab K 10 [I (N : Int)] = some (.sl 3 (List.replicate N (I 32))) := by
  obtain ⟨K, rfl⟩ := succK (show 1 ≤ K by omega)
  rw [eq10]; unfold sh10 tr10
  exact l10 K N hN K 0 (by omega) (by omega)
theorem r11 {K : Nat} (h : 1 ≤ K) (n : Nat) (hn : n ≤ 100000) : run tab K 11 [I (n : Int)] = some (St (sb (List.replicate n 0))) := by
  obtain ⟨K, rfl⟩ := succK h
  rw [eq11]; unfold sh11 tr11
  rw [if_pos ⟨rfl, by omega, by simp [maxBytes]; omega⟩, Int.toNat_natCast]
  have : ∀ (m : Nat) (F : List UInt8 → OA), bytesK (List.replicate m (.sc (.int .u8 0) : AV)) F = F (List.replicate m 0) := by
    intro m
    induction m with
    | zero => intro F; rfl
    | succ m ih =>
      intro F
      rw [List.replicate_succ, List.replicate_succ]
      unfold bytesK
      simp only [castI, ih]
      rfl
  rw [this]
  rfl
theorem r15 {K : Nat} (h : 1 ≤ K) (l : List UInt8) (h1 : l.length % 32 = 0) (h2 : l.length ≤ 1536) : run tab K 15 [St (sb l)] = some (I 0) := by
  obtain ⟨K, rfl⟩ := succK h
  rw [eq15]; unfold sh15 tr15
  rw [sb_size, show (Int.tmod (l.length : Int) 32 != 0) = false by
    rw [show Int.tmod (l.length : Int) 32 = ((l.length % 32 : Nat) : Int) from rfl, h1]
    rfl, decide_eq_false (show ¬ (l.length : Int) > 1536 by omega)]
end Go.Proofs.YtdehjednpdbhaaaDoor
