/- A part of an interpreter of the model's code that is proved sound, and of laws told by it: DamM5. -/
import Derived.Test.YtahifpeggdcamaaDoorPnG4
set_option linter.unusedVariables false
set_option linter.unusedSimpArgs false
/- Words; first configurations; runs. -/
namespace Go.Proofs.YtahifpeggdcamaaDoor
open Go.Dam
set_option linter.unusedVariables false
set_option linter.unusedSimpArgs false
/-! ### words -/
def wordE (l : List Int) (n most : Int) : Int := if (l.length : Int) > most then 2 else if l.all (fun x => within x 0 (w1 n)) then 0 else 3
theorem l36 (K : Nat) (hK : 1 ≤ K) (l : List Int) (hl : l.length ≤ 4611686018427387904) (n : Int) : ∀ (k i : Nat), l.length - i < k → lp36_4 K k (ints l) n (i : Int) = some (I (if (l.drop i).all (fun x => within x 0 (w1 n)) then 0 else 3))
  | 0, i, h => by omega
  | k + 1, i, h => by
    unfold lp36_4 tr36_4
    rw [ints_len]
    by_cases hi : i < l.length
    · rw [show decide ((i : Int) < (l.length : Int)) = true by simpa using hi, List.drop_eq_getElem_cons hi]
      simp only [if_pos (Int.natCast_nonneg i), ints_get hi, castI_I, r29 hK, castB_B, List.all_cons, w1]
      by_cases hw : within l[i] 0 (IntKind.i64.wrap (n - 1)) = true
      · simp only [hw, Bool.not_true, Bool.true_and]
        rw [wrapN (by omega)]
        exact l36 K hK l hl n k (i + 1) (by omega)
      · simp only [Bool.not_eq_true] at hw
        simp only [hw, Bool.not_false, Bool.false_and, Bool.false_eq_true, if_false]
    · rw [show decide ((i : Int) < (l.length : Int)) = false by simpa using hi, List.drop_eq_nil_of_le (by omega)]
      rfl
theorem r36 {K : Nat} (l : List Int) (hl : l.length ≤ 4611686018427387904) (n most : Int) (hK : l.length + 3 ≤ K) : run tab K 36 [.sl 3 (ints l), I n, I most] = some (I (wordE l n most)) := by
  obtain ⟨K, rfl⟩ := succK (show 1 ≤ K by omega)
  rw [eq36]; unfold sh36 tr36 wordE
  rw [ints_len]
  by_cases h : (l.length : Int) > most
  · rw [decide_eq_true h, if_pos h]
  · rw [decide_eq_false h, if_neg h]
    exact l36 K (by omega) l hl n K 0 (by omega)
theorem r90 {K : Nat} (h : 2 ≤ K) (x n : Int) : run tab K 90 ([I x] ++ [.ref [I n]]) = some (B (!within x 0 (w1 n))) := by
  obtain ⟨K, rfl⟩ := succK (show 1 ≤ K by omega)
  rw [show ([I x] ++ [.ref [I n]] : List AV) = [I x, .ref [I n]] from rfl, eq90]; unfold sh90 tr90
  simp only [castRef, List.getD_cons_zero, castI_I, r57 (show 1 ≤ K by omega), castB_B, w1]
theorem l107 (K : Nat) (hK : 2 ≤ K) (n : Int) (l : List Int) (hl : l.length ≤ 4611686018427387904) : ∀ (k i : Nat), l.length - i < k →
    lp107_2 K k (ints l) (.fn 90 [.ref [I n]]) (l.length : Int) (i : Int) = some (I (idx (fun x => !within x 0 (w1 n)) i (l.drop i)))
  | 0, i, h => by omega
  | k + 1, i, h => by
    unfold lp107_2 tr107_2
    by_cases hi : i < l.length
    · rw [show decide ((i : Int) < (l.length : Int)) = true by simpa using hi, List.drop_eq_getElem_cons hi]
      simp only [if_pos (Int.natCast_nonneg i), ints_get hi, idx, castI_I, castB_B, castFn_fn, r90 hK]
      by_cases h0 : within l[i] 0 (w1 n) = true
      · have ih := l107 K hK n l hl k (i + 1) (by omega)
        rw [← wrapN (by omega)] at ih
        simp only [h0, Bool.not_true, Bool.false_eq_true, if_false]
        exact ih
      · simp only [Bool.not_eq_true] at h0
        simp only [h0, Bool.not_false, if_true]
    · rw [show decide ((i : Int) < (l.length : Int)) = false by simpa using hi, List.drop_eq_nil_of_le (by omega)]
      rfl
theorem r69 {K : Nat} (l : List Int) (hl : l.length ≤ 4611686018427387904) (n : Int) (hK : l.length + 6 ≤ K) : run tab K 69 [.sl 3 (ints l), I n] = some (I (wordE l n 60)) := by
  obtain ⟨K, rfl⟩ := succK (show 1 ≤ K by omega)
  obtain ⟨K, rfl⟩ := succK (show 1 ≤ K by omega)
  obtain ⟨K, rfl⟩ := succK (show 1 ≤ K by omega)
  rw [eq69]; unfold sh69 tr69 wordE
  rw [ints_len]
  by_cases h : (l.length : Int) > 60
  · rw [decide_eq_true h, if_pos h]
  · rw [decide_eq_false h, if_neg h]
    rw [eq91]; unfold sh91 tr91
    rw [eq107]; unfold sh107 tr107
    rw [ints_len, show (0 : Int) = ((0 : Nat) : Int) from rfl, l107 K (by omega) n l hl K 0 (by omega)]
    simp only [castI_I, List.drop_zero, castB_B]
    have : decide (idx (fun x => !within x 0 (w1 n)) 0 l ≥ ((0 : Nat) : Int)) = l.any fun x => !within x 0 (w1 n) := idx_any _ l 0
    rw [this, r62 (by omega), ← List.not_all_eq_any_not, Bool.not_not]
    rfl
/-! ### first configurations -/
theorem ints_snoc (l : List Int) (n : Int) : ints l ++ [I n] = ints (l ++ [n]) := by simp [ints]
def firstS (m : Mo) : List Int := m.st :: m.vs.map (·.st)
theorem firstS_len (m : Mo) : (firstS m).length = m.vs.length + 1 := by simp [firstS]
theorem l49 (K : Nat) (vs : List Va) (hv : vs.length ≤ 1000) : ∀ (k i : Nat) (acc : List Int), vs.length - i < k → acc.length ≤ i + 1 →
    lp49_3 K k (ints acc) (vs.map eVa) (vs.length : Int) (i : Int) = some (.sl 3 (ints (acc ++ (vs.drop i).map (·.st))))
  | 0, i, acc, h, _ => by omega
  | k + 1, i, acc, h, ha => by
    unfold lp49_3 tr49_3
    by_cases hi : i < vs.length
    · have hq : ((ints acc).length + ([I vs[i].st] : List AV).length) * 8 ≤ maxBytes := by
        have : (2000 : Nat) * 8 ≤ maxBytes := by decide
        simp only [ints_len, List.length_cons, List.length_nil]; omega
      rw [show decide ((i : Int) < (vs.length : Int)) = true by simpa using hi, List.drop_eq_getElem_cons hi]
      simp only [if_pos (Int.natCast_nonneg i), map_get eVa hi, eVa0, eVa1, eVa2, castI_I, if_pos hq]
      have ih := l49 K vs hv k (i + 1) (acc ++ [vs[i].st]) (by omega) (by simp; omega)
      rw [wrapN (by omega), ints_snoc]
      refine ih.trans ?_
      simp only [List.append_assoc, List.map_cons, List.singleton_append]
    · rw [show decide ((i : Int) < (vs.length : Int)) = false by simpa using hi, List.drop_eq_nil_of_le (by omega)]
      simp
theorem r49 {K : Nat} (m : Mo) (hv : m.vs.length ≤ 1000) (hK : m.vs.length + 2 ≤ K) : run tab K 49 [eMo m] = some (.sl 3 (ints (firstS m))) := by
  obtain ⟨K, rfl⟩ := succK (show 1 ≤ K by omega)
  unfold eMo
  rw [eq49]; unfold sh49 tr49
  rw [List.length_map]
  exact l49 K m.vs hv K 0 [m.st] (by omega) (by simp)
theorem l55 (K : Nat) (S st O : Int) (ins ms : List AV) (vs : List Va) (hv : vs.length ≤ 1000) : ∀ (k i : Nat) (acc : List Int), vs.length - i < k → acc.length ≤ i + 1 →
    lp55_3 K k (ints acc) (i : Int) S st ins O (vs.map eVa) ms = some (.sl 3 (ints (acc ++ (vs.drop i).map (·.st))))
  | 0, i, acc, h, _ => by omega
  | k + 1, i, acc, h, ha => by
    unfold lp55_3 tr55_3
    rw [List.length_map]
    by_cases hi : i < vs.length
    · have hq : ((ints acc).length + ([I vs[i].st] : List AV).length) * 8 ≤ maxBytes := by
        have : (2000 : Nat) * 8 ≤ maxBytes := by decide
        simp only [ints_len, List.length_cons, List.length_nil]; omega
      rw [show decide ((i : Int) < (vs.length : Int)) = true by simpa using hi, List.drop_eq_getElem_cons hi]
      simp only [if_pos (Int.natCast_nonneg i), map_get eVa hi, eVa2, castI_I, if_pos hq]
      have ih := l55 K S st O ins ms vs hv k (i + 1) (acc ++ [vs[i].st]) (by omega) (by simp; omega)
      rw [wrapN (by omega), ints_snoc]
      refine ih.trans ?_
      simp only [List.append_assoc, List.map_cons, List.singleton_append]
    · rw [show decide ((i : Int) < (vs.length : Int)) = false by simpa using hi, List.drop_eq_nil_of_le (by omega)]
      simp
theorem r55 {K : Nat} (m : Mo) (hv : m.vs.length ≤ 1000) (hK : m.vs.length + 2 ≤ K) : run tab K 55 [eMo m] = some (.sl 3 (ints (firstS m))) := by
  obtain ⟨K, rfl⟩ := succK (show 1 ≤ K by omega)
  unfold eMo
  rw [eq55]; unfold sh55 tr55
  exact l55 K m.s m.st m.o (ints m.ins) (m.ms.map eMv) m.vs hv K 0 [m.st] (by omega) (by simp)
/-! ### runs -/
def runS (m : Mo) : List Int → List Int → List Int → List Int × Int
  | _, [], out => (out, 0)
  | a, w :: ws, out => if (nxt m a w.toNat).2.2 = 0 then runS m (nxt m a w.toNat).1 ws (out ++ [(nxt m a w.toNat).2.1]) else (out, (nxt m a w.toNat).2.2)
theorem l37 (K : Nat) (m : Mo) (hf : moFit K m) (he : (moErr m).2 = 0) (w : List Int) (hw : ∀ n ∈ w, within n 0 (w1 (sigN m)) = true) (hl : w.length ≤ 1000) : ∀ (k i : Nat) (a out : List Int), w.length - i < k → a.length = m.vs.length + 1 → out.length ≤ i →
    lp37_4 (K + 1) k (ints w) (ints a) (ints out) (i : Int) m.s m.st (ints m.ins) m.o (m.vs.map eVa) (m.ms.map eMv) = some (.tup [.sl 3 (ints (runS m a (w.drop i) out).1), I (runS m a (w.drop i) out).2])
  | 0, i, a, out, h, _, _ => by omega
  | k + 1, i, a, out, h, ha, ho => by
    have ok := moOk_of he
    have hs : sigN m = tot m.ins := allPs_len _ _
    have ht := ok.tot
    unfold lp37_4 tr37_4
    rw [ints_len]
    by_cases hi : i < w.length
    · have h2 := hw _ (List.getElem_mem hi)
      rw [w1_nat (by omega), within_iff] at h2
      have hj : w[i].toNat < sigN m := by omega
      have e30 := r30 (K := K) m hf he (ok.msOk hf) ha w[i].toNat hj
      rw [show ((w[i].toNat : Nat) : Int) = w[i] by omega] at e30
      unfold eMo at e30
      rw [show decide ((i : Int) < (w.length : Int)) = true by simpa using hi, List.drop_eq_getElem_cons hi]
      simp only [if_pos (Int.natCast_nonneg i), ints_get hi, castI_I, e30, comp30, comp31, comp32, castL_L, runS]
      by_cases h0 : (nxt m a w[i].toNat).2.2 = 0
      · have hq : ((ints out).length + ([I (nxt m a w[i].toNat).2.1] : List AV).length) * 8 ≤ maxBytes := by
          have : (2000 : Nat) * 8 ≤ maxBytes := by decide
          simp only [ints_len, List.length_cons, List.length_nil]; omega
        have hn := (nxt_len m a w[i].toNat hj).2 h0
        rw [if_pos h0, h0]
        simp only [bne_self_eq_false, if_pos hq]
        have ih := l37 K m hf he w hw hl k (i + 1) (nxt m a w[i].toNat).1 (out ++ [(nxt m a w[i].toNat).2.1]) (by omega) (by omega) (by simp; omega)
        rw [wrapN (by omega), ints_snoc]
        exact ih
      · rw [if_neg h0, show ((nxt m a w[i].toNat).2.2 != 0) = true by simpa using h0]
    · have hd : w.drop i = [] := List.drop_eq_nil_of_le (by omega)
      rw [show decide ((i : Int) < (w.length : Int)) = false by simpa using hi, hd]
      rfl
theorem r37 {K : Nat} (m : Mo) (hf : moFit K m) (he : (moErr m).2 = 0) (w : List Int) (hw : wordE w (sigN m) 60 = 0) (hK : w.length + 3 ≤ K) : run tab (K + 2) 37 [eMo m, .sl 3 (ints w)] = some (.tup [.sl 3 (ints (runS m (firstS m) w []).1), I (runS m (firstS m) w []).2]) := by
  have ok := moOk_of he
  have hv := ok.vs
  have g2 := hf.vs
  have e55 := r55 (K := K + 1) m (by omega) (by omega)
  have hl : w.length ≤ 60 ∧ ∀ n ∈ w, within n 0 (w1 (sigN m)) = true := by
    unfold wordE at hw
    split at hw
    · simp at hw
    · split at hw
      · rename_i h
        rw [List.all_eq_true] at h
        exact ⟨by omega, h⟩
      · simp at hw
  unfold eMo at *
  rw [eq37]; unfold sh37 tr37
  rw [e55]
  simp only [castL_L]
  exact l37 K m hf he w hl.2 (by omega) (K + 1) 0 (firstS m) [] (by omega) (firstS_len m) (by simp)
end Go.Proofs.YtahifpeggdcamaaDoor
