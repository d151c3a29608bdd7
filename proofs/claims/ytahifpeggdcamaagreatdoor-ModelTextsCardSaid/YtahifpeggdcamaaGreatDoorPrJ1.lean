/- A part of an interpreter of the model's code that is proved sound, and of laws told by it: DamB1, DamB2, DamB3. -/
import Derived.Test.YtahifpeggdcamaaGreatDoorPrG1
import Derived.Test.YtahifpeggdcamaaGreatDoorPrH1
set_option linter.unusedVariables false
set_option linter.unusedSimpArgs false
/- Texts of machines: what the model's function and the reference's write. -/
namespace Go.Proofs.YtahifpeggdcamaaGreatDoor
open Go.Dam
set_option linter.unusedVariables false
set_option linter.unusedSimpArgs false
def sb (l : List UInt8) : ByteArray := ⟨l.toArray⟩
def bl (s : ByteArray) : List UInt8 := s.data.toList
theorem sb_bl (s : ByteArray) : sb (bl s) = s := rfl
theorem sb_size (l : List UInt8) : (sb l).size = l.length := rfl
theorem sb_append (a b : List UInt8) : sb a ++ sb b = sb (a ++ b) := by
  apply ByteArray.ext
  show (sb a ++ sb b).data = _
  rw [ByteArray.data_append]
  unfold sb
  simp
theorem sb_extract (l : List UInt8) (a b : Nat) : (sb l).extract a b = sb ((l.take b).drop a) := by
  apply ByteArray.ext
  rw [ByteArray.data_extract]
  unfold sb
  simp [List.extract_eq_take_drop, List.drop_take]
theorem sb_get (l : List UInt8) (i : Nat) : (sb l)[i]? = l[i]? := by
  by_cases h : i < l.length
  · rw [getElem?_pos (sb l) i (by rw [sb_size]; exact h), List.getElem?_eq_getElem h]
    rfl
  · rw [getElem?_neg (sb l) i (by rw [sb_size]; exact h), List.getElem?_eq_none (by omega)]
theorem sb_beq (a b : List UInt8) : (sb a == sb b) = decide (a = b) := by
  show (a.toArray == b.toArray) = _
  rw [Bool.eq_iff_iff, beq_iff_eq, decide_eq_true_iff]
  exact ⟨fun h => by simpa using h, fun h => by rw [h]⟩
theorem ble_ok {n : Nat} (h : n ≤ 9223372036854775807) : Nat.ble n 9223372036854775807 = true := Nat.ble_eq_true_of_le h
theorem castS_S {R : Type} (s : ByteArray) (F : ByteArray → Option R) : castS (St s) F = F s := rfl
def dg (n : Int) : List UInt8 := dig n.toNat
theorem dg_len (n : Int) : 1 ≤ (dg n).length ∧ (dg n).length ≤ 2 := by unfold dg dig; split <;> simp
theorem r39 {K : Nat} (h : 1 ≤ K) (n : Int) (h0 : 0 ≤ n) (h1 : n < 100) : run tab K 39 [I n] = some (St (sb (dg n))) := by
  obtain ⟨K, rfl⟩ := succK h
  rw [show run tab (K + 1) 39 [I n] = extItoa [I n] from rfl]
  unfold extItoa
  simp only []
  rw [decide_eq_true h0, decide_eq_true h1]
  rfl
def txt4 (a b c d : Int) : List UInt8 := dg a ++ 32 :: (dg b ++ 32 :: (dg c ++ 32 :: dg d))
theorem txt4_len (a b c d : Int) : (txt4 a b c d).length ≤ 11 := by
  have := dg_len a; have := dg_len b; have := dg_len c; have := dg_len d
  unfold txt4
  simp only [List.length_append, List.length_cons]
  omega
theorem r40j {K : Nat} (h : 1 ≤ K) (a b c d : List UInt8) (ha : a.length ≤ 2) (hb : b.length ≤ 2) (hc : c.length ≤ 2) (hd : d.length ≤ 2) : run tab K 40 [.sl 9 [St (sb a), St (sb b), St (sb c), St (sb d)], St (sb [32])] = some (St (sb (a ++ 32 :: (b ++ 32 :: (c ++ 32 :: d))))) := by
  obtain ⟨K, rfl⟩ := succK h
  rw [show run tab (K + 1) 40 [.sl 9 [St (sb a), St (sb b), St (sb c), St (sb d)], St (sb [32])] = extJoin4 9 [.sl 9 [St (sb a), St (sb b), St (sb c), St (sb d)], St (sb [32])] from rfl]
  unfold extJoin4
  have hs : ∀ l : List UInt8, l.length ≤ 2 → shortS (sb l) = true := fun l hl => Nat.ble_eq_true_of_le (by rw [sb_size]; omega)
  simp only []
  rw [show Nat.beq 9 9 = true from rfl, hs a ha, hs b hb, hs c hc, hs d hd, hs [32] (by simp)]
  simp only [Bool.and_self, if_true]
  congr 4
  show (((a ++ ([32] ++ b)) ++ ([32] ++ c)) ++ ([32] ++ d)).toArray = _
  simp
def lt100 (n : Int) : Prop := 0 ≤ n ∧ n < 100
theorem r38 {K : Nat} (h : 10 ≤ K) (a b c d : Int) (ha : lt100 a) (hb : lt100 b) (hc : lt100 c) (hd : lt100 d) : run tab K 38 [.sl 3 [I a, I b, I c, I d]] = some (St (sb (txt4 a b c d))) := by
  obtain ⟨K, rfl⟩ := succK (show 1 ≤ K by omega)
  have ea := r39 (K := K) (by omega) a ha.1 ha.2
  have eb := r39 (K := K) (by omega) b hb.1 hb.2
  have ec := r39 (K := K) (by omega) c hc.1 hc.2
  have ed := r39 (K := K) (by omega) d hd.1 hd.2
  have ej := r40j (K := K) (by omega) (dg a) (dg b) (dg c) (dg d) (dg_len a).2 (dg_len b).2 (dg_len c).2 (dg_len d).2
  have q : ∀ n : Nat, n ≤ 10 → n * 16 ≤ maxBytes := fun n hn => by unfold maxBytes; omega
  rw [eq38]; unfold sh38 tr38
  have key : ∀ k, lp38_3 K (k + 5) ([] : List AV) [I a, I b, I c, I d] (([I a, I b, I c, I d] : List AV).length : Int) 0 = some (St (sb (txt4 a b c d))) := fun k => by
    have w1 : IntKind.i64.wrap ((0 : Int) + 1) = 1 := rfl
    have w2 : IntKind.i64.wrap ((1 : Int) + 1) = 2 := rfl
    have w3 : IntKind.i64.wrap ((2 : Int) + 1) = 3 := rfl
    have w4 : IntKind.i64.wrap ((3 : Int) + 1) = 4 := rfl
    have s32 : (⟨#[32]⟩ : ByteArray) = sb [32] := rfl
    show tr38_3 K (lp38_3 K (k + 4)) _ _ _ _ = _
    unfold tr38_3
    rw [show decide ((0 : Int) < (([I a, I b, I c, I d] : List AV).length : Int)) = true from rfl]
    simp only [if_pos (show (0 : Int) ≤ 0 by omega), show ([I a, I b, I c, I d] : List AV)[(0 : Int).toNat]? = some (I a) from rfl, castI_I, ea, castS_S, if_pos (q (([] : List AV).length + ([St (sb (dg a))] : List AV).length) (by simp)), w1]
    show tr38_3 K (lp38_3 K (k + 3)) _ _ _ _ = _
    unfold tr38_3
    rw [show decide ((1 : Int) < (([I a, I b, I c, I d] : List AV).length : Int)) = true from rfl]
    simp only [if_pos (show (0 : Int) ≤ 1 by omega), show ([I a, I b, I c, I d] : List AV)[(1 : Int).toNat]? = some (I b) from rfl, castI_I, eb, castS_S, List.nil_append, if_pos (q (([St (sb (dg a))] : List AV).length + ([St (sb (dg b))] : List AV).length) (by simp)), w2]
    show tr38_3 K (lp38_3 K (k + 2)) _ _ _ _ = _
    unfold tr38_3
    rw [show decide ((2 : Int) < (([I a, I b, I c, I d] : List AV).length : Int)) = true from rfl]
    simp only [if_pos (show (0 : Int) ≤ 2 by omega), show ([I a, I b, I c, I d] : List AV)[(2 : Int).toNat]? = some (I c) from rfl, castI_I, ec, castS_S, List.singleton_append, if_pos (q (([St (sb (dg a)), St (sb (dg b))] : List AV).length + ([St (sb (dg c))] : List AV).length) (by simp)), w3]
    show tr38_3 K (lp38_3 K (k + 1)) _ _ _ _ = _
    unfold tr38_3
    rw [show decide ((3 : Int) < (([I a, I b, I c, I d] : List AV).length : Int)) = true from rfl]
    simp only [if_pos (show (0 : Int) ≤ 3 by omega), show ([I a, I b, I c, I d] : List AV)[(3 : Int).toNat]? = some (I d) from rfl, castI_I, ed, castS_S, List.cons_append, List.nil_append, if_pos (q (([St (sb (dg a)), St (sb (dg b)), St (sb (dg c))] : List AV).length + ([St (sb (dg d))] : List AV).length) (by simp)), w4]
    show tr38_3 K (lp38_3 K k) _ _ _ _ = _
    unfold tr38_3
    rw [show decide ((4 : Int) < (([I a, I b, I c, I d] : List AV).length : Int)) = false from rfl]
    simp only [s32, ej, castS_S]
    rfl
  obtain ⟨K', rfl⟩ : ∃ k, K = k + 5 := ⟨K - 5, by omega⟩
  exact key K'
/-- What a step's text is, and those of more. -/
def textS (l : List St4) : List UInt8 := l.flatMap fun s => 59 :: txt4 s.f s.i s.o s.t
def textM (S N O T : Int) (l : List St4) : List UInt8 := txt4 S N O T ++ textS l
theorem textS_cons (s : St4) (l : List St4) : textS (s :: l) = 59 :: (txt4 s.f s.i s.o s.t ++ textS l) := rfl
def st100 (s : St4) : Prop := lt100 s.f ∧ lt100 s.i ∧ lt100 s.o ∧ lt100 s.t
theorem MaOk.small {S N O T : Int} {l : List St4} (ok : MaOk S N O T l) : lt100 S ∧ lt100 N ∧ lt100 O ∧ lt100 T ∧ ∀ s ∈ l, st100 s := by
  obtain ⟨s1, s2⟩ := ok.s; obtain ⟨n1, n2⟩ := ok.n; obtain ⟨o1, o2⟩ := ok.o; obtain ⟨t1, t2⟩ := ok.t
  refine ⟨⟨by omega, by omega⟩, ⟨by omega, by omega⟩, ⟨by omega, by omega⟩, ⟨by omega, by omega⟩, fun s hs => ?_⟩
  have := ok.mem s hs
  exact ⟨⟨by omega, by omega⟩, ⟨by omega, by omega⟩, ⟨by omega, by omega⟩, ⟨by omega, by omega⟩⟩
theorem l17 (K : Nat) (hK : 10 ≤ K) (l : List St4) (hl : l.length ≤ 1000) (hs : ∀ s ∈ l, st100 s) :
    ∀ (k i : Nat) (acc : List UInt8), l.length - i < k → acc.length ≤ 20 * (i + 1) → i ≤ 1000 → lp17_7 K k (sb acc) (steps l) (l.length : Int) (i : Int) = some (.tup [St (sb (acc ++ textS (l.drop i))), I 0])
  | 0, i, acc, h, _, _ => by omega
  | k + 1, i, acc, h, ha, h3 => by
    unfold lp17_7 tr17_7
    by_cases hi : i < l.length
    · obtain ⟨b1, b2, b3, b4⟩ := hs _ (List.getElem_mem hi)
      have e38 := r38 (K := K) hK l[i].f l[i].i l[i].o l[i].t b1 b2 b3 b4
      have hx := txt4_len l[i].f l[i].i l[i].o l[i].t
      have ih := l17 K hK l hl hs k (i + 1) (acc ++ ([59] ++ txt4 l[i].f l[i].i l[i].o l[i].t)) (by omega) (by simp; omega) (by omega)
      rw [← wrapN (by omega)] at ih
      have s59 : (⟨#[59]⟩ : ByteArray) = sb [59] := rfl
      rw [show decide ((i : Int) < (l.length : Int)) = true by simpa using hi, List.drop_eq_getElem_cons hi, textS_cons]
      simp only [if_pos (Int.natCast_nonneg i), steps_get hi, eS0, eS1, eS2, eS3, castI_I, e38, castS_S, s59, sb_append, sb_size]
      rw [ble_ok (by simp; omega), ble_ok (by simp; omega)]
      simp only []
      rw [ih]
      simp
    · rw [show decide ((i : Int) < (l.length : Int)) = false by simpa using hi, List.drop_eq_nil_of_le (by omega)]
      simp [textS]
def fmtT (S N O T : Int) (l : List St4) : AV := if (machErr S N O T l).2 = 0 then .tup [St (sb (textM S N O T l)), I 0] else .tup [St (sb []), I (machErr S N O T l).2]
theorem r17 {K : Nat} (S N O T : Int) (l : List St4) (hl : l.length ≤ 4611686018427387904) (hK : l.length + 400 ≤ K) : run tab K 17 [eM S N O T l] = some (fmtT S N O T l) := by
  obtain ⟨K, rfl⟩ := succK (show 1 ≤ K by omega)
  have e66 := r66 (K := K) S N O T l hl (by omega)
  unfold fmtT
  by_cases h0 : (machErr S N O T l).2 = 0
  · have ok := maOk_of h0
    obtain ⟨b1, b2, b3, b4, b5⟩ := ok.small
    have hll := ok.len
    have e38 := r38 (K := K) (by omega) S N O T b1 b2 b3 b4
    have main := l17 K (by omega) l (by omega) b5 K 0 (txt4 S N O T) (by omega) (by have := txt4_len S N O T; omega) (by omega)
    rw [if_pos h0]
    unfold eM at *
    rw [eq17]; unfold sh17 tr17
    simp only [e66, castI_I, h0, bne_self_eq_false, e38, castS_S, steps_len]
    exact main
  · rw [if_neg h0]
    have hne : ((machErr S N O T l).2 != 0) = true := by simpa using h0
    unfold eM at *
    rw [eq17]; unfold sh17 tr17
    simp only [e66, castI_I, hne]
    rfl
theorem dig10 : ∀ d : Nat, d < 10 → (⟨#[48, 49, 50, 51, 52, 53, 54, 55, 56, 57]⟩ : ByteArray).extract d (d + 1) = sb [UInt8.ofNat (48 + d)] := by
  intro d hd
  have : (⟨#[48, 49, 50, 51, 52, 53, 54, 55, 56, 57]⟩ : ByteArray) = sb [48, 49, 50, 51, 52, 53, 54, 55, 56, 57] := rfl
  rw [this, sb_extract]
  congr 1
  match d, hd with
  | 0, _ => rfl
  | 1, _ => rfl
  | 2, _ => rfl
  | 3, _ => rfl
  | 4, _ => rfl
  | 5, _ => rfl
  | 6, _ => rfl
  | 7, _ => rfl
  | 8, _ => rfl
  | 9, _ => rfl
theorem t41 (K : Nat) (q : Int → ByteArray → Option AV) (n : Nat) (hn : n ≤ 1000) (acc : List UInt8) (ha : acc.length ≤ 100) : tr41_6 K q (n : Int) (sb acc) = if n / 10 = 0 then some (St (sb (UInt8.ofNat (48 + n % 10) :: acc))) else q ((n / 10 : Nat) : Int) (sb (UInt8.ofNat (48 + n % 10) :: acc)) := by
  unfold tr41_6
  have e1 : Int.tmod (n : Int) 10 = ((n % 10 : Nat) : Int) := by rw [Int.tmod_eq_emod_of_nonneg (by omega)]; omega
  have e2 : Int.tdiv (n : Int) 10 = ((n / 10 : Nat) : Int) := by rw [Int.tdiv_eq_ediv_of_nonneg (by omega)]; omega
  have h10 : n % 10 < 10 := Nat.mod_lt _ (by omega)
  rw [e1, e2, wrapN (show n % 10 ≤ 4611686018427387904 by omega), wrapI (show i64 ((n / 10 : Nat) : Int) from ⟨by omega, by omega⟩)]
  have hsz : (⟨#[48, 49, 50, 51, 52, 53, 54, 55, 56, 57]⟩ : ByteArray).size = 10 := rfl
  rw [hsz, if_pos ⟨by omega, by omega, by omega⟩, Int.toNat_natCast, Int.toNat_natCast, dig10 _ h10, sb_append, sb_size, sb_size]
  rw [ble_ok (by simp; omega)]
  by_cases h : n / 10 = 0
  · rw [if_pos h, show (((n / 10 : Nat) : Int) == 0) = true by simp; omega]
    rfl
  · rw [if_neg h, show (((n / 10 : Nat) : Int) == 0) = false by simp; omega]
    rfl
theorem r41 {K : Nat} (h : 4 ≤ K) (n : Int) (h0 : 0 ≤ n) (h1 : n < 100) : run tab K 41 [I n] = some (St (sb (dg n))) := by
  obtain ⟨K, rfl⟩ : ∃ k, K = k + 2 + 1 := ⟨K - 3, by omega⟩
  obtain ⟨m, rfl⟩ : ∃ m : Nat, n = (m : Int) := ⟨n.toNat, by omega⟩
  rw [eq41]; unfold sh41 tr41
  rw [show decide ((m : Int) < 0) = false by simp]
  simp only []
  show tr41_6 _ (lp41_6 _ (K + 1)) (m : Int) (sb []) = _
  rw [t41 _ _ m (by omega) [] (by simp)]
  unfold dg dig
  rw [Int.toNat_natCast]
  by_cases hm : m < 10
  · rw [if_pos (by omega), if_pos (by simpa using hm), show m % 10 = m by omega]
  · rw [if_neg (by omega), if_neg (by simpa using hm)]
    show tr41_6 _ (lp41_6 _ K) ((m / 10 : Nat) : Int) (sb [UInt8.ofNat (48 + m % 10)]) = _
    rw [t41 _ _ (m / 10) (by omega) _ (by simp), if_pos (by omega), show m / 10 % 10 = m / 10 by omega]
theorem l18t (K : Nat) (hK : 10 ≤ K) (S N O T : Int) (l : List St4) (hl : l.length ≤ 1000) (hs : ∀ s ∈ l, st100 s) :
    ∀ (k i : Nat) (acc : List UInt8), l.length - i < k → acc.length ≤ 20 * (i + 1) → i ≤ 1000 → lp18_3 K k (sb acc) (i : Int) S N O T (steps l) = some (St (sb (acc ++ textS (l.drop i))))
  | 0, i, acc, h, _, _ => by omega
  | k + 1, i, acc, h, ha, h3 => by
    unfold lp18_3 tr18_3
    rw [steps_len]
    by_cases hi : i < l.length
    · obtain ⟨b1, b2, b3, b4⟩ := hs _ (List.getElem_mem hi)
      have e1 := r41 (K := K) (by omega) l[i].f b1.1 b1.2
      have e2 := r41 (K := K) (by omega) l[i].i b2.1 b2.2
      have e3 := r41 (K := K) (by omega) l[i].o b3.1 b3.2
      have e4 := r41 (K := K) (by omega) l[i].t b4.1 b4.2
      have g1 := (dg_len l[i].f).2; have g2 := (dg_len l[i].i).2; have g3 := (dg_len l[i].o).2; have g4 := (dg_len l[i].t).2
      have hx := txt4_len l[i].f l[i].i l[i].o l[i].t
      have ih := l18t K hK S N O T l hl hs k (i + 1) (acc ++ ([59] ++ txt4 l[i].f l[i].i l[i].o l[i].t)) (by omega) (by simp; omega) (by omega)
      rw [← wrapN (by omega)] at ih
      have s59 : (⟨#[59]⟩ : ByteArray) = sb [59] := rfl
      have s32 : (⟨#[32]⟩ : ByteArray) = sb [32] := rfl
      rw [show decide ((i : Int) < (l.length : Int)) = true by simpa using hi, List.drop_eq_getElem_cons hi, textS_cons]
      simp only [if_pos (Int.natCast_nonneg i), steps_get hi, eS0, eS1, eS2, eS3, castI_I, e1, e2, e3, e4, castS_S, s59, s32, sb_append, sb_size]
      rw [ble_ok (by simp; omega), ble_ok (by simp; omega), ble_ok (by simp; omega), ble_ok (by simp; omega), ble_ok (by simp; omega), ble_ok (by simp; omega), ble_ok (by simp; omega), ble_ok (by simp; omega)]
      simp only []
      have hc : acc ++ [59] ++ dg l[i].f ++ [32] ++ dg l[i].i ++ [32] ++ dg l[i].o ++ [32] ++ dg l[i].t = acc ++ ([59] ++ txt4 l[i].f l[i].i l[i].o l[i].t) := by unfold txt4; simp
      rw [hc, ih]
      simp
    · rw [show decide ((i : Int) < (l.length : Int)) = false by simpa using hi, List.drop_eq_nil_of_le (by omega)]
      simp [textS]
theorem r18t {K : Nat} {S N O T : Int} {l : List St4} (ok : MaOk S N O T l) (hK : 400 ≤ K) : run tab K 18 [eM S N O T l] = some (St (sb (textM S N O T l))) := by
  obtain ⟨K, rfl⟩ := succK (show 1 ≤ K by omega)
  obtain ⟨b1, b2, b3, b4, b5⟩ := ok.small
  have hll := ok.len
  have e1 := r41 (K := K) (by omega) S b1.1 b1.2
  have e2 := r41 (K := K) (by omega) N b2.1 b2.2
  have e3 := r41 (K := K) (by omega) O b3.1 b3.2
  have e4 := r41 (K := K) (by omega) T b4.1 b4.2
  have g1 := (dg_len S).2; have g2 := (dg_len N).2; have g3 := (dg_len O).2; have g4 := (dg_len T).2
  have main := l18t K (by omega) S N O T l (by omega) b5 K 0 (txt4 S N O T) (by omega) (by have := txt4_len S N O T; omega) (by omega)
  have s32 : (⟨#[32]⟩ : ByteArray) = sb [32] := rfl
  unfold eM at *
  rw [eq18]; unfold sh18 tr18
  simp only [e1, e2, e3, e4, castS_S, s32, sb_append, sb_size]
  rw [ble_ok (by simp; omega), ble_ok (by simp; omega), ble_ok (by simp; omega), ble_ok (by simp; omega), ble_ok (by simp; omega), ble_ok (by simp; omega)]
  simp only []
  have hc : dg S ++ [32] ++ dg N ++ [32] ++ dg O ++ [32] ++ dg T = txt4 S N O T := by unfold txt4; simp
  rw [hc]
  exact main
end Go.Proofs.YtahifpeggdcamaaGreatDoor

/- Pieces of texts, and numbers of at most four digits: plain. -/
namespace Go.Proofs.YtahifpeggdcamaaGreatDoor
open Go.Dam
set_option linter.unusedVariables false
set_option linter.unusedSimpArgs false
/-- The pieces of a text between the bytes c: at least one. -/
def spl (c : UInt8) : List UInt8 → List (List UInt8)
  | [] => [[]]
  | x :: xs => if x = c then [] :: spl c xs else match spl c xs with
    | [] => [[x]]
    | p :: ps => (x :: p) :: ps
theorem spl_nc {c : UInt8} : ∀ {p : List UInt8}, c ∉ p → spl c p = [p]
  | [], _ => rfl
  | x :: xs, h => by
    have h1 : x ≠ c := fun e => h (by simp [e])
    have h2 : c ∉ xs := fun e => h (by simp [e])
    rw [spl, if_neg h1, spl_nc h2]
theorem spl_app {c : UInt8} : ∀ {a : List UInt8} (r : List UInt8), c ∉ a → spl c (a ++ c :: r) = a :: spl c r
  | [], r, _ => by
    show spl c (c :: r) = _
    rw [spl, if_pos rfl]
  | x :: xs, r, h => by
    have h1 : x ≠ c := fun e => h (by simp [e])
    have h2 : c ∉ xs := fun e => h (by simp [e])
    show spl c (x :: (xs ++ c :: r)) = _
    rw [spl, if_neg h1, spl_app r h2]
theorem cut_cases (c : UInt8) (l : List UInt8) : c ∉ l ∨ ∃ a r, c ∉ a ∧ l = a ++ c :: r := by
  by_cases h : c ∈ l
  · obtain ⟨a, r, e, ha⟩ := List.eq_append_cons_of_mem h
    exact .inr ⟨a, r, ha, e⟩
  · exact .inl h
theorem spl_len (c : UInt8) : ∀ l : List UInt8, (spl c l).length = l.count c + 1
  | [] => rfl
  | x :: xs => by
    have ih := spl_len c xs
    rw [spl]
    by_cases h : x = c
    · rw [if_pos h, List.length_cons, ih, List.count_cons, if_pos (by simpa using h)]
    · rw [if_neg h, List.count_cons, if_neg (by simpa using h)]
      cases hs : spl c xs with
      | nil => rw [hs] at ih; simp at ih
      | cons p ps => rw [hs] at ih; simpa using ih
theorem ixb_no {c : UInt8} : ∀ {l : List UInt8}, c ∉ l → Lib.indexByte l c = -1
  | [], _ => rfl
  | x :: xs, h => by
    have h1 : x ≠ c := fun e => h (by simp [e])
    have h2 : c ∉ xs := fun e => h (by simp [e])
    rw [Lib.indexByte, if_neg (by simpa using h1), ixb_no h2]
    rfl
theorem ixb_app {c : UInt8} : ∀ {a : List UInt8} (r : List UInt8), c ∉ a → Lib.indexByte (a ++ c :: r) c = (a.length : Int)
  | [], r, _ => by
    show Lib.indexByte (c :: r) c = _
    rw [Lib.indexByte, if_pos (by simp)]
    rfl
  | x :: xs, r, h => by
    have h1 : x ≠ c := fun e => h (by simp [e])
    have h2 : c ∉ xs := fun e => h (by simp [e])
    show Lib.indexByte (x :: (xs ++ c :: r)) c = _
    rw [Lib.indexByte, if_neg (by simpa using h1), ixb_app r h2, if_neg (by simp), List.length_cons]
    rfl
def dgt (b : UInt8) : Bool := !noDig b
theorem dgt_iff (b : UInt8) : dgt b = true ↔ 48 ≤ b.toNat ∧ b.toNat ≤ 57 := by
  unfold dgt noDig
  rw [Bool.not_not, Bool.and_eq_true, Nat.ble_eq, Nat.ble_eq]
theorem dgt_ne {b : UInt8} (h : dgt b = true) {c : UInt8} (hc : c.toNat < 48 ∨ 57 < c.toNat) : b ≠ c := by
  intro e
  subst e
  have := (dgt_iff b).1 h
  omega
def numP (d : List UInt8) : Bool := decide (1 ≤ d.length) && decide (d.length ≤ 4) && d.all dgt && (decide (d.length ≤ 1) || decide (d.head? ≠ some 48))
def valF (a : Nat) (d : List UInt8) : Nat := d.foldl (fun a b => 10 * a + (b.toNat - 48)) a
def val (d : List UInt8) : Int := (valF 0 d : Nat)
theorem decFrom_all : ∀ (d : List UInt8) (a : Nat), d.all dgt = true → Lib.decFrom a d = some (valF a d)
  | [], a, _ => rfl
  | b :: d, a, h => by
    simp only [List.all_cons, Bool.and_eq_true] at h
    obtain ⟨h1, h2⟩ := h
    rw [Lib.decFrom, Lib.digitVal, if_pos ((dgt_iff b).1 h1)]
    show Lib.decFrom (a * 10 + (b.toNat - 48)) d = _
    rw [decFrom_all d _ h2]
    show some (valF _ d) = some (valF (10 * a + (b.toNat - 48)) d)
    rw [Nat.mul_comm]
theorem atoi_num {d : List UInt8} (h : d.all dgt = true) (h1 : 1 ≤ d.length) : Lib.atoi d = some (val d) := by
  match d, h1 with
  | b :: r, _ =>
    have hb : dgt b = true := by simp only [List.all_cons, Bool.and_eq_true] at h; exact h.1
    rw [Lib.atoi, if_neg (by simpa using dgt_ne hb (c := 45) (by decide)), if_neg (by simpa using dgt_ne hb (c := 43) (by decide)), Lib.decNat]
    rw [if_neg (by simp), decFrom_all _ 0 h]
    rfl
/-- So many numbers, with blanks between. -/
def quad (k : Nat) (p : List UInt8) : Bool := decide ((spl 32 p).length = k + 1) && (spl 32 p).all numP
def vals (p : List UInt8) : List Int := (spl 32 p).map val
/-- What the reference reads: so many numbers, and how many bytes they take. -/
def scanN : Nat → List UInt8 → Option (List Int × Nat)
  | k, l => if numP (l.takeWhile dgt) = true then
      (match k, l.drop (l.takeWhile dgt).length with
      | 0, [] => some ([val (l.takeWhile dgt)], (l.takeWhile dgt).length)
      | 0, c :: _ => if c = 59 then some ([val (l.takeWhile dgt)], (l.takeWhile dgt).length) else none
      | k + 1, c :: r => if c = 32 then (scanN k r).map (fun x => (val (l.takeWhile dgt) :: x.1, (l.takeWhile dgt).length + (1 + x.2))) else none
      | _ + 1, [] => none)
    else none
theorem tail_cases {t : List UInt8} (h : t = [] ∨ ∃ r, t = 59 :: r) : t.takeWhile dgt = [] := by
  rcases h with rfl | ⟨r, rfl⟩
  · rfl
  · rw [List.takeWhile_cons]; rfl
theorem tw_all : ∀ (p : List UInt8), p.all dgt = true → ∀ t : List UInt8, t.takeWhile dgt = [] → (p ++ t).takeWhile dgt = p
  | [], _, t, h => h
  | b :: p, h, t, ht => by
    simp only [List.all_cons, Bool.and_eq_true] at h
    show (b :: (p ++ t)).takeWhile dgt = _
    rw [List.takeWhile_cons, if_pos h.1, tw_all p h.2 t ht]
theorem tw_split : ∀ (p : List UInt8), p.all dgt = true ∨ ∃ d c r, p = d ++ c :: r ∧ d.all dgt = true ∧ dgt c = false
  | [] => .inl rfl
  | b :: p => by
    cases hb : dgt b with
    | false => exact .inr ⟨[], b, p, rfl, rfl, hb⟩
    | true =>
      rcases tw_split p with h | ⟨d, c, r, rfl, h1, h2⟩
      · exact .inl (by simp [hb, h])
      · exact .inr ⟨b :: d, c, r, rfl, by simp [hb, h1], h2⟩
theorem all_nc {d : List UInt8} (h : d.all dgt = true) {c : UInt8} (hc : dgt c = false) : c ∉ d := fun hm => by
  have := List.all_eq_true.1 h c hm
  rw [hc] at this
  cases this
theorem spl_ne (c : UInt8) (l : List UInt8) : spl c l ≠ [] := fun h => by
  have := spl_len c l
  rw [h] at this
  simp at this
theorem scan_quad : ∀ (k : Nat) (p t : List UInt8), 59 ∉ p → (t = [] ∨ ∃ r, t = 59 :: r) → scanN k (p ++ t) = if quad k p = true then some (vals p, p.length) else none
  | k, p, t, hp, ht => by
    have htw := tail_cases ht
    rcases tw_split p with h | ⟨d, c, r, rfl, h1, h2⟩
    · have e := tw_all p h t htw
      have hs : spl 32 p = [p] := spl_nc (all_nc h (by decide))
      rw [scanN.eq_def]
      simp only []
      rw [e, List.drop_left]
      unfold quad vals
      rw [hs]
      cases hn : numP p with
      | false => simp [hn]
      | true =>
        match k, t, ht with
        | 0, [], _ => simp [hn]
        | 0, c :: r, .inr ⟨r', e'⟩ =>
          simp only [List.cons.injEq] at e'
          simp [hn, e'.1]
        | k + 1, [], _ => simp
        | k + 1, c :: r, .inr ⟨r', e'⟩ =>
          simp only [List.cons.injEq] at e'
          simp [e'.1]
    · have e : (d ++ c :: r ++ t).takeWhile dgt = d := by
        rw [List.append_assoc]
        refine tw_all d h1 _ ?_
        show (c :: (r ++ t)).takeWhile dgt = []
        rw [List.takeWhile_cons, h2]
        rfl
      have hdr : (d ++ c :: r ++ t).drop d.length = c :: (r ++ t) := by rw [List.append_assoc, List.drop_left]; rfl
      have hd32 : (32 : UInt8) ∉ d := all_nc h1 (by decide)
      have hc59 : c ≠ 59 := fun e => hp (by simp [e])
      have hr : (59 : UInt8) ∉ r := fun e => hp (by simp [e])
      rw [scanN.eq_def]
      simp only []
      rw [e, hdr]
      by_cases hc : c = 32
      · subst hc
        have hs : spl 32 (d ++ 32 :: r) = d :: spl 32 r := spl_app r hd32
        unfold quad vals
        rw [hs]
        cases hn : numP d with
        | false => simp [hn]
        | true =>
          match k with
          | 0 =>
            simp [spl_ne 32 r]
          | k + 1 =>
            have ih := scan_quad k r t hr ht
            simp only [if_true]
            rw [ih]
            unfold quad vals
            by_cases hq : (decide ((spl 32 r).length = k + 1) && (spl 32 r).all numP) = true
            · rw [if_pos hq]
              simp only [Bool.and_eq_true, decide_eq_true_eq] at hq
              simp [hq.1, hq.2, hn]
              omega
            · rw [if_neg hq]
              have : (decide ((d :: spl 32 r).length = k + 1 + 1) && (d :: spl 32 r).all numP) = (decide ((spl 32 r).length = k + 1) && (spl 32 r).all numP) := by simp [hn]
              rw [this, if_neg hq]
              rfl
      · have hbad : (spl 32 (d ++ c :: r)).all numP = false := by
          have hex : ∃ q ps, spl 32 (d ++ c :: r) = (d ++ c :: q) :: ps := by
            rcases cut_cases 32 r with h | ⟨a, b, ha, rfl⟩
            · refine ⟨r, [], spl_nc ?_⟩
              simp only [List.mem_append, List.mem_cons, not_or]
              exact ⟨hd32, fun e => hc e.symm, h⟩
            · refine ⟨a, spl 32 b, ?_⟩
              have : d ++ c :: (a ++ 32 :: b) = (d ++ c :: a) ++ 32 :: b := by simp
              rw [this, spl_app]
              simp only [List.mem_append, List.mem_cons, not_or]
              exact ⟨hd32, fun e => hc e.symm, ha⟩
          obtain ⟨q, ps, e⟩ := hex
          rw [e]
          simp [numP, h2]
        unfold quad
        rw [hbad, Bool.and_false, if_neg (show ¬ (false = true) by simp)]
        cases hn : numP d with
        | false => rfl
        | true =>
          match k with
          | 0 => simp [hc59]
          | k + 1 => simp [hc]
end Go.Proofs.YtahifpeggdcamaaGreatDoor

/- strings.Index, Cut and Split, by a separator of one byte. -/
namespace Go.Proofs.YtahifpeggdcamaaGreatDoor
open Go.Dam
set_option linter.unusedVariables false
set_option linter.unusedSimpArgs false
theorem rs113 {K : Nat} (h : 1 ≤ K) (l : List UInt8) (c : UInt8) : run tab K 113 [St (sb l), .sc (.int .u8 (c.toNat : Int))] = some (I (Lib.indexByte l c)) := by
  obtain ⟨K, rfl⟩ := succK h
  rw [show run tab (K + 1) 113 [St (sb l), .sc (.int .u8 (c.toNat : Int))] = extIdxB [St (sb l), .sc (.int .u8 (c.toNat : Int))] from rfl]
  unfold extIdxB
  simp only []
  rw [show ((c.toNat : Int).toNat.toUInt8) = c by simp]
  rfl
theorem rs118 {K : Nat} (h : 1 ≤ K) (l : List UInt8) (c : UInt8) : run tab K 118 [St (sb l), St (sb [c])] = some (I (l.count c : Nat)) := by
  obtain ⟨K, rfl⟩ := succK h
  rfl
theorem rs84 {K : Nat} (h : 2 ≤ K) (l : List UInt8) (c : UInt8) : run tab K 84 [St (sb l), St (sb [c])] = some (I (Lib.indexByte l c)) := by
  obtain ⟨K, rfl⟩ := succK (show 1 ≤ K by omega)
  have e := rs113 (K := K) (by omega) l c
  rw [eq84]; unfold sh84 tr84
  rw [sb_beq, sb_size, show ((([c] : List UInt8).length : Int) == 0) = false from rfl, show ((([c] : List UInt8).length : Int) == 1) = true from rfl]
  by_cases hl : [c] = l
  · subst hl
    rw [decide_eq_true rfl]
    show _ = some (I (Lib.indexByte ([] ++ c :: []) c))
    rw [ixb_app _ (by simp)]
    rfl
  · rw [decide_eq_false hl]
    simp only []
    rw [if_pos (by omega), sb_get]
    show (match run tab K 113 _ with | some r => _ | none => none) = _
    rw [e]
    rfl
theorem r66c {K : Nat} (h : 3 ≤ K) (l : List UInt8) (c : UInt8) (hl : l.length ≤ 1000000) :
    (c ∉ l → run tab K 66 [St (sb l), St (sb [c])] = some (.tup [St (sb l), St (sb []), B false])) ∧
    (∀ a r, c ∉ a → l = a ++ c :: r → run tab K 66 [St (sb l), St (sb [c])] = some (.tup [St (sb a), St (sb r), B true])) := by
  obtain ⟨K, rfl⟩ := succK (show 1 ≤ K by omega)
  have e := rs84 (K := K) (by omega) l c
  rw [eq66]; unfold sh66 tr66
  rw [e]
  refine ⟨fun hc => ?_, fun a r ha hr => ?_⟩
  · rw [ixb_no hc]
    rfl
  · subst hr
    have hlen : (a ++ c :: r).length = a.length + 1 + r.length := by simp; omega
    rw [ixb_app r ha]
    simp only [castI_I]
    rw [decide_eq_true (show (a.length : Int) ≥ 0 by omega)]
    simp only []
    rw [sb_size, sb_size, hlen, wrapI (show i64 ((a.length : Int) + (([c] : List UInt8).length : Int)) from ⟨by simp; omega, by simp; omega⟩)]
    rw [if_pos ⟨by omega, by omega, by omega⟩, if_pos ⟨by simp; omega, by simp; omega, by omega⟩]
    rw [sb_extract, sb_extract]
    simp only [Int.toNat_natCast, Int.toNat_zero]
    rw [show ((a.length : Int) + (([c] : List UInt8).length : Int)).toNat = a.length + 1 from rfl]
    rw [← hlen, List.take_length, List.take_left, List.drop_zero]
    rw [show (a ++ c :: r).drop (a.length + 1) = r by rw [← List.drop_drop, List.drop_left]; rfl]
theorem r42c {K : Nat} (h : 4 ≤ K) (l : List UInt8) (c : UInt8) (hl : l.length ≤ 1000000) :
    (c ∉ l → run tab K 42 [St (sb l), St (sb [c])] = some (.tup [St (sb l), St (sb []), B false])) ∧
    (∀ a r, c ∉ a → l = a ++ c :: r → run tab K 42 [St (sb l), St (sb [c])] = some (.tup [St (sb a), St (sb r), B true])) := by
  obtain ⟨K, rfl⟩ := succK (show 1 ≤ K by omega)
  have e := r66c (K := K) (by omega) l c hl
  rw [eq42]; unfold sh42 tr42
  refine ⟨fun hc => ?_, fun a r ha hr => ?_⟩
  · rw [e.1 hc]
    rfl
  · rw [e.2 a r ha hr]
    rfl
theorem rs119 {K : Nat} (h : 3 ≤ K) (l : List UInt8) (c : UInt8) : run tab K 119 [St (sb l), St (sb [c])] = some (I (Lib.indexByte l c)) := by
  obtain ⟨K, rfl⟩ := succK (show 1 ≤ K by omega)
  have e := rs84 (K := K) (by omega) l c
  rw [eq119]; unfold sh119 tr119
  rw [e]
  rfl
def TS1 (p : List UInt8) : AV := St (sb p)
theorem set_mid {α : Type} (a : List α) (x y : α) (b : List α) : (a ++ x :: b).set a.length y = a ++ y :: b := by
  rw [List.set_append_right _ _ (Nat.le_refl _), Nat.sub_self]
  rfl
theorem lp85 (K : Nat) (hK : 4 ≤ K) : ∀ (k : Nat) (l : List UInt8) (done : List (List UInt8)), l.count 32 < k → done.length + l.length ≤ 1000000 →
    lp85_11 K k (sb l) (sb [32]) 0 ((done.length + l.count 32 : Nat) : Int) (done.map TS1 ++ List.replicate (l.count 32 + 1) (St ByteArray.empty)) (done.length : Int) = some (.sl 9 ((done ++ spl 32 l).map TS1))
  | 0, l, done, h, _ => by omega
  | k + 1, l, done, h, hl => by
    unfold lp85_11 tr85_11
    have hat : ∀ b : List AV, (done.map TS1 ++ b)[((done.length : Int)).toNat]? = b[0]? := fun b => by
      rw [Int.toNat_natCast, List.getElem?_append_right (by simp)]
      simp
    rcases cut_cases 32 l with hn | ⟨a, r, ha, rfl⟩
    · have hc : l.count 32 = 0 := List.count_eq_zero.2 hn
      rw [hc, decide_eq_false (show ¬ ((done.length : Int) < ((done.length + 0 : Nat) : Int)) by omega)]
      simp only []
      rw [if_pos (by omega), hat]
      show (if _ then _ else none) = _
      have hset : (done.map TS1 ++ List.replicate (0 + 1) (St ByteArray.empty)).set (done.length : Int).toNat (St (sb l) : AV) = (done ++ [l]).map TS1 := by
        rw [Int.toNat_natCast]
        have := set_mid (done.map TS1) (St ByteArray.empty) (St (sb l) : AV) []
        rw [List.length_map] at this
        rw [show List.replicate (0 + 1) (St ByteArray.empty) = [(St ByteArray.empty : AV)] from rfl, this]
        simp [TS1]
      rw [hset, if_pos (by simp), wrapN (by omega)]
      rw [if_pos ⟨by omega, by omega, by simp⟩]
      rw [spl_nc hn]
      simp only [Int.toNat_natCast, Int.toNat_zero, List.drop_zero]
      rw [List.take_of_length_le (by simp)]
    · have hc : (a ++ 32 :: r).count 32 = r.count 32 + 1 := by
        rw [List.count_append, List.count_cons_self, List.count_eq_zero.2 ha]
        omega
      have hlen : (a ++ 32 :: r).length = a.length + 1 + r.length := by simp; omega
      have e := rs119 (K := K) (by omega) (a ++ 32 :: r) 32
      have ih := lp85 K hK k r (done ++ [a]) (by omega) (by simp; omega)
      rw [hc, decide_eq_true (show ((done.length : Int) < ((done.length + (r.count 32 + 1) : Nat) : Int)) by omega)]
      simp only []
      rw [e, ixb_app r ha]
      simp only [castI_I]
      rw [decide_eq_false (show ¬ ((a.length : Int) < 0) by omega)]
      simp only []
      rw [sb_size, sb_size, hlen, wrapI (show i64 ((a.length : Int) + (([32] : List UInt8).length : Int)) from ⟨by simp; omega, by simp; omega⟩), wrapI (show i64 ((a.length : Int) + 0) from ⟨by omega, by omega⟩)]
      rw [if_pos ⟨by omega, by omega, by omega⟩, if_pos (by omega), hat]
      show (if _ then _ else none) = _
      rw [if_pos (by simp), if_pos ⟨by simp; omega, by simp; omega, by omega⟩]
      rw [sb_extract, sb_extract]
      have hset : (done.map TS1 ++ List.replicate (r.count 32 + 1 + 1) (St ByteArray.empty)).set (done.length : Int).toNat (St (sb a) : AV) = (done ++ [a]).map TS1 ++ List.replicate (r.count 32 + 1) (St ByteArray.empty) := by
        rw [Int.toNat_natCast]
        have := set_mid (done.map TS1) (St ByteArray.empty) (St (sb a) : AV) (List.replicate (r.count 32 + 1) (St ByteArray.empty))
        rw [List.length_map] at this
        rw [List.replicate_succ, this]
        simp [TS1]
      have hx1 : ((a ++ 32 :: r).take (a.length + 1 + r.length : Nat)).drop (a.length + 1) = r := by
        rw [← hlen, List.take_length, ← List.drop_drop, List.drop_left]; rfl
      rw [show ((a.length : Int) + (([32] : List UInt8).length : Int)).toNat = a.length + 1 from rfl, show ((a.length : Int) + 0).toNat = a.length from rfl]
      simp only [Int.toNat_natCast, Int.toNat_zero, List.drop_zero]
      rw [hx1, List.take_left]
      rw [Int.toNat_natCast] at hset
      rw [hset, wrapN (by omega)]
      rw [spl_app r ha]
      have e1 : ((done.length + (r.count 32 + 1) : Nat) : Int) = (((done ++ [a]).length + r.count 32 : Nat) : Int) := by simp; omega
      have e2 : ((done.length + 1 : Nat) : Int) = ((done ++ [a]).length : Nat) := by simp
      rw [e1, e2, ih]
      simp
theorem rs85 {K : Nat} (l : List UInt8) (hl : l.length ≤ 100000) (hK : l.length + 10 ≤ K) : run tab K 85 [St (sb l), St (sb [32]), I 0, I (-1)] = some (.sl 9 ((spl 32 l).map TS1)) := by
  obtain ⟨K, rfl⟩ := succK (show 1 ≤ K by omega)
  have hc : l.count 32 ≤ l.length := List.count_le_length
  have e := rs118 (K := K) (by omega) l 32
  have main := lp85 K (by omega) K l [] (by omega) (by simp; omega)
  rw [eq85]; unfold sh85 tr85
  rw [show ((-1 : Int) == 0) = false from rfl, show (sb [32] == (⟨#[]⟩ : ByteArray)) = false from rfl, show decide ((-1 : Int) < 0) = true from rfl]
  simp only []
  rw [e]
  simp only [castI_I]
  rw [sb_size, wrapN (by omega), wrapN (by omega)]
  have hmin : minI ((l.count 32 + 1 : Nat) : Int) ((l.length + 1 : Nat) : Int) = ((l.count 32 + 1 : Nat) : Int) := by
    unfold minI
    rw [if_neg (by omega)]
  have hmx : (l.count 32 + 1) * 16 ≤ maxBytes := by
    have : (200000 : Nat) * 16 ≤ maxBytes := by decide
    omega
  rw [hmin, if_pos ⟨trivial, by omega, by rw [Int.toNat_natCast]; exact hmx⟩]
  rw [Int.toNat_natCast, wrapI (show i64 (((l.count 32 + 1 : Nat) : Int) - 1) from ⟨by omega, by omega⟩)]
  rw [show (((l.count 32 + 1 : Nat) : Int) - 1) = ((([] : List (List UInt8)).length + l.count 32 : Nat) : Int) by simp]
  exact main
theorem r67s {K : Nat} (l : List UInt8) (hl : l.length ≤ 100000) (hK : l.length + 11 ≤ K) : run tab K 67 [St (sb l), St (sb [32])] = some (.sl 9 ((spl 32 l).map TS1)) := by
  obtain ⟨K, rfl⟩ := succK (show 1 ≤ K by omega)
  have e := rs85 (K := K) l hl (by omega)
  rw [eq67]; unfold sh67 tr67
  rw [e]
  simp only [castL_L]
end Go.Proofs.YtahifpeggdcamaaGreatDoor
