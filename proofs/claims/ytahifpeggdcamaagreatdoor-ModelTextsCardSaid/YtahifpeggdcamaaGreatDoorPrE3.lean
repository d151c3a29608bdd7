/- A part of an interpreter of the model's code that is proved sound, and of laws told by it: DamL1, DamL2, DamL3, DamL4, DamL5, DamL6, DamL7, DamL8, DamL9. -/
import Derived.Test.YtahifpeggdcamaaGreatDoorPrE1
import Derived.IntWalk
import Derived.Test.YtahifpeggdcamaaGreatDoorPrDA
import Derived.Test.YtahifpeggdcamaaGreatDoorPrC7
set_option linter.unusedVariables false
set_option linter.unusedSimpArgs false
/- What the smallest functions tell. -/
namespace Go.Proofs.YtahifpeggdcamaaGreatDoor
open Go.Dam
set_option linter.unusedVariables false
set_option linter.unusedSimpArgs false
theorem castI_I {R : Type} (n : Int) (F : Int → Option R) : castI .i64 (I n) F = F n := rfl
theorem castB_B {R : Type} (b : Bool) (F : Bool → Option R) : castB (B b) F = F b := rfl
theorem castL_L {R : Type} (T : Nat) (l : List AV) (F : List AV → Option R) : castL T (.sl T l) F = F l := by simp [castL]
def i64 (n : Int) : Prop := -9223372036854775808 ≤ n ∧ n ≤ 9223372036854775807
theorem wrapI {n : Int} (h : i64 n) : IntKind.i64.wrap n = n := by
  obtain ⟨h1, h2⟩ := h
  rw [IntKind.wrap_i64]
  omega
theorem wrapN {i : Nat} (h : i ≤ 4611686018427387904) : IntKind.i64.wrap ((i : Int) + 1) = ((i + 1 : Nat) : Int) := by
  rw [wrapI ⟨by omega, by omega⟩]; omega
theorem succK {K : Nat} (h : 1 ≤ K) : ∃ k, K = k + 1 := ⟨K - 1, by omega⟩
/-- Numbers as values. -/
def ints (l : List Int) : List AV := l.map I
theorem ints_get {l : List Int} {i : Nat} (h : i < l.length) : (ints l)[((i : Nat) : Int).toNat]? = some (I l[i]) := by
  simp [ints, h]
theorem ints_len (l : List Int) : (ints l).length = l.length := by simp [ints]

def within (n a b : Int) : Bool := decide (a ≤ n) && decide (n ≤ b)
theorem r57 {K : Nat} (h : 1 ≤ K) (n a b : Int) : run tab K 34 [I n, I a, I b] = some (B (within n a b)) := by
  obtain ⟨K, rfl⟩ := succK h
  rw [eq34]; unfold sh34 tr34 within
  cases decide (a ≤ n) <;> rfl
theorem r29 {K : Nat} (h : 1 ≤ K) (n a b : Int) : run tab K 14 [I n, I a, I b] = some (B (within n a b)) := by
  obtain ⟨K, rfl⟩ := succK h
  rw [eq14]; unfold sh14 tr14 within
  cases decide (a ≤ n) <;> rfl
theorem r84 {K : Nat} (h : 1 ≤ K) (n : Int) : run tab K 95 [I n] = some (B false) := by
  obtain ⟨K, rfl⟩ := succK h
  rw [eq95]; unfold sh95 tr95
  simp
def cmpI (a b : Int) : Int := if a < b then -1 else if a > b then 1 else 0
theorem r59 {K : Nat} (h : 2 ≤ K) (a b : Int) : run tab K 76 [I a, I b] = some (I (cmpI a b)) := by
  obtain ⟨K, rfl⟩ := succK (show 1 ≤ K by omega)
  rw [eq76]; unfold sh76 tr76 cmpI
  simp only [r84 (show 1 ≤ K by omega), castB_B]
  by_cases h1 : a < b
  · simp [h1]
  · by_cases h2 : a > b <;> simp [h1, h2]
theorem r81 {K : Nat} (h : 1 ≤ K) (b : Bool) : run tab K 52 [B b] = some (I (if b then 1 else 0)) := by
  obtain ⟨K, rfl⟩ := succK h
  rw [eq52]; unfold sh52 tr52
  cases b <;> rfl
theorem r62 {K : Nat} (h : 1 ≤ K) (b : Bool) (n : Int) : run tab K 33 [B b, I n] = some (I (if b then 0 else n)) := by
  obtain ⟨K, rfl⟩ := succK h
  rw [eq33]; unfold sh33 tr33
  cases b <;> rfl
/-- The first that is not 0. -/
def orI : List Int → Int
  | [] => 0
  | n :: l => if n = 0 then orI l else n
theorem l58 (K : Nat) (l : List Int) (hl : l.length ≤ 4611686018427387904) : ∀ (k i : Nat), l.length - i < k → lp75_3 K k 0 (ints l) (l.length : Int) (i : Int) = some (I (orI (l.drop i)))
  | 0, i, h => by omega
  | k + 1, i, h => by
    unfold lp75_3 tr75_3
    by_cases hi : i < l.length
    · rw [show decide ((i : Int) < (l.length : Int)) = true by simpa using hi, List.drop_eq_getElem_cons hi]
      simp only [if_pos (Int.natCast_nonneg i), ints_get hi, castI_I, orI]
      by_cases h0 : l[i] = 0
      · simp only [h0, if_pos]
        rw [wrapN (by omega)]
        exact l58 K l hl k (i + 1) (by omega)
      · rw [show (l[i] != 0) = true by simpa using h0]; simp [h0]
    · rw [show decide ((i : Int) < (l.length : Int)) = false by simpa using hi, List.drop_eq_nil_of_le (by omega)]
      rfl
theorem r58 {K : Nat} (l : List Int) (hl : l.length ≤ 4611686018427387904) (h : l.length + 2 ≤ K) : run tab K 75 [.sl 3 (ints l)] = some (I (orI l)) := by
  obtain ⟨K, rfl⟩ := succK (show 1 ≤ K by omega)
  rw [eq75]; unfold sh75 tr75
  rw [ints_len]
  exact l58 K l hl K 0 (by omega)
theorem l61 (K : Nat) (l : List Int) (hl : l.length ≤ 4611686018427387904) : ∀ (k i : Nat), l.length - i < k → lp32_3 K k 0 (ints l) (l.length : Int) (i : Int) = some (I (orI (l.drop i)))
  | 0, i, h => by omega
  | k + 1, i, h => by
    unfold lp32_3 tr32_3
    by_cases hi : i < l.length
    · rw [show decide ((i : Int) < (l.length : Int)) = true by simpa using hi, List.drop_eq_getElem_cons hi]
      simp only [if_pos (Int.natCast_nonneg i), ints_get hi, castI_I, orI]
      by_cases h0 : l[i] = 0
      · simp only [h0, if_pos]
        rw [wrapN (by omega)]
        exact l61 K l hl k (i + 1) (by omega)
      · rw [show (l[i] != 0) = true by simpa using h0]; simp [h0]
    · rw [show decide ((i : Int) < (l.length : Int)) = false by simpa using hi, List.drop_eq_nil_of_le (by omega)]
      rfl
theorem r61 {K : Nat} (l : List Int) (hl : l.length ≤ 4611686018427387904) (h : l.length + 2 ≤ K) : run tab K 32 [.sl 29 (ints l)] = some (I (orI l)) := by
  obtain ⟨K, rfl⟩ := succK (show 1 ≤ K by omega)
  rw [eq32]; unfold sh32 tr32
  rw [ints_len]
  exact l61 K l hl K 0 (by omega)
theorem st53 {K : Nat} (h : 1 ≤ K) (q : List AV → List AV → Int → Option AV) (l m : List AV) (i : Nat) (a c : Int) (hl : l[i]? = some (I a)) (hm : m[i]? = some (I c)) :
    tr53_2 K q l m (i : Int) = if a = c then q l m (IntKind.i64.wrap ((i : Int) + 1)) else some (I (cmpI a c)) := by
  have h1 : i < l.length := (List.getElem?_eq_some_iff.1 hl).1
  have h2 : i < m.length := (List.getElem?_eq_some_iff.1 hm).1
  unfold tr53_2
  rw [show decide ((i : Int) < (l.length : Int)) = true by simpa using h1, show decide ((i : Int) < (m.length : Int)) = true by simpa using h2]
  simp only [if_pos (Int.natCast_nonneg i), Int.toNat_natCast, hl, hm, castI_I, r81 h]
  by_cases hac : a = c
  · rw [show (a != c) = false by simpa using hac, if_pos hac]
  · rw [show (a != c) = true by simpa using hac, if_neg hac]
    unfold cmpI
    by_cases h3 : a > c
    · rw [if_neg (show ¬ a < c by omega), if_pos h3, show decide (a > c) = true by simpa using h3]; rfl
    · rw [if_pos (show a < c by omega), show decide (a > c) = false by simpa using h3]; rfl
/-- Lists of two numbers, one after the other. -/
theorem r60 {K : Nat} (h : 5 ≤ K) (a b c d : Int) : run tab K 53 [.sl 3 [I a, I b], .sl 3 [I c, I d]] = some (I (orI [cmpI a c, cmpI b d])) := by
  obtain ⟨K, rfl⟩ := succK (show 1 ≤ K by omega)
  rw [eq53]; unfold sh53 tr53
  obtain ⟨k, hk⟩ : ∃ k, K = k + 3 := ⟨K - 3, by omega⟩
  have c0 : ∀ a : Int, cmpI a a = 0 := fun a => by unfold cmpI; rw [if_neg (by omega), if_neg (by omega)]
  have cn : ∀ a c : Int, a ≠ c → cmpI a c ≠ 0 := fun a c h => by unfold cmpI; split <;> (try split) <;> omega
  rw [show lp53_2 K K = lp53_2 K (k + 3) by rw [hk]]
  simp only [lp53_2]
  rw [show (0 : Int) = ((0 : Nat) : Int) from rfl, st53 (by omega) _ _ _ 0 a c rfl rfl, wrapN (by omega)]
  by_cases h1 : a = c
  · subst h1
    rw [if_pos rfl, st53 (by omega) _ _ _ 1 b d rfl rfl, wrapN (by omega)]
    by_cases h2 : b = d
    · subst h2
      rw [if_pos rfl]
      unfold tr53_2
      simp only [r81 (show 1 ≤ K by omega), castI_I]
      simp [orI, c0]; rfl
    · rw [if_neg h2]
      simp [orI, c0, cn b d h2]
  · rw [if_neg h1]
    simp [orI, cn a c h1]
end Go.Proofs.YtahifpeggdcamaaGreatDoor

/- Machines are accepted, or have the first error: the model's check and the reference's. -/
namespace Go.Proofs.YtahifpeggdcamaaGreatDoor
open Go.Dam
set_option linter.unusedVariables false
set_option linter.unusedSimpArgs false
structure St4 where
  f : Int
  i : Int
  o : Int
  t : Int
def eS (s : St4) : AV := .agg [I s.f, I s.i, I s.o, I s.t]
def steps (l : List St4) : List AV := l.map eS
theorem steps_get {l : List St4} {i : Nat} (h : i < l.length) : (steps l)[((i : Nat) : Int).toNat]? = some (eS l[i]) := by
  simp [steps, h]
theorem steps_len (l : List St4) : (steps l).length = l.length := by simp [steps]
theorem eS0 (s : St4) : cellN (eS s) 0 = I s.f := rfl
theorem eS1 (s : St4) : cellN (eS s) 1 = I s.i := rfl
theorem eS2 (s : St4) : cellN (eS s) 2 = I s.o := rfl
theorem eS3 (s : St4) : cellN (eS s) 3 = I s.t := rfl
def pairI (x : Int × Int) : AV := .tup [I x.1, I x.2]
def notUp (p : Option St4) (s : St4) : Bool := match p with
  | none => false
  | some p => decide (orI [cmpI p.f s.f, cmpI p.i s.i] ≥ 0)
def stepsErr (S N O : Int) : Nat → Option St4 → List St4 → Int × Int
  | _, _, [] => (0, 0)
  | i, p, s :: l => if within s.f 0 S then if within s.t 0 S then if within s.i 0 N then if within s.o 0 O then if notUp p s then ((i : Int), 14) else stepsErr S N O (i + 1) (some s) l
    else ((i : Int), 3) else ((i : Int), 3) else ((i : Int), 3) else ((i : Int), 3)
def prevOf (l : List St4) (i : Nat) : Option St4 := if i = 0 then none else l[i - 1]?
theorem prev_succ (l : List St4) (i : Nat) (h : i < l.length) : prevOf l (i + 1) = some l[i] := by simp [prevOf, h]
def w1 (n : Int) : Int := IntKind.i64.wrap (n - 1)

theorem l20 (K : Nat) (hK : 6 ≤ K) (S N O T : Int) (l : List St4) (hl : l.length ≤ 4611686018427387904) : ∀ (k i : Nat), l.length - i < k →
    lp54_6 K k (steps l) (l.length : Int) (i : Int) S N O T (steps l) = some (pairI (stepsErr (w1 S) (w1 N) (w1 O) i (prevOf l i) (l.drop i)))
  | 0, i, h => by omega
  | k + 1, i, h => by
    unfold lp54_6 tr54_6
    by_cases hi : i < l.length
    · rw [show decide ((i : Int) < (l.length : Int)) = true by simpa using hi, List.drop_eq_getElem_cons hi]
      simp only [if_pos (Int.natCast_nonneg i), steps_get hi, eS0, eS1, eS2, eS3, castI_I, r57 (show 1 ≤ K by omega), castB_B, stepsErr]
      cases h1 : within l[i].f 0 (IntKind.i64.wrap (S - 1)) with
      | false => simp [w1, h1, pairI]
      | true =>
      cases h2 : within l[i].t 0 (IntKind.i64.wrap (S - 1)) with
      | false => simp [w1, h1, h2, pairI]
      | true =>
      cases h3 : within l[i].i 0 (IntKind.i64.wrap (N - 1)) with
      | false => simp [w1, h1, h2, h3, pairI]
      | true =>
      cases h4 : within l[i].o 0 (IntKind.i64.wrap (O - 1)) with
      | false => simp [w1, h1, h2, h3, h4, pairI]
      | true =>
      have ih := l20 K hK S N O T l hl k (i + 1) (by omega)
      rw [prev_succ l i hi] at ih
      simp only [w1, h1, h2, h3, h4, Bool.not_true, if_true] at ih ⊢
      by_cases h0 : i = 0
      · subst h0
        rw [show decide (((0 : Nat) : Int) > 0) = false from rfl, wrapN (by omega), ih]
        simp [prevOf, notUp]
      · rw [show decide ((i : Int) > 0) = true by simpa using Nat.pos_of_ne_zero h0]
        have e1 : IntKind.i64.wrap ((i : Int) - 1) = ((i - 1 : Nat) : Int) := by rw [wrapI ⟨by omega, by omega⟩]; omega
        have hp : prevOf l i = some (l[i - 1]'(by omega)) := by simp [prevOf, h0, show i - 1 < l.length by omega]
        simp only [e1, if_pos (Int.natCast_nonneg (i - 1)), steps_get (show i - 1 < l.length by omega), eS0, eS1, castI_I, r59 (show 2 ≤ K by omega)]
        rw [show [I (cmpI l[i - 1].f l[i].f), I (cmpI l[i - 1].i l[i].i)] = ints [cmpI l[i - 1].f l[i].f, cmpI l[i - 1].i l[i].i] from rfl, r58 _ (by simp) (by simpa using (by omega : 4 ≤ K)), hp]
        simp only [castI_I, notUp]
        by_cases h5 : orI [cmpI l[i - 1].f l[i].f, cmpI l[i - 1].i l[i].i] ≥ 0
        · simp only [decide_eq_true h5, if_true]; rfl
        · simp only [decide_eq_false h5, Bool.false_eq_true, if_false]; rw [wrapN (by omega), ih]
    · rw [show decide ((i : Int) < (l.length : Int)) = false by simpa using hi, List.drop_eq_nil_of_le (by omega)]
      rfl
theorem l22 (K : Nat) (hK : 6 ≤ K) (S N O T : Int) (l : List St4) (hl : l.length ≤ 4611686018427387904) : ∀ (k i : Nat), l.length - i < k →
    lp25_6 K k (i : Int) S N O T (steps l) = some (pairI (stepsErr (w1 S) (w1 N) (w1 O) i (prevOf l i) (l.drop i)))
  | 0, i, h => by omega
  | k + 1, i, h => by
    unfold lp25_6 tr25_6
    rw [steps_len]
    by_cases hi : i < l.length
    · rw [show decide ((i : Int) < (l.length : Int)) = true by simpa using hi, List.drop_eq_getElem_cons hi]
      simp only [if_pos (Int.natCast_nonneg i), steps_get hi, eS0, eS1, eS2, eS3, castI_I, r29 (show 1 ≤ K by omega), castB_B, stepsErr]
      cases h1 : within l[i].f 0 (IntKind.i64.wrap (S - 1)) with
      | false => simp [w1, h1, pairI]
      | true =>
      cases h2 : within l[i].t 0 (IntKind.i64.wrap (S - 1)) with
      | false => simp [w1, h1, h2, pairI]
      | true =>
      cases h3 : within l[i].i 0 (IntKind.i64.wrap (N - 1)) with
      | false => simp [w1, h1, h2, h3, pairI]
      | true =>
      cases h4 : within l[i].o 0 (IntKind.i64.wrap (O - 1)) with
      | false => simp [w1, h1, h2, h3, h4, pairI]
      | true =>
      have ih := l22 K hK S N O T l hl k (i + 1) (by omega)
      rw [prev_succ l i hi] at ih
      simp only [w1, h1, h2, h3, h4, Bool.not_true, if_true] at ih ⊢
      by_cases h0 : i = 0
      · subst h0
        rw [show decide (((0 : Nat) : Int) > 0) = false from rfl, wrapN (by omega), ih]
        simp [prevOf, notUp]
      · rw [show decide ((i : Int) > 0) = true by simpa using Nat.pos_of_ne_zero h0]
        have e1 : IntKind.i64.wrap ((i : Int) - 1) = ((i - 1 : Nat) : Int) := by rw [wrapI ⟨by omega, by omega⟩]; omega
        have hp : prevOf l i = some (l[i - 1]'(by omega)) := by simp [prevOf, h0, show i - 1 < l.length by omega]
        simp only [e1, if_pos (Int.natCast_nonneg (i - 1)), steps_get (show i - 1 < l.length by omega), eS0, eS1, castI_I, r60 (show 5 ≤ K by omega)]
        rw [hp]
        simp only [castI_I, notUp]
        by_cases h5 : orI [cmpI l[i - 1].f l[i].f, cmpI l[i - 1].i l[i].i] ≥ 0
        · simp only [decide_eq_true h5, if_true]; rfl
        · simp only [decide_eq_false h5, Bool.false_eq_true, if_false]; rw [wrapN (by omega), ih]
    · rw [show decide ((i : Int) < (l.length : Int)) = false by simpa using hi, List.drop_eq_nil_of_le (by omega)]
      rfl

def machErr (S N O T : Int) (l : List St4) : Int × Int :=
  if within S 1 40 then if within N 1 8 then if within O 1 8 then if within T 0 (w1 S) then if (l.length : Int) > IntKind.i64.wrap (S * N) then (0, 2) else stepsErr (w1 S) (w1 N) (w1 O) 0 none l
    else (0, 3) else (0, 3) else (0, 3) else (0, 3)
def eM (S N O T : Int) (l : List St4) : AV := .agg [I S, I N, I O, I T, .sl 75 (steps l)]
theorem r20 {K : Nat} (S N O T : Int) (l : List St4) (hl : l.length ≤ 4611686018427387904) (h : l.length + 8 ≤ K) : run tab K 54 [eM S N O T l] = some (pairI (machErr S N O T l)) := by
  obtain ⟨K, rfl⟩ := succK (show 1 ≤ K by omega)
  unfold eM
  rw [eq54]; unfold sh54 tr54 machErr
  simp only [r57 (show 1 ≤ K by omega), castB_B, steps_len]
  cases h1 : within S 1 40 with
  | false => simp [pairI]
  | true =>
  cases h2 : within N 1 8 with
  | false => simp [pairI]
  | true =>
  cases h3 : within O 1 8 with
  | false => simp [pairI]
  | true =>
  cases h4 : within T 0 (IntKind.i64.wrap (S - 1)) with
  | false => simp [pairI, w1, h4]
  | true =>
  simp only [w1, h4, Bool.not_true, if_true]
  cases h5 : decide ((l.length : Int) > IntKind.i64.wrap (S * N)) with
  | true => rw [if_pos (by simpa using h5)]; rfl
  | false =>
    rw [if_neg (by simpa using h5)]
    have := l20 K (by omega) S N O T l hl K 0 (by omega)
    simpa [w1, prevOf] using this
theorem r22 {K : Nat} (S N O T : Int) (l : List St4) (hl : l.length ≤ 4611686018427387904) (h : l.length + 8 ≤ K) : run tab K 25 [eM S N O T l] = some (pairI (machErr S N O T l)) := by
  obtain ⟨K, rfl⟩ := succK (show 1 ≤ K by omega)
  unfold eM
  rw [eq25]; unfold sh25 tr25 machErr
  simp only [r29 (show 1 ≤ K by omega), castB_B, steps_len]
  cases h1 : within S 1 40 with
  | false => simp [pairI]
  | true =>
  cases h2 : within N 1 8 with
  | false => simp [pairI]
  | true =>
  cases h3 : within O 1 8 with
  | false => simp [pairI]
  | true =>
  cases h4 : within T 0 (IntKind.i64.wrap (S - 1)) with
  | false => simp [pairI, w1, h4]
  | true =>
  simp only [w1, h4, Bool.not_true, if_true]
  cases h5 : decide ((l.length : Int) > IntKind.i64.wrap (S * N)) with
  | true => rw [if_pos (by simpa using h5)]; rfl
  | false =>
    rw [if_neg (by simpa using h5)]
    have := l22 K (by omega) S N O T l hl K 0 (by omega)
    simpa [w1, prevOf] using this
theorem r21 {K : Nat} (S N O T : Int) (l : List St4) (hl : l.length * 32 ≤ maxBytes) (h : 1 ≤ K) : run tab K 8 [eM S N O T l] = some (eM S N O T l) := by
  obtain ⟨K, rfl⟩ := succK h
  unfold eM
  rw [eq8]; unfold sh8 tr8
  rw [if_pos (by simpa [steps_len] using hl)]; rfl
end Go.Proofs.YtahifpeggdcamaaGreatDoor

/- Operands, tests, sets and moves are accepted, or have the first error: the model's check and the reference's. -/
namespace Go.Proofs.YtahifpeggdcamaaGreatDoor
open Go.Dam
set_option linter.unusedVariables false
set_option linter.unusedSimpArgs false
end Go.Proofs.YtahifpeggdcamaaGreatDoor

/- Moves are accepted, or have the first error: the model's check and the reference's. -/
namespace Go.Proofs.YtahifpeggdcamaaGreatDoor
open Go.Dam
set_option linter.unusedVariables false
set_option linter.unusedSimpArgs false
end Go.Proofs.YtahifpeggdcamaaGreatDoor

/- Moves are accepted, or have the first error: the reference's check. -/
namespace Go.Proofs.YtahifpeggdcamaaGreatDoor
open Go.Dam
set_option linter.unusedVariables false
set_option linter.unusedSimpArgs false
end Go.Proofs.YtahifpeggdcamaaGreatDoor

/- Models are accepted, or have the first error: the model's check and the reference's. -/
namespace Go.Proofs.YtahifpeggdcamaaGreatDoor
open Go.Dam
set_option linter.unusedVariables false
set_option linter.unusedSimpArgs false
end Go.Proofs.YtahifpeggdcamaaGreatDoor

/- Models: checks as wholes; copies; signals. -/
namespace Go.Proofs.YtahifpeggdcamaaGreatDoor
open Go.Dam
set_option linter.unusedVariables false
set_option linter.unusedSimpArgs false
end Go.Proofs.YtahifpeggdcamaaGreatDoor

/- The law ModelChecks, told by the interpreter. -/
namespace Go.Proofs.YtahifpeggdcamaaGreatDoor
open Go.Dam
set_option linter.unusedVariables false
set_option linter.unusedSimpArgs false
end Go.Proofs.YtahifpeggdcamaaGreatDoor

/- Arguments that are well formed are machines and models. -/
namespace Go.Proofs.YtahifpeggdcamaaGreatDoor
open Go.Dam
set_option linter.unusedVariables false
set_option linter.unusedSimpArgs false
theorem wf_int {n0 : Int} {a : AV} (h : Wf tab (I n0) a) : ∃ n, a = I n := by
  cases h with
  | int k n0 n h => exact ⟨n, rfl⟩
theorem wf_sl {T : Nat} {l0 : List AV} {a : AV} (h : Wf tab (.sl T l0) a) : ∃ l z s b, a = .sl T l ∧ tabInfo T = some (z, s, b) ∧ l.length * b ≤ reachBytes ∧ ∀ x ∈ l, WfA tab T x := by
  cases h with
  | sl T l0 l z s b hi h1 h2 hag h =>
    refine ⟨l, z, s, b, rfl, hi, h2, fun x hx => ?_⟩
    obtain ⟨i, hil, rfl⟩ := List.getElem_of_mem hx
    have e : l.getD i .undef = l[i] := by simp [List.getD_eq_getElem?_getD, hil]
    exact ⟨z, s, b, hi, fun hA => by have := hag i hil hA; rwa [e] at this, fun j hj => by have := h i j hil hj; rwa [e] at this⟩
theorem wf_agg {t : Nat} {z : List AV} {s b : Nat} {a : AV} (h : WfA tab t a) (hi : tabInfo t = some (z, s, b)) (hag : aggC tab t = true) : ∃ la, a = .agg la ∧ la.length = s ∧ ∀ j, j < s → Wf tab (z.getD j .undef) (la.getD j .undef) := by
  obtain ⟨z', s', b', hi', h1, h2⟩ := h
  have hi'' : tabInfo t = some (z', s', b') := hi'
  rw [hi] at hi''; cases hi''
  obtain ⟨la, rfl, hl⟩ := h1 hag
  refine ⟨la, rfl, hl, fun j hj => ?_⟩
  have := h2 j hj
  rw [elCell_eq, if_pos hag] at this
  exact this
theorem wf_map {α : Type} (e : α → AV) (Q : α → Prop) : ∀ {l : List AV}, (∀ x ∈ l, ∃ s, x = e s ∧ Q s) → ∃ ss : List α, l = ss.map e ∧ ∀ s ∈ ss, Q s
  | [], _ => ⟨[], rfl, by simp⟩
  | x :: l, h => by
    obtain ⟨s, rfl, hq⟩ := h x (by simp)
    obtain ⟨ss, rfl, hs⟩ := wf_map e Q (l := l) fun y hy => h y (by simp [hy])
    exact ⟨s :: ss, rfl, fun t ht => by
      rcases List.mem_cons.1 ht with rfl | ht
      · exact hq
      · exact hs t ht⟩
theorem reach_max {n : Nat} (h : n ≤ reachBytes) : n ≤ maxBytes := Nat.le_trans h (by decide)
theorem dec97 {a : AV} (h : WfA tab 75 a) : ∃ s : St4, a = eS s ∧ True := by
  obtain ⟨la, rfl, hl, hc⟩ := wf_agg h rfl rfl
  match la, hl, hc with
  | [x0, x1, x2, x3], _, hc =>
    obtain ⟨n0, h0⟩ := wf_int (hc 0 (by omega)); obtain ⟨n1, h1⟩ := wf_int (hc 1 (by omega)); obtain ⟨n2, h2⟩ := wf_int (hc 2 (by omega)); obtain ⟨n3, h3⟩ := wf_int (hc 3 (by omega))
    simp only [List.getD_cons_zero, List.getD_cons_succ] at h0 h1 h2 h3
    subst h0 h1 h2 h3
    exact ⟨⟨n0, n1, n2, n3⟩, rfl, trivial⟩
theorem dec30 {a : AV} (h : WfA tab 24 a) : ∃ S N O T l, a = eM S N O T l ∧ l.length * 32 ≤ maxBytes := by
  obtain ⟨la, rfl, hl, hc⟩ := wf_agg h rfl rfl
  match la, hl, hc with
  | [x0, x1, x2, x3, x4], _, hc =>
    obtain ⟨n0, h0⟩ := wf_int (hc 0 (by omega)); obtain ⟨n1, h1⟩ := wf_int (hc 1 (by omega)); obtain ⟨n2, h2⟩ := wf_int (hc 2 (by omega)); obtain ⟨n3, h3⟩ := wf_int (hc 3 (by omega))
    obtain ⟨l4, z4, s4, b4, h4, i4, w4, d4⟩ := wf_sl (hc 4 (by omega))
    cases i4
    obtain ⟨g4, rfl, _⟩ := wf_map eS (fun _ => True) fun x hx => dec97 (d4 x hx)
    simp only [List.getD_cons_zero, List.getD_cons_succ] at h0 h1 h2 h3 h4
    subst h0 h1 h2 h3 h4
    simp only [List.length_map] at w4
    exact ⟨n0, n1, n2, n3, g4, rfl, reach_max w4⟩
end Go.Proofs.YtahifpeggdcamaaGreatDoor
