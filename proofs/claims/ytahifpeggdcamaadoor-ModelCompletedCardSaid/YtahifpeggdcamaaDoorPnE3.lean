/- A part of an interpreter of the model's code that is proved sound, and of laws told by it: DamL1, DamL2, DamL3, DamL4, DamL5, DamL6, DamL7. -/
import Derived.Test.YtahifpeggdcamaaDoorPnE2
import Derived.IntWalk
set_option linter.unusedVariables false
set_option linter.unusedSimpArgs false
/- What the smallest functions tell. -/
namespace Go.Proofs.YtahifpeggdcamaaDoor
open Go.Dam
set_option linter.unusedVariables false
set_option linter.unusedSimpArgs false
theorem castI_I {R : Type} (n : Int) (F : Int → Option R) : castI .i64 (I n) F = F n := rfl
theorem castB_B {R : Type} (b : Bool) (F : Bool → Option R) : castB (B b) F = F b := rfl
theorem castL_L {R : Type} (T : Nat) (l : List AV) (F : List AV → Option R) : castL T (.sl T l) F = F l := by simp [castL]
theorem cellN_agg (l : List AV) (j : Nat) : cellN (.agg l) j = l.getD j .undef := rfl
theorem compN_tup (l : List AV) (j : Nat) : compN (.tup l) j = l.getD j .undef := rfl
def i64 (n : Int) : Prop := -9223372036854775808 ≤ n ∧ n ≤ 9223372036854775807
theorem wrapI {n : Int} (h : i64 n) : IntKind.i64.wrap n = n := by
  obtain ⟨h1, h2⟩ := h
  rw [IntKind.wrap_i64]
  omega
theorem wrapN {i : Nat} (h : i ≤ 4611686018427387904) : IntKind.i64.wrap ((i : Int) + 1) = ((i + 1 : Nat) : Int) := by
  rw [wrapI ⟨by omega, by omega⟩]; omega
theorem succK {K : Nat} (h : 1 ≤ K) : ∃ k, K = k + 1 := ⟨K - 1, by omega⟩
/-- Numbers as values. -/
def ints (l : List Int) : List AV := l.map I
theorem ints_get {l : List Int} {i : Nat} (h : i < l.length) : (ints l)[((i : Nat) : Int).toNat]? = some (I l[i]) := by
  simp [ints, h]
theorem ints_len (l : List Int) : (ints l).length = l.length := by simp [ints]

def within (n a b : Int) : Bool := decide (a ≤ n) && decide (n ≤ b)
theorem r57 {K : Nat} (h : 1 ≤ K) (n a b : Int) : run tab K 57 [I n, I a, I b] = some (B (within n a b)) := by
  obtain ⟨K, rfl⟩ := succK h
  rw [eq57]; unfold sh57 tr57 within
  cases decide (a ≤ n) <;> rfl
theorem r29 {K : Nat} (h : 1 ≤ K) (n a b : Int) : run tab K 29 [I n, I a, I b] = some (B (within n a b)) := by
  obtain ⟨K, rfl⟩ := succK h
  rw [eq29]; unfold sh29 tr29 within
  cases decide (a ≤ n) <;> rfl
theorem r84 {K : Nat} (h : 1 ≤ K) (n : Int) : run tab K 84 [I n] = some (B false) := by
  obtain ⟨K, rfl⟩ := succK h
  rw [eq84]; unfold sh84 tr84
  simp
def cmpI (a b : Int) : Int := if a < b then -1 else if a > b then 1 else 0
theorem r59 {K : Nat} (h : 2 ≤ K) (a b : Int) : run tab K 59 [I a, I b] = some (I (cmpI a b)) := by
  obtain ⟨K, rfl⟩ := succK (show 1 ≤ K by omega)
  rw [eq59]; unfold sh59 tr59 cmpI
  simp only [r84 (show 1 ≤ K by omega), castB_B]
  by_cases h1 : a < b
  · simp [h1]
  · by_cases h2 : a > b <;> simp [h1, h2]
theorem r81 {K : Nat} (h : 1 ≤ K) (b : Bool) : run tab K 81 [B b] = some (I (if b then 1 else 0)) := by
  obtain ⟨K, rfl⟩ := succK h
  rw [eq81]; unfold sh81 tr81
  cases b <;> rfl
theorem r62 {K : Nat} (h : 1 ≤ K) (b : Bool) (n : Int) : run tab K 62 [B b, I n] = some (I (if b then 0 else n)) := by
  obtain ⟨K, rfl⟩ := succK h
  rw [eq62]; unfold sh62 tr62
  cases b <;> rfl
theorem r63 {K : Nat} (h : 2 ≤ K) (n : Int) : run tab K 63 [I n] = some (B (within n 0 100)) := by
  obtain ⟨K, rfl⟩ := succK (show 1 ≤ K by omega)
  rw [eq63]; unfold sh63 tr63
  simp only [r57 (show 1 ≤ K by omega), castB_B]
/-- The first that is not 0. -/
def orI : List Int → Int
  | [] => 0
  | n :: l => if n = 0 then orI l else n
theorem l58 (K : Nat) (l : List Int) (hl : l.length ≤ 4611686018427387904) : ∀ (k i : Nat), l.length - i < k → lp58_3 K k 0 (ints l) (l.length : Int) (i : Int) = some (I (orI (l.drop i)))
  | 0, i, h => by omega
  | k + 1, i, h => by
    unfold lp58_3 tr58_3
    by_cases hi : i < l.length
    · rw [show decide ((i : Int) < (l.length : Int)) = true by simpa using hi, List.drop_eq_getElem_cons hi]
      simp only [if_pos (Int.natCast_nonneg i), ints_get hi, castI_I, orI]
      by_cases h0 : l[i] = 0
      · simp only [h0, if_pos]
        rw [wrapN (by omega)]
        exact l58 K l hl k (i + 1) (by omega)
      · rw [show (l[i] != 0) = true by simpa using h0]; simp [h0]
    · rw [show decide ((i : Int) < (l.length : Int)) = false by simpa using hi, List.drop_eq_nil_of_le (by omega)]
      rfl
theorem r58 {K : Nat} (l : List Int) (hl : l.length ≤ 4611686018427387904) (h : l.length + 2 ≤ K) : run tab K 58 [.sl 3 (ints l)] = some (I (orI l)) := by
  obtain ⟨K, rfl⟩ := succK (show 1 ≤ K by omega)
  rw [eq58]; unfold sh58 tr58
  rw [ints_len]
  exact l58 K l hl K 0 (by omega)
theorem l61 (K : Nat) (l : List Int) (hl : l.length ≤ 4611686018427387904) : ∀ (k i : Nat), l.length - i < k → lp61_3 K k 0 (ints l) (l.length : Int) (i : Int) = some (I (orI (l.drop i)))
  | 0, i, h => by omega
  | k + 1, i, h => by
    unfold lp61_3 tr61_3
    by_cases hi : i < l.length
    · rw [show decide ((i : Int) < (l.length : Int)) = true by simpa using hi, List.drop_eq_getElem_cons hi]
      simp only [if_pos (Int.natCast_nonneg i), ints_get hi, castI_I, orI]
      by_cases h0 : l[i] = 0
      · simp only [h0, if_pos]
        rw [wrapN (by omega)]
        exact l61 K l hl k (i + 1) (by omega)
      · rw [show (l[i] != 0) = true by simpa using h0]; simp [h0]
    · rw [show decide ((i : Int) < (l.length : Int)) = false by simpa using hi, List.drop_eq_nil_of_le (by omega)]
      rfl
theorem r61 {K : Nat} (l : List Int) (hl : l.length ≤ 4611686018427387904) (h : l.length + 2 ≤ K) : run tab K 61 [.sl 32 (ints l)] = some (I (orI l)) := by
  obtain ⟨K, rfl⟩ := succK (show 1 ≤ K by omega)
  rw [eq61]; unfold sh61 tr61
  rw [ints_len]
  exact l61 K l hl K 0 (by omega)
theorem st60 {K : Nat} (h : 1 ≤ K) (q : List AV → List AV → Int → Option AV) (l m : List AV) (i : Nat) (a c : Int) (hl : l[i]? = some (I a)) (hm : m[i]? = some (I c)) :
    tr60_2 K q l m (i : Int) = if a = c then q l m (IntKind.i64.wrap ((i : Int) + 1)) else some (I (cmpI a c)) := by
  have h1 : i < l.length := (List.getElem?_eq_some_iff.1 hl).1
  have h2 : i < m.length := (List.getElem?_eq_some_iff.1 hm).1
  unfold tr60_2
  rw [show decide ((i : Int) < (l.length : Int)) = true by simpa using h1, show decide ((i : Int) < (m.length : Int)) = true by simpa using h2]
  simp only [if_pos (Int.natCast_nonneg i), Int.toNat_natCast, hl, hm, castI_I, r81 h]
  by_cases hac : a = c
  · rw [show (a != c) = false by simpa using hac, if_pos hac]
  · rw [show (a != c) = true by simpa using hac, if_neg hac]
    unfold cmpI
    by_cases h3 : a > c
    · rw [if_neg (show ¬ a < c by omega), if_pos h3, show decide (a > c) = true by simpa using h3]; rfl
    · rw [if_pos (show a < c by omega), show decide (a > c) = false by simpa using h3]; rfl
/-- Lists of two numbers, one after the other. -/
theorem r60 {K : Nat} (h : 5 ≤ K) (a b c d : Int) : run tab K 60 [.sl 3 [I a, I b], .sl 3 [I c, I d]] = some (I (orI [cmpI a c, cmpI b d])) := by
  obtain ⟨K, rfl⟩ := succK (show 1 ≤ K by omega)
  rw [eq60]; unfold sh60 tr60
  obtain ⟨k, hk⟩ : ∃ k, K = k + 3 := ⟨K - 3, by omega⟩
  have c0 : ∀ a : Int, cmpI a a = 0 := fun a => by unfold cmpI; rw [if_neg (by omega), if_neg (by omega)]
  have cn : ∀ a c : Int, a ≠ c → cmpI a c ≠ 0 := fun a c h => by unfold cmpI; split <;> (try split) <;> omega
  rw [show lp60_2 K K = lp60_2 K (k + 3) by rw [hk]]
  simp only [lp60_2]
  rw [show (0 : Int) = ((0 : Nat) : Int) from rfl, st60 (by omega) _ _ _ 0 a c rfl rfl, wrapN (by omega)]
  by_cases h1 : a = c
  · subst h1
    rw [if_pos rfl, st60 (by omega) _ _ _ 1 b d rfl rfl, wrapN (by omega)]
    by_cases h2 : b = d
    · subst h2
      rw [if_pos rfl]
      unfold tr60_2
      simp only [r81 (show 1 ≤ K by omega), castI_I]
      simp [orI, c0]; rfl
    · rw [if_neg h2]
      simp [orI, c0, cn b d h2]
  · rw [if_neg h1]
    simp [orI, cn a c h1]
end Go.Proofs.YtahifpeggdcamaaDoor

/- Machines are accepted, or have the first error: the model's check and the reference's. -/
namespace Go.Proofs.YtahifpeggdcamaaDoor
open Go.Dam
set_option linter.unusedVariables false
set_option linter.unusedSimpArgs false
structure St4 where
  f : Int
  i : Int
  o : Int
  t : Int
def eS (s : St4) : AV := .agg [I s.f, I s.i, I s.o, I s.t]
def steps (l : List St4) : List AV := l.map eS
theorem steps_get {l : List St4} {i : Nat} (h : i < l.length) : (steps l)[((i : Nat) : Int).toNat]? = some (eS l[i]) := by
  simp [steps, h]
theorem steps_len (l : List St4) : (steps l).length = l.length := by simp [steps]
theorem eS0 (s : St4) : cellN (eS s) 0 = I s.f := rfl
theorem eS1 (s : St4) : cellN (eS s) 1 = I s.i := rfl
theorem eS2 (s : St4) : cellN (eS s) 2 = I s.o := rfl
theorem eS3 (s : St4) : cellN (eS s) 3 = I s.t := rfl
def pairI (x : Int × Int) : AV := .tup [I x.1, I x.2]
def notUp (p : Option St4) (s : St4) : Bool := match p with
  | none => false
  | some p => decide (orI [cmpI p.f s.f, cmpI p.i s.i] ≥ 0)
def stepsErr (S N O : Int) : Nat → Option St4 → List St4 → Int × Int
  | _, _, [] => (0, 0)
  | i, p, s :: l => if within s.f 0 S then if within s.t 0 S then if within s.i 0 N then if within s.o 0 O then if notUp p s then ((i : Int), 14) else stepsErr S N O (i + 1) (some s) l
    else ((i : Int), 3) else ((i : Int), 3) else ((i : Int), 3) else ((i : Int), 3)
def prevOf (l : List St4) (i : Nat) : Option St4 := if i = 0 then none else l[i - 1]?
theorem prev_succ (l : List St4) (i : Nat) (h : i < l.length) : prevOf l (i + 1) = some l[i] := by simp [prevOf, h]
def w1 (n : Int) : Int := IntKind.i64.wrap (n - 1)

theorem l20 (K : Nat) (hK : 6 ≤ K) (S N O T : Int) (l : List St4) (hl : l.length ≤ 4611686018427387904) : ∀ (k i : Nat), l.length - i < k →
    lp20_6 K k (steps l) (l.length : Int) (i : Int) S N O T (steps l) = some (pairI (stepsErr (w1 S) (w1 N) (w1 O) i (prevOf l i) (l.drop i)))
  | 0, i, h => by omega
  | k + 1, i, h => by
    unfold lp20_6 tr20_6
    by_cases hi : i < l.length
    · rw [show decide ((i : Int) < (l.length : Int)) = true by simpa using hi, List.drop_eq_getElem_cons hi]
      simp only [if_pos (Int.natCast_nonneg i), steps_get hi, eS0, eS1, eS2, eS3, castI_I, r57 (show 1 ≤ K by omega), castB_B, stepsErr]
      cases h1 : within l[i].f 0 (IntKind.i64.wrap (S - 1)) with
      | false => simp [w1, h1, pairI]
      | true =>
      cases h2 : within l[i].t 0 (IntKind.i64.wrap (S - 1)) with
      | false => simp [w1, h1, h2, pairI]
      | true =>
      cases h3 : within l[i].i 0 (IntKind.i64.wrap (N - 1)) with
      | false => simp [w1, h1, h2, h3, pairI]
      | true =>
      cases h4 : within l[i].o 0 (IntKind.i64.wrap (O - 1)) with
      | false => simp [w1, h1, h2, h3, h4, pairI]
      | true =>
      have ih := l20 K hK S N O T l hl k (i + 1) (by omega)
      rw [prev_succ l i hi] at ih
      simp only [w1, h1, h2, h3, h4, Bool.not_true, if_true] at ih ⊢
      by_cases h0 : i = 0
      · subst h0
        rw [show decide (((0 : Nat) : Int) > 0) = false from rfl, wrapN (by omega), ih]
        simp [prevOf, notUp]
      · rw [show decide ((i : Int) > 0) = true by simpa using Nat.pos_of_ne_zero h0]
        have e1 : IntKind.i64.wrap ((i : Int) - 1) = ((i - 1 : Nat) : Int) := by rw [wrapI ⟨by omega, by omega⟩]; omega
        have hp : prevOf l i = some (l[i - 1]'(by omega)) := by simp [prevOf, h0, show i - 1 < l.length by omega]
        simp only [e1, if_pos (Int.natCast_nonneg (i - 1)), steps_get (show i - 1 < l.length by omega), eS0, eS1, castI_I, r59 (show 2 ≤ K by omega)]
        rw [show [I (cmpI l[i - 1].f l[i].f), I (cmpI l[i - 1].i l[i].i)] = ints [cmpI l[i - 1].f l[i].f, cmpI l[i - 1].i l[i].i] from rfl, r58 _ (by simp) (by simpa using (by omega : 4 ≤ K)), hp]
        simp only [castI_I, notUp]
        by_cases h5 : orI [cmpI l[i - 1].f l[i].f, cmpI l[i - 1].i l[i].i] ≥ 0
        · simp only [decide_eq_true h5, if_true]; rfl
        · simp only [decide_eq_false h5, Bool.false_eq_true, if_false]; rw [wrapN (by omega), ih]
    · rw [show decide ((i : Int) < (l.length : Int)) = false by simpa using hi, List.drop_eq_nil_of_le (by omega)]
      rfl
theorem l22 (K : Nat) (hK : 6 ≤ K) (S N O T : Int) (l : List St4) (hl : l.length ≤ 4611686018427387904) : ∀ (k i : Nat), l.length - i < k →
    lp22_6 K k (i : Int) S N O T (steps l) = some (pairI (stepsErr (w1 S) (w1 N) (w1 O) i (prevOf l i) (l.drop i)))
  | 0, i, h => by omega
  | k + 1, i, h => by
    unfold lp22_6 tr22_6
    rw [steps_len]
    by_cases hi : i < l.length
    · rw [show decide ((i : Int) < (l.length : Int)) = true by simpa using hi, List.drop_eq_getElem_cons hi]
      simp only [if_pos (Int.natCast_nonneg i), steps_get hi, eS0, eS1, eS2, eS3, castI_I, r29 (show 1 ≤ K by omega), castB_B, stepsErr]
      cases h1 : within l[i].f 0 (IntKind.i64.wrap (S - 1)) with
      | false => simp [w1, h1, pairI]
      | true =>
      cases h2 : within l[i].t 0 (IntKind.i64.wrap (S - 1)) with
      | false => simp [w1, h1, h2, pairI]
      | true =>
      cases h3 : within l[i].i 0 (IntKind.i64.wrap (N - 1)) with
      | false => simp [w1, h1, h2, h3, pairI]
      | true =>
      cases h4 : within l[i].o 0 (IntKind.i64.wrap (O - 1)) with
      | false => simp [w1, h1, h2, h3, h4, pairI]
      | true =>
      have ih := l22 K hK S N O T l hl k (i + 1) (by omega)
      rw [prev_succ l i hi] at ih
      simp only [w1, h1, h2, h3, h4, Bool.not_true, if_true] at ih ⊢
      by_cases h0 : i = 0
      · subst h0
        rw [show decide (((0 : Nat) : Int) > 0) = false from rfl, wrapN (by omega), ih]
        simp [prevOf, notUp]
      · rw [show decide ((i : Int) > 0) = true by simpa using Nat.pos_of_ne_zero h0]
        have e1 : IntKind.i64.wrap ((i : Int) - 1) = ((i - 1 : Nat) : Int) := by rw [wrapI ⟨by omega, by omega⟩]; omega
        have hp : prevOf l i = some (l[i - 1]'(by omega)) := by simp [prevOf, h0, show i - 1 < l.length by omega]
        simp only [e1, if_pos (Int.natCast_nonneg (i - 1)), steps_get (show i - 1 < l.length by omega), eS0, eS1, castI_I, r60 (show 5 ≤ K by omega)]
        rw [hp]
        simp only [castI_I, notUp]
        by_cases h5 : orI [cmpI l[i - 1].f l[i].f, cmpI l[i - 1].i l[i].i] ≥ 0
        · simp only [decide_eq_true h5, if_true]; rfl
        · simp only [decide_eq_false h5, Bool.false_eq_true, if_false]; rw [wrapN (by omega), ih]
    · rw [show decide ((i : Int) < (l.length : Int)) = false by simpa using hi, List.drop_eq_nil_of_le (by omega)]
      rfl

def machErr (S N O T : Int) (l : List St4) : Int × Int :=
  if within S 1 40 then if within N 1 8 then if within O 1 8 then if within T 0 (w1 S) then if (l.length : Int) > IntKind.i64.wrap (S * N) then (0, 2) else stepsErr (w1 S) (w1 N) (w1 O) 0 none l
    else (0, 3) else (0, 3) else (0, 3) else (0, 3)
def eM (S N O T : Int) (l : List St4) : AV := .agg [I S, I N, I O, I T, .sl 97 (steps l)]
theorem r20 {K : Nat} (S N O T : Int) (l : List St4) (hl : l.length ≤ 4611686018427387904) (h : l.length + 8 ≤ K) : run tab K 20 [eM S N O T l] = some (pairI (machErr S N O T l)) := by
  obtain ⟨K, rfl⟩ := succK (show 1 ≤ K by omega)
  unfold eM
  rw [eq20]; unfold sh20 tr20 machErr
  simp only [r57 (show 1 ≤ K by omega), castB_B, steps_len]
  cases h1 : within S 1 40 with
  | false => simp [pairI]
  | true =>
  cases h2 : within N 1 8 with
  | false => simp [pairI]
  | true =>
  cases h3 : within O 1 8 with
  | false => simp [pairI]
  | true =>
  cases h4 : within T 0 (IntKind.i64.wrap (S - 1)) with
  | false => simp [pairI, w1, h4]
  | true =>
  simp only [w1, h4, Bool.not_true, if_true]
  cases h5 : decide ((l.length : Int) > IntKind.i64.wrap (S * N)) with
  | true => rw [if_pos (by simpa using h5)]; rfl
  | false =>
    rw [if_neg (by simpa using h5)]
    have := l20 K (by omega) S N O T l hl K 0 (by omega)
    simpa [w1, prevOf] using this
theorem r22 {K : Nat} (S N O T : Int) (l : List St4) (hl : l.length ≤ 4611686018427387904) (h : l.length + 8 ≤ K) : run tab K 22 [eM S N O T l] = some (pairI (machErr S N O T l)) := by
  obtain ⟨K, rfl⟩ := succK (show 1 ≤ K by omega)
  unfold eM
  rw [eq22]; unfold sh22 tr22 machErr
  simp only [r29 (show 1 ≤ K by omega), castB_B, steps_len]
  cases h1 : within S 1 40 with
  | false => simp [pairI]
  | true =>
  cases h2 : within N 1 8 with
  | false => simp [pairI]
  | true =>
  cases h3 : within O 1 8 with
  | false => simp [pairI]
  | true =>
  cases h4 : within T 0 (IntKind.i64.wrap (S - 1)) with
  | false => simp [pairI, w1, h4]
  | true =>
  simp only [w1, h4, Bool.not_true, if_true]
  cases h5 : decide ((l.length : Int) > IntKind.i64.wrap (S * N)) with
  | true => rw [if_pos (by simpa using h5)]; rfl
  | false =>
    rw [if_neg (by simpa using h5)]
    have := l22 K (by omega) S N O T l hl K 0 (by omega)
    simpa [w1, prevOf] using this
theorem r21 {K : Nat} (S N O T : Int) (l : List St4) (hl : l.length * 32 ≤ maxBytes) (h : 1 ≤ K) : run tab K 21 [eM S N O T l] = some (eM S N O T l) := by
  obtain ⟨K, rfl⟩ := succK h
  unfold eM
  rw [eq21]; unfold sh21 tr21
  rw [if_pos (by simpa [steps_len] using hl)]; rfl
end Go.Proofs.YtahifpeggdcamaaDoor

/- Operands, tests, sets and moves are accepted, or have the first error: the model's check and the reference's. -/
namespace Go.Proofs.YtahifpeggdcamaaDoor
open Go.Dam
set_option linter.unusedVariables false
set_option linter.unusedSimpArgs false
structure Ts where
  k : Int
  ak : Int
  an : Int
  bk : Int
  bn : Int
structure Se where
  v : Int
  ak : Int
  an : Int
  bk : Int
  bn : Int
  m : Bool
structure Va where
  lo : Int
  hi : Int
  st : Int
structure Mv where
  f : Int
  t : Int
  n : Int
  gd : List Ts
  ss : List Se
  ok : Int
  on : Int
structure Mo where
  s : Int
  st : Int
  ins : List Int
  o : Int
  vs : List Va
  ms : List Mv
def eTs (t : Ts) : AV := .agg [I t.k, I t.ak, I t.an, I t.bk, I t.bn]
def eSe (s : Se) : AV := .agg [I s.v, I s.ak, I s.an, I s.bk, I s.bn, B s.m]
def eVa (v : Va) : AV := .agg [I v.lo, I v.hi, I v.st]
def eMv (m : Mv) : AV := .agg [I m.f, I m.t, I m.n, .sl 141 (m.gd.map eTs), .sl 139 (m.ss.map eSe), I m.ok, I m.on]
def eMo (m : Mo) : AV := .agg [I m.s, I m.st, .sl 3 (ints m.ins), I m.o, .sl 105 (m.vs.map eVa), .sl 103 (m.ms.map eMv)]
theorem map_get {α : Type} (e : α → AV) {l : List α} {i : Nat} (h : i < l.length) : (l.map e)[((i : Nat) : Int).toNat]? = some (e l[i]) := by
  simp [h]

def opErr (nv k n : Int) : Int :=
  if k = 0 then if within n 0 100 then 0 else 3 else if k = 1 then if within n 0 (w1 nv) then 0 else 3 else if k = 2 then if within n 0 0 then 0 else 3 else 4
theorem r85 {K : Nat} (h : 2 ≤ K) (a b c : Int) (x y z : List AV) (k n : Int) : run tab K 85 [.agg [I a, I b, .sl 3 x, I c, .sl 105 y, .sl 103 z], .agg [I k, I n]] = some (I (opErr y.length k n)) := by
  obtain ⟨K, rfl⟩ := succK (show 1 ≤ K by omega)
  rw [eq85]; unfold sh85 tr85 opErr
  simp only [r57 (show 1 ≤ K by omega), castB_B, r62 (show 1 ≤ K by omega), castI_I, w1]
  by_cases h0 : k = 0
  · subst h0; rfl
  · rw [show (k == 0) = false by simpa using h0, if_neg h0]
    by_cases h1 : k = 1
    · subst h1; rfl
    · rw [show (k == 1) = false by simpa using h1, if_neg h1]
      by_cases h2 : k = 2
      · subst h2; rfl
      · rw [show (k == 2) = false by simpa using h2, if_neg h2]
theorem r83 {K : Nat} (h : 2 ≤ K) (a b c : Int) (x y z : List AV) (k n : Int) : run tab K 83 [.agg [I a, I b, .sl 3 x, I c, .sl 105 y, .sl 103 z], .agg [I k, I n]] = some (I (opErr y.length k n)) := by
  obtain ⟨K, rfl⟩ := succK (show 1 ≤ K by omega)
  rw [eq83]; unfold sh83 tr83 opErr
  simp only [r29 (show 1 ≤ K by omega), castB_B, castI_I, w1]
  by_cases h0 : k = 0
  · subst h0
    by_cases hw : within n 0 100 = true <;> simp [hw, show within 0 0 2 = true from rfl]
  · by_cases h1 : k = 1
    · subst h1
      by_cases hw : within n 0 (IntKind.i64.wrap ((y.length : Int) - 1)) = true <;> simp [hw, show within 1 0 2 = true from rfl]
    · by_cases h2 : k = 2
      · subst h2
        by_cases hw : within n 0 0 = true <;> simp [hw, show within 2 0 2 = true from rfl]
      · rw [if_neg h0, if_neg h1, if_neg h2]
        have : within k 0 2 = false := by
          unfold within
          simp only [Bool.and_eq_false_iff, decide_eq_false_iff_not]
          omega
        rw [this]; rfl
theorem eSe0 (s : Se) : cellN (eSe s) 0 = I s.v := rfl
theorem eSe1 (s : Se) : cellN (eSe s) 1 = I s.ak := rfl
theorem eSe2 (s : Se) : cellN (eSe s) 2 = I s.an := rfl
theorem eSe3 (s : Se) : cellN (eSe s) 3 = I s.bk := rfl
theorem eSe4 (s : Se) : cellN (eSe s) 4 = I s.bn := rfl
theorem eSe5 (s : Se) : cellN (eSe s) 5 = B s.m := rfl
theorem eTs0 (s : Ts) : cellN (eTs s) 0 = I s.k := rfl
theorem eTs1 (s : Ts) : cellN (eTs s) 1 = I s.ak := rfl
theorem eTs2 (s : Ts) : cellN (eTs s) 2 = I s.an := rfl
theorem eTs3 (s : Ts) : cellN (eTs s) 3 = I s.bk := rfl
theorem eTs4 (s : Ts) : cellN (eTs s) 4 = I s.bn := rfl
theorem castFn_fn {R : Type} (g : Nat) (c : List AV) (F : Nat → List AV → Option R) : castFn (.fn g c) F = F g c := rfl
theorem r87 {K : Nat} (h : 1 ≤ K) (a b c d e v : Int) (m : Bool) (r : List AV) : run tab K 87 ([.agg [I a, I b, I c, I d, I e, B m]] ++ [.ref (I v :: r)]) = some (B (a == v)) := by
  obtain ⟨K, rfl⟩ := succK h
  rw [show ([.agg [I a, I b, I c, I d, I e, B m]] ++ [.ref (I v :: r)] : List AV) = [.agg [I a, I b, I c, I d, I e, B m], .ref (I v :: r)] from rfl, eq87]; rfl
/-- The first place where p holds, or -1. -/
def idx {α : Type} (p : α → Bool) : Nat → List α → Int
  | _, [] => -1
  | i, a :: l => if p a then (i : Int) else idx p (i + 1) l
theorem idx_any {α : Type} (p : α → Bool) : ∀ (l : List α) (i : Nat), decide (idx p i l ≥ 0) = l.any p
  | [], i => rfl
  | a :: l, i => by
    simp only [idx, List.any_cons]
    by_cases h : p a = true
    · simp [h]
    · have := idx_any p l (i + 1)
      simpa [h] using this
theorem l106 (K : Nat) (hK : 1 ≤ K) (v : Int) (r : List AV) (l : List Se) (hl : l.length ≤ 4611686018427387904) : ∀ (k i : Nat), l.length - i < k →
    lp106_2 K k (l.map eSe) (.fn 87 [.ref (I v :: r)]) (l.length : Int) (i : Int) = some (I (idx (fun s => s.v == v) i (l.drop i)))
  | 0, i, h => by omega
  | k + 1, i, h => by
    unfold lp106_2 tr106_2
    by_cases hi : i < l.length
    · rw [show decide ((i : Int) < (l.length : Int)) = true by simpa using hi, List.drop_eq_getElem_cons hi]
      simp only [if_pos (Int.natCast_nonneg i), map_get eSe hi, idx, eSe0, eSe1, eSe2, eSe3, eSe4, eSe5, castI_I, castB_B, castFn_fn, r87 hK]
      by_cases h0 : (l[i].v == v) = true
      · simp only [h0, if_true]
      · have ih := l106 K hK v r l hl k (i + 1) (by omega)
        rw [← wrapN (by omega)] at ih
        simp only [Bool.not_eq_true] at h0
        simp only [h0, Bool.false_eq_true, if_false]
        exact ih
    · rw [show decide ((i : Int) < (l.length : Int)) = false by simpa using hi, List.drop_eq_nil_of_le (by omega)]
      rfl
theorem r86 {K : Nat} (v : Int) (r : List AV) (l : List Se) (hl : l.length ≤ 4611686018427387904) (h : l.length + 4 ≤ K) : run tab K 86 [.sl 139 (l.map eSe), .fn 87 [.ref (I v :: r)]] = some (B (l.any fun s => s.v == v)) := by
  obtain ⟨K, rfl⟩ := succK (show 1 ≤ K by omega)
  obtain ⟨K, rfl⟩ := succK (show 1 ≤ K by omega)
  rw [eq86]; unfold sh86 tr86
  rw [eq106]; unfold sh106 tr106
  rw [List.length_map, show (0 : Int) = ((0 : Nat) : Int) from rfl, l106 K (by omega) v r l hl K 0 (by omega)]
  simp only [castI_I, List.drop_zero]
  rw [← idx_any]; rfl

def tErr (nv : Int) (t : Ts) : Int := orI [if within t.k 0 3 then 0 else 4, opErr nv t.ak t.an, opErr nv t.bk t.bn]
def gErr (nv : Int) : List Ts → Int
  | [] => 0
  | t :: l => if tErr nv t ≠ 0 then tErr nv t else gErr nv l
def sErr (nv : Int) (p : List Se) (s : Se) : Int := orI [if within s.v 0 (w1 nv) then 0 else 3, if !(p.any fun x => x.v == s.v) then 0 else 13, opErr nv s.ak s.an, opErr nv s.bk s.bn]
def ssErr (nv : Int) : List Se → List Se → Int
  | _, [] => 0
  | p, s :: l => if sErr nv p s ≠ 0 then sErr nv p s else ssErr nv (p ++ [s]) l
def thenE (a b : Int) : Int := if a ≠ 0 then a else b
end Go.Proofs.YtahifpeggdcamaaDoor

/- Moves are accepted, or have the first error: the model's check and the reference's. -/
namespace Go.Proofs.YtahifpeggdcamaaDoor
open Go.Dam
set_option linter.unusedVariables false
set_option linter.unusedSimpArgs false
theorem l64b (K : Nat) (S st O f t n ok on : Int) (ins vs ms gd : List AV) (ss : List Se) (hl : ss.length ≤ 4611686018427387904) (hK : ss.length + 8 ≤ K) (q) : ∀ (k i : Nat), ss.length - i < k →
    lp64_12 K q k (ss.map eSe) (ss.length : Int) (i : Int) S st ins O vs ms f t n gd (ss.map eSe) ok on = some (I (thenE (ssErr vs.length (ss.take i) (ss.drop i)) (opErr vs.length ok on)))
  | 0, i, h => by omega
  | k + 1, i, h => by
    unfold lp64_12 tr64_12
    by_cases hi : i < ss.length
    · rw [show decide ((i : Int) < (ss.length : Int)) = true by simpa using hi, List.drop_eq_getElem_cons hi]
      have ht : ((ss.map eSe).take ((i : Nat) : Int).toNat).drop (0 : Int).toNat = (ss.take i).map eSe := by simp [List.map_take]
      have hc : 0 ≤ (0 : Int) ∧ (0 : Int) ≤ (i : Int) ∧ (i : Int) ≤ ((ss.map eSe).length : Int) := by simp; omega
      simp only [if_pos (Int.natCast_nonneg i), map_get eSe hi, eSe0, eSe1, eSe2, eSe3, eSe4, eSe5, castI_I, castB_B, if_pos hc, ht]
      rw [r86 _ _ _ (by simp; omega) (by simp; omega)]
      simp only [castB_B, r57 (show 1 ≤ K by omega), r62 (show 1 ≤ K by omega), castI_I, r85 (show 2 ≤ K by omega)]
      rw [show ∀ a b c d : Int, [I a, I b, I c, I d] = ints [a, b, c, d] from fun _ _ _ _ => rfl, r61 _ (by simp) (by simp; omega)]
      simp only [castI_I, ssErr]
      have e : sErr vs.length (ss.take i) ss[i] = orI [if within ss[i].v 0 (IntKind.i64.wrap ((vs.length : Int) - 1)) then 0 else 3, if !((ss.take i).any fun x => x.v == ss[i].v) then 0 else 13, opErr vs.length ss[i].ak ss[i].an, opErr vs.length ss[i].bk ss[i].bn] := rfl
      rw [← e]
      by_cases h0 : sErr vs.length (ss.take i) ss[i] = 0
      · have ih := l64b K S st O f t n ok on ins vs ms gd ss hl hK q k (i + 1) (by omega)
        rw [← wrapN (by omega)] at ih
        simp only [h0, ne_eq, not_true_eq_false, if_false, bne_self_eq_false]
        rw [ih, List.take_succ_eq_append_getElem hi]
      · simp only [ne_eq, h0, not_false_eq_true, if_true, bne_iff_ne, thenE]
        rw [show (sErr vs.length (ss.take i) ss[i] != 0) = true by simpa using h0]
    · have hd : ss.drop i = [] := List.drop_eq_nil_of_le (by omega)
      rw [show decide ((i : Int) < (ss.length : Int)) = false by simpa using hi, hd]
      simp only [r85 (show 2 ≤ K by omega), castI_I, ssErr, thenE, ne_eq, not_true_eq_false, if_false]
theorem l64a (K : Nat) (S st O f t n ok on : Int) (ins vs ms : List AV) (gd : List Ts) (ss : List Se) (hl : ss.length ≤ 4611686018427387904) (hg : gd.length ≤ 4611686018427387904) (hK : ss.length + 8 ≤ K) : ∀ (k i : Nat), gd.length - i < k →
    lp64_5 K k (gd.map eTs) (gd.length : Int) (i : Int) S st ins O vs ms f t n (gd.map eTs) (ss.map eSe) ok on =
      some (I (thenE (gErr vs.length (gd.drop i)) (thenE (ssErr vs.length [] ss) (opErr vs.length ok on))))
  | 0, i, h => by omega
  | k + 1, i, h => by
    unfold lp64_5 tr64_5
    by_cases hi : i < gd.length
    · rw [show decide ((i : Int) < (gd.length : Int)) = true by simpa using hi, List.drop_eq_getElem_cons hi]
      simp only [if_pos (Int.natCast_nonneg i), map_get eTs hi, eTs0, eTs1, eTs2, eTs3, eTs4, castI_I, r57 (show 1 ≤ K by omega), castB_B, r62 (show 1 ≤ K by omega), r85 (show 2 ≤ K by omega)]
      rw [show ∀ a b c : Int, [I a, I b, I c] = ints [a, b, c] from fun _ _ _ => rfl, r61 _ (by simp) (by simp; omega)]
      simp only [castI_I, gErr]
      have e : tErr vs.length gd[i] = orI [if within gd[i].k 0 3 then 0 else 4, opErr vs.length gd[i].ak gd[i].an, opErr vs.length gd[i].bk gd[i].bn] := rfl
      rw [← e]
      by_cases h0 : tErr vs.length gd[i] = 0
      · have ih := l64a K S st O f t n ok on ins vs ms gd ss hl hg hK k (i + 1) (by omega)
        rw [← wrapN (by omega)] at ih
        simp only [h0, ne_eq, not_true_eq_false, if_false, bne_self_eq_false]
        exact ih
      · simp only [ne_eq, h0, not_false_eq_true, if_true, bne_iff_ne, thenE]
        rw [show (tErr vs.length gd[i] != 0) = true by simpa using h0]
    · rw [show decide ((i : Int) < (gd.length : Int)) = false by simpa using hi, List.drop_eq_nil_of_le (by omega)]
      have := l64b K S st O f t n ok on ins vs ms (gd.map eTs) ss hl hK (lp64_5 K k) K 0 (by omega)
      simp only [List.length_map]
      rw [show (0 : Int) = ((0 : Nat) : Int) from rfl, this]
      simp [gErr, thenE]
def mvErr (S : Int) (nIn nv : Int) (m : Mv) : Int :=
  thenE (orI [if within m.f 0 (w1 S) && (within m.t 0 (w1 S) && within m.n 0 (w1 nIn)) then 0 else 3, if decide ((m.gd.length : Int) ≤ 4) && decide ((m.ss.length : Int) ≤ 4) then 0 else 2])
    (thenE (gErr nv m.gd) (thenE (ssErr nv [] m.ss) (opErr nv m.ok m.on)))
theorem r64 {K : Nat} (S st O : Int) (ins vs ms : List AV) (m : Mv) (hl : m.ss.length ≤ 4611686018427387904) (hg : m.gd.length ≤ 4611686018427387904) (hK : m.ss.length + m.gd.length + 10 ≤ K) :
    run tab K 64 [.agg [I S, I st, .sl 3 ins, I O, .sl 105 vs, .sl 103 ms], eMv m] = some (I (mvErr S ins.length vs.length m)) := by
  obtain ⟨K, rfl⟩ := succK (show 1 ≤ K by omega)
  unfold eMv
  rw [eq64]; unfold sh64 tr64 mvErr
  have main := l64a K S st O m.f m.t m.n m.ok m.on ins vs ms m.gd m.ss hl hg (by omega) K 0 (by omega)
  rw [List.drop_zero] at main
  have r2 : ∀ a b : Int, run tab K 61 [.sl 32 [I a, I b]] = some (I (orI [a, b])) := fun a b => r61 [a, b] (by simp) (by simp; omega)
  simp only [r57 (show 1 ≤ K by omega), castB_B, r62 (show 1 ≤ K by omega), castI_I, List.length_map, r2, w1]
  have fin : ∀ e0 : Int, (match (e0 != (0 : Int)) with | true => (some (I e0)) | false => lp64_5 K K (m.gd.map eTs) (m.gd.length : Int) (0 : Int) S st ins O vs ms m.f m.t m.n (m.gd.map eTs) (m.ss.map eSe) m.ok m.on) =
      some (I (thenE e0 (thenE (gErr vs.length m.gd) (thenE (ssErr vs.length [] m.ss) (opErr vs.length m.ok m.on))))) := by
    intro e0
    by_cases h0 : e0 = 0
    · subst h0
      simp only [bne_self_eq_false, thenE, ne_eq, not_true_eq_false, if_false]
      exact main
    · rw [show (e0 != 0) = true by simpa using h0]
      simp [thenE, h0]
  by_cases h1 : within m.f 0 (IntKind.i64.wrap (S - 1)) = true
  · by_cases h2 : within m.t 0 (IntKind.i64.wrap (S - 1)) = true
    · by_cases h3 : (m.gd.length : Int) ≤ 4
      · simp only [h1, h2, decide_eq_true h3, Bool.true_and]; exact fin (orI [if within m.n 0 (IntKind.i64.wrap ((ins.length : Int) - 1)) = true then 0 else 3, if decide ((m.ss.length : Int) ≤ 4) = true then 0 else 2])
      · simp only [h1, h2, decide_eq_false h3, Bool.true_and, Bool.false_and]; exact fin (orI [if within m.n 0 (IntKind.i64.wrap ((ins.length : Int) - 1)) = true then 0 else 3, if false = true then 0 else 2])
    · simp only [Bool.not_eq_true] at h2
      by_cases h3 : (m.gd.length : Int) ≤ 4
      · simp only [h1, h2, decide_eq_true h3, Bool.true_and, Bool.false_and]; exact fin (orI [if false = true then 0 else 3, if decide ((m.ss.length : Int) ≤ 4) = true then 0 else 2])
      · simp only [h1, h2, decide_eq_false h3, Bool.true_and, Bool.false_and]; exact fin (orI [if false = true then 0 else 3, if false = true then 0 else 2])
  · simp only [Bool.not_eq_true] at h1
    by_cases h3 : (m.gd.length : Int) ≤ 4
    · simp only [h1, decide_eq_true h3, Bool.true_and, Bool.false_and]; exact fin (orI [if false = true then 0 else 3, if decide ((m.ss.length : Int) ≤ 4) = true then 0 else 2])
    · simp only [h1, decide_eq_false h3, Bool.true_and, Bool.false_and]; exact fin (orI [if false = true then 0 else 3, if false = true then 0 else 2])
end Go.Proofs.YtahifpeggdcamaaDoor

/- Moves are accepted, or have the first error: the reference's check. -/
namespace Go.Proofs.YtahifpeggdcamaaDoor
open Go.Dam
set_option linter.unusedVariables false
set_option linter.unusedSimpArgs false
theorem l54c (K : Nat) (hK : 3 ≤ K) (S st O f t n ok on : Int) (ins vs ms gd : List AV) (ss : List Se) (hl : ss.length ≤ 4611686018427387904) (q6 q17) (i : Nat) (hi : i < ss.length) : ∀ (k j : Nat), i - j < k → j ≤ i →
    lp54_22 K q6 q17 k (i : Int) (j : Int) S st ins O vs ms f t n gd (ss.map eSe) ok on =
      if ((ss.take i).drop j).any (fun x => x.v == ss[i].v) = true then some (I 13) else if opErr vs.length ss[i].ak ss[i].an ≠ 0 then some (I (opErr vs.length ss[i].ak ss[i].an)) else
        if opErr vs.length ss[i].bk ss[i].bn ≠ 0 then some (I (opErr vs.length ss[i].bk ss[i].bn)) else q17 (IntKind.i64.wrap ((i : Int) + 1)) S st ins O vs ms f t n gd (ss.map eSe) ok on
  | 0, j, h, _ => by omega
  | k + 1, j, h, hj => by
    unfold lp54_22 tr54_22
    by_cases hji : j < i
    · have hjs : j < ss.length := by omega
      have hd : (ss.take i).drop j = ss[j] :: (ss.take i).drop (j + 1) := by
        rw [List.drop_eq_getElem_cons (by simp; omega)]; simp
      rw [show decide ((j : Int) < (i : Int)) = true by simpa using hji, hd]
      simp only [if_pos (Int.natCast_nonneg j), if_pos (Int.natCast_nonneg i), map_get eSe hjs, map_get eSe hi, eSe0, castI_I, List.any_cons]
      by_cases h0 : (ss[j].v == ss[i].v) = true
      · simp only [h0, Bool.true_or, if_true]
      · simp only [Bool.not_eq_true] at h0
        simp only [h0, Bool.false_or]
        rw [wrapN (by omega)]
        exact l54c K hK S st O f t n ok on ins vs ms gd ss hl q6 q17 i hi k (j + 1) (by omega) (by omega)
    · obtain rfl : j = i := by omega
      have hd : (ss.take j).drop j = [] := List.drop_eq_nil_of_le (by simp; omega)
      rw [show decide ((j : Int) < (j : Int)) = false by simp, hd]
      simp only [if_pos (Int.natCast_nonneg j), map_get eSe hi, eSe1, eSe2, eSe3, eSe4, castI_I, r83 (show 2 ≤ K by omega), List.any_nil, Bool.false_eq_true, if_false]
      by_cases ha : opErr vs.length ss[j].ak ss[j].an = 0
      · simp only [ha, bne_self_eq_false, ne_eq, not_true_eq_false, if_false]
        by_cases hb : opErr vs.length ss[j].bk ss[j].bn = 0
        · simp only [hb, bne_self_eq_false, ne_eq, not_true_eq_false, if_false]
        · rw [show (opErr vs.length ss[j].bk ss[j].bn != 0) = true by simpa using hb, if_pos (by simpa using hb)]
      · rw [show (opErr vs.length ss[j].ak ss[j].an != 0) = true by simpa using ha, if_pos (by simpa using ha)]
theorem sErr_eq (nv : Int) (p : List Se) (s : Se) : sErr nv p s = if within s.v 0 (w1 nv) = true then if p.any (fun x => x.v == s.v) = true then 13 else if opErr nv s.ak s.an ≠ 0 then opErr nv s.ak s.an else opErr nv s.bk s.bn else 3 := by
  unfold sErr
  by_cases h1 : within s.v 0 (w1 nv) = true
  · by_cases h2 : p.any (fun x => x.v == s.v) = true
    · simp [h1, h2, orI]
    · simp only [Bool.not_eq_true] at h2
      by_cases h3 : opErr nv s.ak s.an = 0
      · by_cases h4 : opErr nv s.bk s.bn = 0 <;> simp [h1, h2, h3, h4, orI]
      · simp [h1, h2, h3, orI]
  · simp [h1, orI]
theorem tErr_eq (nv : Int) (s : Ts) : tErr nv s = if within s.k 0 3 = true then if opErr nv s.ak s.an ≠ 0 then opErr nv s.ak s.an else opErr nv s.bk s.bn else 4 := by
  unfold tErr
  by_cases h1 : within s.k 0 3 = true
  · by_cases h3 : opErr nv s.ak s.an = 0
    · by_cases h4 : opErr nv s.bk s.bn = 0 <;> simp [h1, h3, h4, orI]
    · simp [h1, h3, orI]
  · simp [h1, orI]
theorem l54b (K : Nat) (S st O f t n ok on : Int) (ins vs ms gd : List AV) (ss : List Se) (hl : ss.length ≤ 4611686018427387904) (hK : ss.length + 3 ≤ K) (q6) : ∀ (k i : Nat), ss.length - i < k →
    lp54_17 K q6 k (i : Int) S st ins O vs ms f t n gd (ss.map eSe) ok on = some (I (thenE (ssErr vs.length (ss.take i) (ss.drop i)) (opErr vs.length ok on)))
  | 0, i, h => by omega
  | k + 1, i, h => by
    unfold lp54_17 tr54_17
    rw [List.length_map]
    by_cases hi : i < ss.length
    · rw [show decide ((i : Int) < (ss.length : Int)) = true by simpa using hi, List.drop_eq_getElem_cons hi]
      simp only [if_pos (Int.natCast_nonneg i), map_get eSe hi, eSe0, castI_I, r29 (show 1 ≤ K by omega), castB_B, ssErr]
      rw [sErr_eq]
      have ic := l54c K (by omega) S st O f t n ok on ins vs ms gd ss hl q6 (lp54_17 K q6 k) i hi K 0 (by omega) (by omega)
      have ih := l54b K S st O f t n ok on ins vs ms gd ss hl hK q6 k (i + 1) (by omega)
      rw [← wrapN (by omega), List.take_succ_eq_append_getElem hi] at ih
      rw [List.drop_zero] at ic
      by_cases h1 : within ss[i].v 0 (IntKind.i64.wrap ((vs.length : Int) - 1)) = true
      · have h1' : within ss[i].v 0 (w1 vs.length) = true := h1
        simp only [h1, h1', Bool.not_true, if_true]
        rw [show (0 : Int) = ((0 : Nat) : Int) from rfl, ic]
        by_cases h2 : (ss.take i).any (fun x => x.v == ss[i].v) = true
        · simp [h2, thenE]
        · by_cases h3 : opErr vs.length ss[i].ak ss[i].an = 0
          · by_cases h4 : opErr vs.length ss[i].bk ss[i].bn = 0
            · simp only [h2, h3, h4, ne_eq, not_true_eq_false, if_false, ih]; rfl
            · simp [h2, h3, h4, thenE]
          · simp [h2, h3, thenE]
      · have h1' : ¬ within ss[i].v 0 (w1 vs.length) = true := h1
        simp only [h1', if_false]
        simp only [Bool.not_eq_true] at h1
        simp [h1, thenE]
    · have hd : ss.drop i = [] := List.drop_eq_nil_of_le (by omega)
      rw [show decide ((i : Int) < (ss.length : Int)) = false by simpa using hi, hd]
      simp only [r83 (show 2 ≤ K by omega), castI_I, ssErr, thenE, ne_eq, not_true_eq_false, if_false]
theorem l54a (K : Nat) (S st O f t n ok on : Int) (ins vs ms : List AV) (gd : List Ts) (ss : List Se) (hl : ss.length ≤ 4611686018427387904) (hg : gd.length ≤ 4611686018427387904) (hK : ss.length + 3 ≤ K) : ∀ (k i : Nat), gd.length - i < k →
    lp54_6 K k (i : Int) S st ins O vs ms f t n (gd.map eTs) (ss.map eSe) ok on = some (I (thenE (gErr vs.length (gd.drop i)) (thenE (ssErr vs.length [] ss) (opErr vs.length ok on))))
  | 0, i, h => by omega
  | k + 1, i, h => by
    unfold lp54_6 tr54_6
    rw [List.length_map]
    by_cases hi : i < gd.length
    · rw [show decide ((i : Int) < (gd.length : Int)) = true by simpa using hi, List.drop_eq_getElem_cons hi]
      simp only [if_pos (Int.natCast_nonneg i), map_get eTs hi, eTs0, eTs1, eTs2, eTs3, eTs4, castI_I, r29 (show 1 ≤ K by omega), castB_B, r83 (show 2 ≤ K by omega), gErr]
      rw [tErr_eq]
      have ih := l54a K S st O f t n ok on ins vs ms gd ss hl hg hK k (i + 1) (by omega)
      rw [← wrapN (by omega)] at ih
      by_cases h1 : within gd[i].k 0 3 = true
      · simp only [h1, Bool.not_true, if_true]
        by_cases h3 : opErr vs.length gd[i].ak gd[i].an = 0
        · by_cases h4 : opErr vs.length gd[i].bk gd[i].bn = 0
          · simp only [h3, h4, bne_self_eq_false, ne_eq, not_true_eq_false, if_false, ih]
          · rw [show (opErr vs.length gd[i].bk gd[i].bn != 0) = true by simpa using h4]
            simp [h3, h4, thenE]
        · rw [show (opErr vs.length gd[i].ak gd[i].an != 0) = true by simpa using h3]
          simp [h3, thenE]
      · simp only [Bool.not_eq_true] at h1
        simp [h1, thenE]
    · have hd : gd.drop i = [] := List.drop_eq_nil_of_le (by omega)
      rw [show decide ((i : Int) < (gd.length : Int)) = false by simpa using hi, hd]
      have := l54b K S st O f t n ok on ins vs ms (gd.map eTs) ss hl hK (lp54_6 K k) K 0 (by omega)
      simp only [gErr]
      rw [show (0 : Int) = ((0 : Nat) : Int) from rfl, this]
      simp [thenE]
theorem r54 {K : Nat} (S st O : Int) (ins vs ms : List AV) (m : Mv) (hl : m.ss.length ≤ 4611686018427387904) (hg : m.gd.length ≤ 4611686018427387904) (hK : m.ss.length + m.gd.length + 10 ≤ K) :
    run tab K 54 [.agg [I S, I st, .sl 3 ins, I O, .sl 105 vs, .sl 103 ms], eMv m] = some (I (mvErr S ins.length vs.length m)) := by
  obtain ⟨K, rfl⟩ := succK (show 1 ≤ K by omega)
  unfold eMv
  rw [eq54]; unfold sh54 tr54 mvErr
  have main := l54a K S st O m.f m.t m.n m.ok m.on ins vs ms m.gd m.ss hl hg (by omega) K 0 (by omega)
  rw [List.drop_zero] at main
  simp only [r29 (show 1 ≤ K by omega), castB_B, List.length_map, w1]
  by_cases h1 : within m.f 0 (IntKind.i64.wrap (S - 1)) = true
  · by_cases h2 : within m.t 0 (IntKind.i64.wrap (S - 1)) = true
    · by_cases h3 : within m.n 0 (IntKind.i64.wrap ((ins.length : Int) - 1)) = true
      · by_cases h4 : (m.gd.length : Int) ≤ 4
        · by_cases h5 : (m.ss.length : Int) ≤ 4
          · rw [show decide ((m.gd.length : Int) > 4) = false by simp; omega, show decide ((m.ss.length : Int) > 4) = false by simp; omega]
            simp only [h1, h2, h3, Bool.not_true, decide_eq_true h4, decide_eq_true h5, Bool.and_self, if_true]
            exact main
          · rw [show decide ((m.gd.length : Int) > 4) = false by simp; omega, show decide ((m.ss.length : Int) > 4) = true by simp; omega]
            simp [h1, h2, h3, decide_eq_true h4, decide_eq_false h5, orI, thenE]
        · rw [show decide ((m.gd.length : Int) > 4) = true by simp; omega]
          simp [h1, h2, h3, decide_eq_false h4, orI, thenE]
      · simp only [Bool.not_eq_true] at h3
        simp [h1, h2, h3, orI, thenE]
    · simp only [Bool.not_eq_true] at h2
      simp [h1, h2, orI, thenE]
  · simp only [Bool.not_eq_true] at h1
    simp [h1, orI, thenE]
end Go.Proofs.YtahifpeggdcamaaDoor

/- Models are accepted, or have the first error: the model's check and the reference's. -/
namespace Go.Proofs.YtahifpeggdcamaaDoor
open Go.Dam
set_option linter.unusedVariables false
set_option linter.unusedSimpArgs false
theorem eMv0 (m : Mv) : cellN (eMv m) 0 = I m.f := rfl
theorem eMv1 (m : Mv) : cellN (eMv m) 1 = I m.t := rfl
theorem eMv2 (m : Mv) : cellN (eMv m) 2 = I m.n := rfl
theorem eMv3 (m : Mv) : cellN (eMv m) 3 = .sl 141 (m.gd.map eTs) := rfl
theorem eMv4 (m : Mv) : cellN (eMv m) 4 = .sl 139 (m.ss.map eSe) := rfl
theorem eMv5 (m : Mv) : cellN (eMv m) 5 = I m.ok := rfl
theorem eMv6 (m : Mv) : cellN (eMv m) 6 = I m.on := rfl
theorem eVa0 (v : Va) : cellN (eVa v) 0 = I v.lo := rfl
theorem eVa1 (v : Va) : cellN (eVa v) 1 = I v.hi := rfl
theorem eVa2 (v : Va) : cellN (eVa v) 2 = I v.st := rfl
/-- So much do moves want. -/
def mvFit (K : Nat) (m : Mv) : Prop := m.ss.length ≤ 4611686018427387904 ∧ m.gd.length ≤ 4611686018427387904 ∧ m.ss.length + m.gd.length + 10 ≤ K
theorem r64u {K : Nat} (S st O : Int) (ins vs ms : List AV) (m : Mv) (h : mvFit K m) :
    run tab K 64 [.agg [I S, I st, .sl 3 ins, I O, .sl 105 vs, .sl 103 ms], .agg [I m.f, I m.t, I m.n, .sl 141 (m.gd.map eTs), .sl 139 (m.ss.map eSe), I m.ok, I m.on]] = some (I (mvErr S ins.length vs.length m)) := r64 S st O ins vs ms m h.1 h.2.1 h.2.2
theorem r54u {K : Nat} (S st O : Int) (ins vs ms : List AV) (m : Mv) (h : mvFit K m) :
    run tab K 54 [.agg [I S, I st, .sl 3 ins, I O, .sl 105 vs, .sl 103 ms], .agg [I m.f, I m.t, I m.n, .sl 141 (m.gd.map eTs), .sl 139 (m.ss.map eSe), I m.ok, I m.on]] = some (I (mvErr S ins.length vs.length m)) := r54 S st O ins vs ms m h.1 h.2.1 h.2.2
def msErr (S nIn nv : Int) : Nat → List Mv → Int × Int
  | _, [] => (0, 0)
  | i, m :: l => if mvErr S nIn nv m ≠ 0 then ((i : Int), mvErr S nIn nv m) else msErr S nIn nv (i + 1) l
def vsErr (k : Int × Int) : Nat → List Va → Int × Int
  | _, [] => k
  | i, v :: l => if within v.lo 0 100 then if within v.hi 0 100 then if within v.st v.lo v.hi then vsErr k (i + 1) l else ((i : Int), 3) else ((i : Int), 3) else ((i : Int), 3)
def insErr (k : Int → Int × Int) : Int → Nat → List Int → Int × Int
  | s, _, [] => k s
  | s, i, n :: l => if within n 1 8 then insErr k (minI (IntKind.i64.wrap (s + n)) 9) (i + 1) l else ((i : Int), 3)
theorem l23c (K : Nat) (S st O : Int) (ins vs : List AV) (ms : List Mv) (hl : ms.length ≤ 4611686018427387904) (hK : ∀ m ∈ ms, mvFit K m) (q6 q16) : ∀ (k i : Nat), ms.length - i < k →
    lp23_22 K q6 q16 k (ms.map eMv) (ms.length : Int) (i : Int) S st ins O vs (ms.map eMv) = some (pairI (msErr S ins.length vs.length i (ms.drop i)))
  | 0, i, h => by omega
  | k + 1, i, h => by
    unfold lp23_22 tr23_22
    by_cases hi : i < ms.length
    · rw [show decide ((i : Int) < (ms.length : Int)) = true by simpa using hi, List.drop_eq_getElem_cons hi]
      simp only [if_pos (Int.natCast_nonneg i), map_get eMv hi, eMv0, eMv1, eMv2, eMv3, eMv4, eMv5, eMv6, castI_I, castL_L, r64u S st O ins vs (ms.map eMv) ms[i] (hK _ (List.getElem_mem hi)), msErr]
      by_cases h0 : mvErr S ins.length vs.length ms[i] = 0
      · have ih := l23c K S st O ins vs ms hl hK q6 q16 k (i + 1) (by omega)
        rw [← wrapN (by omega)] at ih
        simp only [h0, ne_eq, not_true_eq_false, if_false, bne_self_eq_false]
        exact ih
      · rw [show (mvErr S ins.length vs.length ms[i] != 0) = true by simpa using h0, if_pos (by simpa using h0)]; rfl
    · have hd : ms.drop i = [] := List.drop_eq_nil_of_le (by omega)
      rw [show decide ((i : Int) < (ms.length : Int)) = false by simpa using hi, hd]; rfl
theorem l16c (K : Nat) (S st O : Int) (ins vs : List AV) (ms : List Mv) (hl : ms.length ≤ 4611686018427387904) (hK : ∀ m ∈ ms, mvFit K m) (q6 q16) : ∀ (k i : Nat), ms.length - i < k →
    lp16_21 K q6 q16 k (i : Int) S st ins O vs (ms.map eMv) = some (pairI (msErr S ins.length vs.length i (ms.drop i)))
  | 0, i, h => by omega
  | k + 1, i, h => by
    unfold lp16_21 tr16_21
    rw [List.length_map]
    by_cases hi : i < ms.length
    · rw [show decide ((i : Int) < (ms.length : Int)) = true by simpa using hi, List.drop_eq_getElem_cons hi]
      simp only [if_pos (Int.natCast_nonneg i), map_get eMv hi, eMv0, eMv1, eMv2, eMv3, eMv4, eMv5, eMv6, castI_I, castL_L, r54u S st O ins vs (ms.map eMv) ms[i] (hK _ (List.getElem_mem hi)), msErr]
      by_cases h0 : mvErr S ins.length vs.length ms[i] = 0
      · have ih := l16c K S st O ins vs ms hl hK q6 q16 k (i + 1) (by omega)
        rw [← wrapN (by omega)] at ih
        simp only [h0, ne_eq, not_true_eq_false, if_false, bne_self_eq_false]
        exact ih
      · rw [show (mvErr S ins.length vs.length ms[i] != 0) = true by simpa using h0, if_pos (by simpa using h0)]; rfl
    · have hd : ms.drop i = [] := List.drop_eq_nil_of_le (by omega)
      rw [show decide ((i : Int) < (ms.length : Int)) = false by simpa using hi, hd]; rfl
theorem within_in {a lo hi : Int} (h1 : within lo 0 100 = true) (h2 : within hi 0 100 = true) (h3 : within a 0 100 = false) : within a lo hi = false := by
  unfold within at *
  simp only [Bool.and_eq_true, decide_eq_true_eq, Bool.and_eq_false_iff, decide_eq_false_iff_not] at *
  omega
theorem l23b (K : Nat) (S st O : Int) (ins : List AV) (vs : List Va) (ms : List Mv) (hv : vs.length ≤ 4611686018427387904) (hl : ms.length ≤ 4611686018427387904) (hK : ∀ m ∈ ms, mvFit K m) (hKl : ms.length + 3 ≤ K) (q6) : ∀ (k i : Nat), vs.length - i < k →
    lp23_16 K q6 k (vs.map eVa) (vs.length : Int) (i : Int) S st ins O (vs.map eVa) (ms.map eMv) = some (pairI (vsErr (msErr S ins.length vs.length 0 ms) i (vs.drop i)))
  | 0, i, h => by omega
  | k + 1, i, h => by
    unfold lp23_16 tr23_16
    by_cases hi : i < vs.length
    · rw [show decide ((i : Int) < (vs.length : Int)) = true by simpa using hi, List.drop_eq_getElem_cons hi]
      simp only [if_pos (Int.natCast_nonneg i), map_get eVa hi, eVa0, eVa1, eVa2, castI_I, r63 (show 2 ≤ K by omega), r57 (show 1 ≤ K by omega), castB_B, vsErr]
      have ih := l23b K S st O ins vs ms hv hl hK hKl q6 k (i + 1) (by omega)
      rw [← wrapN (by omega)] at ih
      by_cases h1 : within vs[i].lo 0 100 = true
      · by_cases h2 : within vs[i].hi 0 100 = true
        · by_cases h3 : within vs[i].st 0 100 = true
          · by_cases h4 : within vs[i].st vs[i].lo vs[i].hi = true
            · simp only [h1, h2, h3, h4, Bool.not_true, if_true]; exact ih
            · simp only [Bool.not_eq_true] at h4
              simp [h1, h2, h3, h4, pairI]
          · simp only [Bool.not_eq_true] at h3
            simp [h1, h2, h3, within_in h1 h2 h3, pairI]
        · simp only [Bool.not_eq_true] at h2
          simp [h1, h2, pairI]
      · simp only [Bool.not_eq_true] at h1
        simp [h1, pairI]
    · have hd : vs.drop i = [] := List.drop_eq_nil_of_le (by omega)
      rw [show decide ((i : Int) < (vs.length : Int)) = false by simpa using hi, hd]
      have := l23c K S st O ins (vs.map eVa) ms hl hK q6 (lp23_16 K q6 k) K 0 (by omega)
      simp only [List.length_map] at this ⊢
      rw [show (0 : Int) = ((0 : Nat) : Int) from rfl, this]; rfl
theorem l16b (K : Nat) (S st O : Int) (ins : List AV) (vs : List Va) (ms : List Mv) (hv : vs.length ≤ 4611686018427387904) (hl : ms.length ≤ 4611686018427387904) (hK : ∀ m ∈ ms, mvFit K m) (hKl : ms.length + 3 ≤ K) (q6) : ∀ (k i : Nat), vs.length - i < k →
    lp16_15 K q6 k (i : Int) S st ins O (vs.map eVa) (ms.map eMv) = some (pairI (vsErr (msErr S ins.length vs.length 0 ms) i (vs.drop i)))
  | 0, i, h => by omega
  | k + 1, i, h => by
    unfold lp16_15 tr16_15
    rw [List.length_map]
    by_cases hi : i < vs.length
    · rw [show decide ((i : Int) < (vs.length : Int)) = true by simpa using hi, List.drop_eq_getElem_cons hi]
      simp only [if_pos (Int.natCast_nonneg i), map_get eVa hi, eVa0, eVa1, eVa2, castI_I, r29 (show 1 ≤ K by omega), castB_B, vsErr]
      have ih := l16b K S st O ins vs ms hv hl hK hKl q6 k (i + 1) (by omega)
      rw [← wrapN (by omega)] at ih
      by_cases h1 : within vs[i].lo 0 100 = true
      · by_cases h2 : within vs[i].hi 0 100 = true
        · by_cases h4 : within vs[i].st vs[i].lo vs[i].hi = true
          · simp only [h1, h2, h4, Bool.not_true, if_true]; exact ih
          · simp only [Bool.not_eq_true] at h4
            simp [h1, h2, h4, pairI]
        · simp only [Bool.not_eq_true] at h2
          simp [h1, h2, pairI]
      · simp only [Bool.not_eq_true] at h1
        simp [h1, pairI]
    · have hd : vs.drop i = [] := List.drop_eq_nil_of_le (by omega)
      rw [show decide ((i : Int) < (vs.length : Int)) = false by simpa using hi, hd]
      have := l16c K S st O ins (vs.map eVa) ms hl hK q6 (lp16_15 K q6 k) K 0 (by omega)
      simp only [List.length_map] at this ⊢
      rw [show (0 : Int) = ((0 : Nat) : Int) from rfl, this]; rfl
def afterIns (S : Int) (nIn : Int) (vs : List Va) (ms : List Mv) (s : Int) : Int × Int :=
  if s > 8 then (0, 2) else if (vs.length : Int) > 4 then (0, 2) else if (ms.length : Int) > 40 then (0, 2) else vsErr (msErr S nIn vs.length 0 ms) 0 vs
theorem l23a (K : Nat) (S st O : Int) (ins : List Int) (vs : List Va) (ms : List Mv) (hn : ins.length ≤ 4611686018427387904) (hv : vs.length ≤ 4611686018427387904) (hl : ms.length ≤ 4611686018427387904) (hK : ∀ m ∈ ms, mvFit K m)
    (hKl : ms.length + vs.length + 3 ≤ K) : ∀ (k i : Nat) (s : Int), ins.length - i < k →
    lp23_6 K k s (ints ins) (ins.length : Int) (i : Int) S st (ints ins) O (vs.map eVa) (ms.map eMv) = some (pairI (insErr (afterIns S ins.length vs ms) s i (ins.drop i)))
  | 0, i, s, h => by omega
  | k + 1, i, s, h => by
    unfold lp23_6 tr23_6
    by_cases hi : i < ins.length
    · rw [show decide ((i : Int) < (ins.length : Int)) = true by simpa using hi, List.drop_eq_getElem_cons hi]
      simp only [if_pos (Int.natCast_nonneg i), ints_get hi, castI_I, r57 (show 1 ≤ K by omega), castB_B, insErr]
      have ih := l23a K S st O ins vs ms hn hv hl hK hKl k (i + 1) (minI (IntKind.i64.wrap (s + ins[i])) 9) (by omega)
      rw [← wrapN (by omega)] at ih
      by_cases h1 : within ins[i] 1 8 = true
      · simp only [h1, Bool.not_true, if_true]; exact ih
      · simp only [Bool.not_eq_true] at h1
        simp [h1, pairI]
    · have hd : ins.drop i = [] := List.drop_eq_nil_of_le (by omega)
      rw [show decide ((i : Int) < (ins.length : Int)) = false by simpa using hi, hd]
      have := l23b K S st O (ints ins) vs ms hv hl hK (by omega) (lp23_6 K k) K 0 (by omega)
      rw [ints_len, List.drop_zero] at this
      simp only [List.length_map, insErr, afterIns]
      by_cases h1 : s > 8
      · simp [h1, pairI]
      · by_cases h2 : (vs.length : Int) > 4
        · rw [decide_eq_false h1, decide_eq_true h2, if_neg h1, if_pos h2]; rfl
        · by_cases h3 : (ms.length : Int) > 40
          · rw [decide_eq_false h1, decide_eq_false h2, decide_eq_true h3, if_neg h1, if_neg h2, if_pos h3]; rfl
          · rw [decide_eq_false h1, decide_eq_false h2, decide_eq_false h3, if_neg h1, if_neg h2, if_neg h3]
            exact this
theorem l16a (K : Nat) (S st O : Int) (ins : List Int) (vs : List Va) (ms : List Mv) (hn : ins.length ≤ 4611686018427387904) (hv : vs.length ≤ 4611686018427387904) (hl : ms.length ≤ 4611686018427387904) (hK : ∀ m ∈ ms, mvFit K m)
    (hKl : ms.length + vs.length + 3 ≤ K) : ∀ (k i : Nat) (s : Int), ins.length - i < k →
    lp16_7 K k s (i : Int) S st (ints ins) O (vs.map eVa) (ms.map eMv) = some (pairI (insErr (afterIns S ins.length vs ms) s i (ins.drop i)))
  | 0, i, s, h => by omega
  | k + 1, i, s, h => by
    unfold lp16_7 tr16_7
    rw [ints_len]
    by_cases hi : i < ins.length
    · rw [show decide ((i : Int) < (ins.length : Int)) = true by simpa using hi, List.drop_eq_getElem_cons hi]
      simp only [if_pos (Int.natCast_nonneg i), ints_get hi, castI_I, r29 (show 1 ≤ K by omega), castB_B, insErr]
      have ih := l16a K S st O ins vs ms hn hv hl hK hKl k (i + 1) (minI (IntKind.i64.wrap (s + ins[i])) 9) (by omega)
      rw [← wrapN (by omega)] at ih
      by_cases h1 : within ins[i] 1 8 = true
      · simp only [h1, Bool.not_true, if_true]; exact ih
      · simp only [Bool.not_eq_true] at h1
        simp [h1, pairI]
    · have hd : ins.drop i = [] := List.drop_eq_nil_of_le (by omega)
      rw [show decide ((i : Int) < (ins.length : Int)) = false by simpa using hi, hd]
      have := l16b K S st O (ints ins) vs ms hv hl hK (by omega) (lp16_7 K k) K 0 (by omega)
      rw [ints_len, List.drop_zero] at this
      simp only [List.length_map, insErr, afterIns]
      by_cases h1 : s > 8
      · simp [h1, pairI]
      · by_cases h2 : (vs.length : Int) > 4
        · rw [decide_eq_false h1, decide_eq_true h2, if_neg h1, if_pos h2]; rfl
        · by_cases h3 : (ms.length : Int) > 40
          · rw [decide_eq_false h1, decide_eq_false h2, decide_eq_true h3, if_neg h1, if_neg h2, if_pos h3]; rfl
          · rw [decide_eq_false h1, decide_eq_false h2, decide_eq_false h3, if_neg h1, if_neg h2, if_neg h3]
            exact this
end Go.Proofs.YtahifpeggdcamaaDoor

/- Models: checks as wholes; copies; signals. -/
namespace Go.Proofs.YtahifpeggdcamaaDoor
open Go.Dam
set_option linter.unusedVariables false
set_option linter.unusedSimpArgs false
def moErr (m : Mo) : Int × Int :=
  if within m.s 1 40 && (within m.st 0 (w1 m.s) && within m.o 1 8) then if m.ins = [] then (0, 1) else insErr (afterIns m.s m.ins.length m.vs m.ms) 0 0 m.ins else (0, 3)
/-- So much does a model want. -/
structure moFit (K : Nat) (m : Mo) : Prop where
  ins : m.ins.length + 10 ≤ K
  vs : m.vs.length + 10 ≤ K
  ms : m.ms.length + m.vs.length + 10 ≤ K
  mv : ∀ x ∈ m.ms, mvFit (K - 2) x
  li : m.ins.length * 8 ≤ maxBytes
  lv : m.vs.length * 24 ≤ maxBytes
  lm : m.ms.length * 88 ≤ maxBytes
  lg : ∀ x ∈ m.ms, x.gd.length * 40 ≤ maxBytes ∧ x.ss.length * 48 ≤ maxBytes
  dg : ∀ n ∈ m.ins, n ≤ 8 → n.toNat + 10 ≤ K
theorem big {n b : Nat} (h : n * b ≤ maxBytes) (hb : 1 ≤ b) : n ≤ 4611686018427387904 := by
  have h1 : n * 1 ≤ n * b := Nat.mul_le_mul_left _ hb
  have h2 : maxBytes ≤ 4611686018427387904 := by decide
  omega
theorem mvFit.mono {K K' : Nat} {m : Mv} (h : mvFit K m) (hK : K ≤ K') : mvFit K' m := ⟨h.1, h.2.1, by have := h.2.2; omega⟩
theorem r23 {K : Nat} (m : Mo) (h : moFit K m) : run tab K 23 [eMo m] = some (pairI (moErr m)) := by
  have g1 := h.ins; have g2 := h.vs; have g3 := h.ms
  obtain ⟨K, rfl⟩ := succK (show 1 ≤ K by omega)
  unfold eMo
  rw [eq23]; unfold sh23 tr23 moErr
  have main := l23a K m.s m.st m.o m.ins m.vs m.ms (big h.li (by omega)) (big h.lv (by omega)) (big h.lm (by omega)) (fun x hx => (h.mv x hx).mono (by omega)) (by omega) K 0 0 (by omega)
  rw [List.drop_zero] at main
  have r2 : ∀ a b : Int, run tab K 61 [.sl 32 [I a, I b]] = some (I (orI [a, b])) := fun a b => r61 [a, b] (by simp) (by simp; omega)
  simp only [r57 (show 1 ≤ K by omega), castB_B, r62 (show 1 ≤ K by omega), castI_I, r2, w1, ints_len]
  by_cases h0 : m.ins = []
  · have hd : decide ((m.ins.length : Int) > 0) = false := by simp [h0]
    rw [hd]
    by_cases h1 : within m.s 1 40 = true
    · by_cases h2 : within m.st 0 (IntKind.i64.wrap (m.s - 1)) = true
      · by_cases h3 : within m.o 1 8 = true
        · simp [h1, h2, h3, h0, orI, pairI]
        · simp [h1, h2, h3, orI, pairI]
      · simp only [Bool.not_eq_true] at h2
        simp [h1, h2, orI, pairI]
    · simp only [Bool.not_eq_true] at h1
      simp [h1, orI, pairI]
  · have hd : decide ((m.ins.length : Int) > 0) = true := by
      have : 0 < m.ins.length := List.length_pos_iff.2 h0
      simp; omega
    rw [hd]
    by_cases h1 : within m.s 1 40 = true
    · by_cases h2 : within m.st 0 (IntKind.i64.wrap (m.s - 1)) = true
      · by_cases h3 : within m.o 1 8 = true
        · simp only [h1, h2, h3, if_true, orI, bne_self_eq_false, Bool.and_self, if_neg h0]
          exact main
        · simp [h1, h2, h3, orI, pairI]
      · simp only [Bool.not_eq_true] at h2
        simp [h1, h2, orI, pairI]
    · simp only [Bool.not_eq_true] at h1
      simp [h1, orI, pairI]
theorem r16 {K : Nat} (m : Mo) (h : moFit K m) : run tab K 16 [eMo m] = some (pairI (moErr m)) := by
  have g1 := h.ins; have g2 := h.vs; have g3 := h.ms
  obtain ⟨K, rfl⟩ := succK (show 1 ≤ K by omega)
  unfold eMo
  rw [eq16]; unfold sh16 tr16 moErr
  have main := l16a K m.s m.st m.o m.ins m.vs m.ms (big h.li (by omega)) (big h.lv (by omega)) (big h.lm (by omega)) (fun x hx => (h.mv x hx).mono (by omega)) (by omega) K 0 0 (by omega)
  rw [List.drop_zero] at main
  simp only [r29 (show 1 ≤ K by omega), castB_B, w1, ints_len]
  by_cases h1 : within m.s 1 40 = true
  · by_cases h2 : within m.st 0 (IntKind.i64.wrap (m.s - 1)) = true
    · by_cases h3 : within m.o 1 8 = true
      · by_cases h0 : m.ins = []
        · simp [h1, h2, h3, h0, pairI]
        · have hd : ((m.ins.length : Int) == 0) = false := by
            have : 0 < m.ins.length := List.length_pos_iff.2 h0
            simp; exact h0
          rw [hd]
          simp only [h1, h2, h3, Bool.not_true, Bool.and_self, if_true, if_neg h0]
          exact main
      · simp only [Bool.not_eq_true] at h3
        simp [h1, h2, h3, pairI]
    · simp only [Bool.not_eq_true] at h2
      simp [h1, h2, pairI]
  · simp only [Bool.not_eq_true] at h1
    simp [h1, pairI]
theorem r47 {K : Nat} (m : Mo) (h : moFit K m) : run tab (K + 1) 47 [eMo m] = some (I (moErr m).2) := by
  have := r23 m h
  unfold eMo at *
  rw [eq47]; unfold sh47 tr47
  rw [this]; rfl
theorem r27 {K : Nat} (l : List AV) (hl : l.length * 8 ≤ maxBytes) (h : 1 ≤ K) : run tab K 27 [.sl 3 l] = some (.sl 3 l) := by
  obtain ⟨K, rfl⟩ := succK h
  rw [eq27]; unfold sh27 tr27
  rw [if_pos (by simpa using hl)]; rfl
theorem l15 (K : Nat) (ms : List Mv) (hl : ms.length * 88 ≤ maxBytes) (hg : ∀ x ∈ ms, x.gd.length * 40 ≤ maxBytes ∧ x.ss.length * 48 ≤ maxBytes) (y2 y3 : Int) (y4 : List AV) (y5 : Int) (y6 : List AV) (y8 y9 : Int) (y10 : List AV) (y11 : Int) (y12 y13 : List AV) (y14 y15 : Int) (y16 : List AV) (y17 : Int) (y18 : List AV) :
    ∀ (k i : Nat), ms.length - i < k → i ≤ ms.length →
    lp15_4 K k (i : Int) y2 y3 y4 y5 y6 (ms.map eMv) y8 y9 y10 y11 y12 y13 y14 y15 y16 y17 y18 ((ms.take i).map eMv) = some (.agg [I y14, I y15, .sl 3 y16, I y17, .sl 105 y18, .sl 103 (ms.map eMv)])
  | 0, i, h, _ => by omega
  | k + 1, i, h, hil => by
    have hb := big hl (by omega)
    unfold lp15_4 tr15_4
    rw [List.length_map]
    by_cases hi : i < ms.length
    · rw [show decide ((i : Int) < (ms.length : Int)) = true by simpa using hi]
      obtain ⟨g1, g2⟩ := hg _ (List.getElem_mem hi)
      have g3 : (((ms.take i).map eMv).length + 1) * 88 ≤ maxBytes := by
        refine Nat.le_trans (Nat.mul_le_mul_right _ ?_) hl
        simp; omega
      have e : [AV.agg [I ms[i].f, I ms[i].t, I ms[i].n, .sl 141 (ms[i].gd.map eTs), .sl 139 (ms[i].ss.map eSe), I ms[i].ok, I ms[i].on]] = [eMv ms[i]] := rfl
      simp only [if_pos (Int.natCast_nonneg i), map_get eMv hi, eMv0, eMv1, eMv2, eMv3, eMv4, eMv5, eMv6, castI_I, castL_L, List.nil_append, List.length_nil, Nat.zero_add, List.length_map, if_pos g1, if_pos g2, List.length_cons]
      rw [List.length_map] at g3
      rw [if_pos g3, e, show (ms.take i).map eMv ++ [eMv ms[i]] = (ms.take (i + 1)).map eMv by rw [List.take_succ_eq_append_getElem hi, List.map_append]; rfl, wrapN (by omega)]
      exact l15 K ms hl hg y2 y3 y4 y5 y6 y8 y9 y10 y11 y12 y13 y14 y15 y16 y17 y18 k (i + 1) (by omega) (by omega)
    · have hd : ms.take i = ms := List.take_of_length_le (by omega)
      rw [show decide ((i : Int) < (ms.length : Int)) = false by simpa using hi, hd]
theorem r15 {K : Nat} (m : Mo) (h : moFit K m) : run tab K 15 [eMo m] = some (eMo m) := by
  have g1 := h.ins; have g2 := h.vs; have g3 := h.ms
  obtain ⟨K, rfl⟩ := succK (show 1 ≤ K by omega)
  unfold eMo
  rw [eq15]; unfold sh15 tr15
  rw [r27 _ (by rw [ints_len]; exact h.li) (by omega)]
  simp only [castL_L, List.length_nil, Nat.zero_add, List.length_map, if_pos h.lv, List.nil_append]
  have := l15 K m.ms h.lm h.lg m.s m.st (ints m.ins) m.o (m.vs.map eVa) 0 0 [] 0 [] [] m.s m.st (ints m.ins) m.o (m.vs.map eVa) K 0 (by omega) (by omega)
  exact this

def eP (p : Int × Int) : AV := .agg [I p.1, I p.2]
def onePs (i : Int) : Nat → Nat → List (Int × Int)
  | _, 0 => []
  | d, c + 1 => (i, (d : Int)) :: onePs i (d + 1) c
def allPs : Nat → List Int → List (Int × Int)
  | _, [] => []
  | i, n :: l => onePs (i : Int) 0 n.toNat ++ allPs (i + 1) l
def tot : List Int → Nat
  | [] => 0
  | n :: l => n.toNat + tot l
theorem onePs_len (i : Int) : ∀ d c, (onePs i d c).length = c
  | _, 0 => rfl
  | d, c + 1 => by simp [onePs, onePs_len i (d + 1) c]
theorem l48b (K : Nat) (q3) (i n : Int) (hn : n ≤ 4611686018427387904) (y3 : List AV) (y4 y5 : Int) : ∀ (k d : Nat) (acc : List AV), n.toNat - d < k → d ≤ n.toNat → (acc.length + (n.toNat - d)) * 16 ≤ maxBytes →
    lp48_6 K q3 k acc i y3 y4 y5 n (d : Int) = q3 (acc ++ (onePs i d (n.toNat - d)).map eP) y3 y4 (IntKind.i64.wrap (y5 + 1))
  | 0, d, acc, h, _, _ => by omega
  | k + 1, d, acc, h, hd, hb => by
    unfold lp48_6 tr48_6
    by_cases hdn : d < n.toNat
    · rw [show decide ((d : Int) < n) = true by simp; omega]
      have h1 : (acc.length + ([AV.agg [I i, I (d : Int)]] : List AV).length) * 16 ≤ maxBytes := by simp only [List.length_cons, List.length_nil]; omega
      simp only [if_pos h1]
      rw [wrapN (by omega), l48b K q3 i n hn y3 y4 y5 k (d + 1) _ (by omega) (by omega) (by simp only [List.length_append, List.length_cons, List.length_nil]; omega)]
      rw [show n.toNat - d = (n.toNat - (d + 1)) + 1 by omega]
      simp [onePs, eP]
    · rw [show decide ((d : Int) < n) = false by simp; omega, show n.toNat - d = 0 by omega]
      simp [onePs]
theorem l48a (K : Nat) (ins : List Int) (hl : ins.length ≤ 4611686018427387904) (hn : ∀ n ∈ ins, n ≤ 4611686018427387904 ∧ n.toNat + 2 ≤ K) : ∀ (k i : Nat) (acc : List AV), ins.length - i < k → (acc.length + tot (ins.drop i)) * 16 ≤ maxBytes →
    lp48_3 K k acc (ints ins) (ins.length : Int) (i : Int) = some (.sl 52 (acc ++ (allPs i (ins.drop i)).map eP))
  | 0, i, acc, h, _ => by omega
  | k + 1, i, acc, h, hb => by
    unfold lp48_3 tr48_3
    by_cases hi : i < ins.length
    · have hd : ins.drop i = ins[i] :: ins.drop (i + 1) := List.drop_eq_getElem_cons hi
      obtain ⟨n1, n2⟩ := hn _ (List.getElem_mem hi)
      rw [hd] at hb ⊢
      simp only [tot] at hb
      rw [show decide ((i : Int) < (ins.length : Int)) = true by simpa using hi]
      simp only [if_pos (Int.natCast_nonneg i), ints_get hi, castI_I]
      rw [show (0 : Int) = ((0 : Nat) : Int) from rfl, l48b K (lp48_3 K k) (i : Int) ins[i] n1 (ints ins) _ _ K 0 acc (by omega) (by omega) (by omega), wrapN (by omega)]
      rw [l48a K ins hl hn k (i + 1) _ (by omega) (by simp only [List.length_append, List.length_map, onePs_len]; omega)]
      simp [allPs]
    · have hd : ins.drop i = [] := List.drop_eq_nil_of_le (by omega)
      rw [show decide ((i : Int) < (ins.length : Int)) = false by simpa using hi, hd]
      simp [allPs]
theorem l25b (K : Nat) (q3) (ins : List Int) (i : Nat) (hi : i < ins.length) (hn : ins[i] ≤ 4611686018427387904) (y4 y5 : Int) (y7 : Int) (y8 y9 : List AV) : ∀ (k d : Nat) (acc : List AV), ins[i].toNat - d < k → d ≤ ins[i].toNat → (acc.length + (ins[i].toNat - d)) * 16 ≤ maxBytes →
    lp25_6 K q3 k acc (i : Int) (d : Int) y4 y5 (ints ins) y7 y8 y9 = q3 (acc ++ (onePs i d (ins[i].toNat - d)).map eP) (IntKind.i64.wrap ((i : Int) + 1)) y4 y5 (ints ins) y7 y8 y9
  | 0, d, acc, h, _, _ => by omega
  | k + 1, d, acc, h, hd, hb => by
    unfold lp25_6 tr25_6
    simp only [if_pos (Int.natCast_nonneg i), ints_get hi, castI_I]
    by_cases hdn : d < ins[i].toNat
    · rw [show decide ((d : Int) < ins[i]) = true by simp; omega]
      have h1 : (acc.length + ([AV.agg [I (i : Int), I (d : Int)]] : List AV).length) * 16 ≤ maxBytes := by simp only [List.length_cons, List.length_nil]; omega
      simp only [if_pos h1]
      rw [wrapN (by omega), l25b K q3 ins i hi hn y4 y5 y7 y8 y9 k (d + 1) _ (by omega) (by omega) (by simp only [List.length_append, List.length_cons, List.length_nil]; omega)]
      rw [show ins[i].toNat - d = (ins[i].toNat - (d + 1)) + 1 by omega]
      simp [onePs, eP]
    · rw [show decide ((d : Int) < ins[i]) = false by simp; omega, show ins[i].toNat - d = 0 by omega]
      simp [onePs]
theorem l25a (K : Nat) (ins : List Int) (hl : ins.length ≤ 4611686018427387904) (hn : ∀ n ∈ ins, n ≤ 4611686018427387904 ∧ n.toNat + 2 ≤ K) (y3 y4 y6 : Int) (y7 y8 : List AV) : ∀ (k i : Nat) (acc : List AV), ins.length - i < k → (acc.length + tot (ins.drop i)) * 16 ≤ maxBytes →
    lp25_3 K k acc (i : Int) y3 y4 (ints ins) y6 y7 y8 = some (.sl 52 (acc ++ (allPs i (ins.drop i)).map eP))
  | 0, i, acc, h, _ => by omega
  | k + 1, i, acc, h, hb => by
    unfold lp25_3 tr25_3
    rw [ints_len]
    by_cases hi : i < ins.length
    · have hd : ins.drop i = ins[i] :: ins.drop (i + 1) := List.drop_eq_getElem_cons hi
      obtain ⟨n1, n2⟩ := hn _ (List.getElem_mem hi)
      rw [hd] at hb ⊢
      simp only [tot] at hb
      rw [show decide ((i : Int) < (ins.length : Int)) = true by simpa using hi]
      simp only []
      rw [show (0 : Int) = ((0 : Nat) : Int) from rfl, l25b K (lp25_3 K k) ins i hi n1 y3 y4 y6 y7 y8 K 0 acc (by omega) (by omega) (by omega), wrapN (by omega)]
      rw [l25a K ins hl hn y3 y4 y6 y7 y8 k (i + 1) _ (by omega) (by simp only [List.length_append, List.length_map, onePs_len]; omega)]
      simp [allPs]
    · have hd : ins.drop i = [] := List.drop_eq_nil_of_le (by omega)
      rw [show decide ((i : Int) < (ins.length : Int)) = false by simpa using hi, hd]
      simp [allPs]
end Go.Proofs.YtahifpeggdcamaaDoor
