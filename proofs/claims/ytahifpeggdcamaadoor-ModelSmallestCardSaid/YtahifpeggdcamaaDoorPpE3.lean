/- A part of an interpreter of the model's code that is proved sound, and of laws told by it: DamL1, DamL2, DamL3, DamL4, DamL5, DamL6, DamL7. -/
import Derived.Test.YtahifpeggdcamaaDoorPpE1
import Derived.IntWalk
set_option linter.unusedVariables false
set_option linter.unusedSimpArgs false
/- What the smallest functions tell. -/
namespace Go.Proofs.YtahifpeggdcamaaDoor
open Go.Dam
set_option linter.unusedVariables false
set_option linter.unusedSimpArgs false
theorem castI_I {R : Type} (n : Int) (F : Int → Option R) : castI .i64 (I n) F = F n := rfl
theorem castB_B {R : Type} (b : Bool) (F : Bool → Option R) : castB (B b) F = F b := rfl
theorem castL_L {R : Type} (T : Nat) (l : List AV) (F : List AV → Option R) : castL T (.sl T l) F = F l := by simp [castL]
theorem cellN_agg (l : List AV) (j : Nat) : cellN (.agg l) j = l.getD j .undef := rfl
def i64 (n : Int) : Prop := -9223372036854775808 ≤ n ∧ n ≤ 9223372036854775807
theorem wrapI {n : Int} (h : i64 n) : IntKind.i64.wrap n = n := by
  obtain ⟨h1, h2⟩ := h
  rw [IntKind.wrap_i64]
  omega
theorem wrapN {i : Nat} (h : i ≤ 4611686018427387904) : IntKind.i64.wrap ((i : Int) + 1) = ((i + 1 : Nat) : Int) := by
  rw [wrapI ⟨by omega, by omega⟩]; omega
theorem succK {K : Nat} (h : 1 ≤ K) : ∃ k, K = k + 1 := ⟨K - 1, by omega⟩
/-- Numbers as values. -/
def ints (l : List Int) : List AV := l.map I
theorem ints_get {l : List Int} {i : Nat} (h : i < l.length) : (ints l)[((i : Nat) : Int).toNat]? = some (I l[i]) := by
  simp [ints, h]
theorem ints_len (l : List Int) : (ints l).length = l.length := by simp [ints]

def within (n a b : Int) : Bool := decide (a ≤ n) && decide (n ≤ b)
theorem r57 {K : Nat} (h : 1 ≤ K) (n a b : Int) : run tab K 57 [I n, I a, I b] = some (B (within n a b)) := by
  obtain ⟨K, rfl⟩ := succK h
  rw [eq57]; unfold sh57 tr57 within
  cases decide (a ≤ n) <;> rfl
theorem r29 {K : Nat} (h : 1 ≤ K) (n a b : Int) : run tab K 29 [I n, I a, I b] = some (B (within n a b)) := by
  obtain ⟨K, rfl⟩ := succK h
  rw [eq29]; unfold sh29 tr29 within
  cases decide (a ≤ n) <;> rfl
theorem r84 {K : Nat} (h : 1 ≤ K) (n : Int) : run tab K 84 [I n] = some (B false) := by
  obtain ⟨K, rfl⟩ := succK h
  rw [eq84]; unfold sh84 tr84
  simp
def cmpI (a b : Int) : Int := if a < b then -1 else if a > b then 1 else 0
theorem r59 {K : Nat} (h : 2 ≤ K) (a b : Int) : run tab K 59 [I a, I b] = some (I (cmpI a b)) := by
  obtain ⟨K, rfl⟩ := succK (show 1 ≤ K by omega)
  rw [eq59]; unfold sh59 tr59 cmpI
  simp only [r84 (show 1 ≤ K by omega), castB_B]
  by_cases h1 : a < b
  · simp [h1]
  · by_cases h2 : a > b <;> simp [h1, h2]
theorem r81 {K : Nat} (h : 1 ≤ K) (b : Bool) : run tab K 81 [B b] = some (I (if b then 1 else 0)) := by
  obtain ⟨K, rfl⟩ := succK h
  rw [eq81]; unfold sh81 tr81
  cases b <;> rfl
theorem r62 {K : Nat} (h : 1 ≤ K) (b : Bool) (n : Int) : run tab K 62 [B b, I n] = some (I (if b then 0 else n)) := by
  obtain ⟨K, rfl⟩ := succK h
  rw [eq62]; unfold sh62 tr62
  cases b <;> rfl
/-- The first that is not 0. -/
def orI : List Int → Int
  | [] => 0
  | n :: l => if n = 0 then orI l else n
theorem l58 (K : Nat) (l : List Int) (hl : l.length ≤ 4611686018427387904) : ∀ (k i : Nat), l.length - i < k → lp58_3 K k 0 (ints l) (l.length : Int) (i : Int) = some (I (orI (l.drop i)))
  | 0, i, h => by omega
  | k + 1, i, h => by
    unfold lp58_3 tr58_3
    by_cases hi : i < l.length
    · rw [show decide ((i : Int) < (l.length : Int)) = true by simpa using hi, List.drop_eq_getElem_cons hi]
      simp only [if_pos (Int.natCast_nonneg i), ints_get hi, castI_I, orI]
      by_cases h0 : l[i] = 0
      · simp only [h0, if_pos]
        rw [wrapN (by omega)]
        exact l58 K l hl k (i + 1) (by omega)
      · rw [show (l[i] != 0) = true by simpa using h0]; simp [h0]
    · rw [show decide ((i : Int) < (l.length : Int)) = false by simpa using hi, List.drop_eq_nil_of_le (by omega)]
      rfl
theorem r58 {K : Nat} (l : List Int) (hl : l.length ≤ 4611686018427387904) (h : l.length + 2 ≤ K) : run tab K 58 [.sl 3 (ints l)] = some (I (orI l)) := by
  obtain ⟨K, rfl⟩ := succK (show 1 ≤ K by omega)
  rw [eq58]; unfold sh58 tr58
  rw [ints_len]
  exact l58 K l hl K 0 (by omega)
theorem l61 (K : Nat) (l : List Int) (hl : l.length ≤ 4611686018427387904) : ∀ (k i : Nat), l.length - i < k → lp61_3 K k 0 (ints l) (l.length : Int) (i : Int) = some (I (orI (l.drop i)))
  | 0, i, h => by omega
  | k + 1, i, h => by
    unfold lp61_3 tr61_3
    by_cases hi : i < l.length
    · rw [show decide ((i : Int) < (l.length : Int)) = true by simpa using hi, List.drop_eq_getElem_cons hi]
      simp only [if_pos (Int.natCast_nonneg i), ints_get hi, castI_I, orI]
      by_cases h0 : l[i] = 0
      · simp only [h0, if_pos]
        rw [wrapN (by omega)]
        exact l61 K l hl k (i + 1) (by omega)
      · rw [show (l[i] != 0) = true by simpa using h0]; simp [h0]
    · rw [show decide ((i : Int) < (l.length : Int)) = false by simpa using hi, List.drop_eq_nil_of_le (by omega)]
      rfl
theorem r61 {K : Nat} (l : List Int) (hl : l.length ≤ 4611686018427387904) (h : l.length + 2 ≤ K) : run tab K 61 [.sl 32 (ints l)] = some (I (orI l)) := by
  obtain ⟨K, rfl⟩ := succK (show 1 ≤ K by omega)
  rw [eq61]; unfold sh61 tr61
  rw [ints_len]
  exact l61 K l hl K 0 (by omega)
theorem st60 {K : Nat} (h : 1 ≤ K) (q : List AV → List AV → Int → Option AV) (l m : List AV) (i : Nat) (a c : Int) (hl : l[i]? = some (I a)) (hm : m[i]? = some (I c)) :
    tr60_2 K q l m (i : Int) = if a = c then q l m (IntKind.i64.wrap ((i : Int) + 1)) else some (I (cmpI a c)) := by
  have h1 : i < l.length := (List.getElem?_eq_some_iff.1 hl).1
  have h2 : i < m.length := (List.getElem?_eq_some_iff.1 hm).1
  unfold tr60_2
  rw [show decide ((i : Int) < (l.length : Int)) = true by simpa using h1, show decide ((i : Int) < (m.length : Int)) = true by simpa using h2]
  simp only [if_pos (Int.natCast_nonneg i), Int.toNat_natCast, hl, hm, castI_I, r81 h]
  by_cases hac : a = c
  · rw [show (a != c) = false by simpa using hac, if_pos hac]
  · rw [show (a != c) = true by simpa using hac, if_neg hac]
    unfold cmpI
    by_cases h3 : a > c
    · rw [if_neg (show ¬ a < c by omega), if_pos h3, show decide (a > c) = true by simpa using h3]; rfl
    · rw [if_pos (show a < c by omega), show decide (a > c) = false by simpa using h3]; rfl
/-- Lists of two numbers, one after the other. -/
theorem r60 {K : Nat} (h : 5 ≤ K) (a b c d : Int) : run tab K 60 [.sl 3 [I a, I b], .sl 3 [I c, I d]] = some (I (orI [cmpI a c, cmpI b d])) := by
  obtain ⟨K, rfl⟩ := succK (show 1 ≤ K by omega)
  rw [eq60]; unfold sh60 tr60
  obtain ⟨k, hk⟩ : ∃ k, K = k + 3 := ⟨K - 3, by omega⟩
  have c0 : ∀ a : Int, cmpI a a = 0 := fun a => by unfold cmpI; rw [if_neg (by omega), if_neg (by omega)]
  have cn : ∀ a c : Int, a ≠ c → cmpI a c ≠ 0 := fun a c h => by unfold cmpI; split <;> (try split) <;> omega
  rw [show lp60_2 K K = lp60_2 K (k + 3) by rw [hk]]
  simp only [lp60_2]
  rw [show (0 : Int) = ((0 : Nat) : Int) from rfl, st60 (by omega) _ _ _ 0 a c rfl rfl, wrapN (by omega)]
  by_cases h1 : a = c
  · subst h1
    rw [if_pos rfl, st60 (by omega) _ _ _ 1 b d rfl rfl, wrapN (by omega)]
    by_cases h2 : b = d
    · subst h2
      rw [if_pos rfl]
      unfold tr60_2
      simp only [r81 (show 1 ≤ K by omega), castI_I]
      simp [orI, c0]; rfl
    · rw [if_neg h2]
      simp [orI, c0, cn b d h2]
  · rw [if_neg h1]
    simp [orI, cn a c h1]
end Go.Proofs.YtahifpeggdcamaaDoor

/- Machines are accepted, or have the first error: the model's check and the reference's. -/
namespace Go.Proofs.YtahifpeggdcamaaDoor
open Go.Dam
set_option linter.unusedVariables false
set_option linter.unusedSimpArgs false
structure St4 where
  f : Int
  i : Int
  o : Int
  t : Int
def eS (s : St4) : AV := .agg [I s.f, I s.i, I s.o, I s.t]
def steps (l : List St4) : List AV := l.map eS
theorem steps_get {l : List St4} {i : Nat} (h : i < l.length) : (steps l)[((i : Nat) : Int).toNat]? = some (eS l[i]) := by
  simp [steps, h]
theorem steps_len (l : List St4) : (steps l).length = l.length := by simp [steps]
theorem eS0 (s : St4) : cellN (eS s) 0 = I s.f := rfl
theorem eS1 (s : St4) : cellN (eS s) 1 = I s.i := rfl
theorem eS2 (s : St4) : cellN (eS s) 2 = I s.o := rfl
theorem eS3 (s : St4) : cellN (eS s) 3 = I s.t := rfl
def pairI (x : Int × Int) : AV := .tup [I x.1, I x.2]
def notUp (p : Option St4) (s : St4) : Bool := match p with
  | none => false
  | some p => decide (orI [cmpI p.f s.f, cmpI p.i s.i] ≥ 0)
def stepsErr (S N O : Int) : Nat → Option St4 → List St4 → Int × Int
  | _, _, [] => (0, 0)
  | i, p, s :: l => if within s.f 0 S then if within s.t 0 S then if within s.i 0 N then if within s.o 0 O then if notUp p s then ((i : Int), 14) else stepsErr S N O (i + 1) (some s) l
    else ((i : Int), 3) else ((i : Int), 3) else ((i : Int), 3) else ((i : Int), 3)
def prevOf (l : List St4) (i : Nat) : Option St4 := if i = 0 then none else l[i - 1]?
theorem prev_succ (l : List St4) (i : Nat) (h : i < l.length) : prevOf l (i + 1) = some l[i] := by simp [prevOf, h]
def w1 (n : Int) : Int := IntKind.i64.wrap (n - 1)

theorem l20 (K : Nat) (hK : 6 ≤ K) (S N O T : Int) (l : List St4) (hl : l.length ≤ 4611686018427387904) : ∀ (k i : Nat), l.length - i < k →
    lp20_6 K k (steps l) (l.length : Int) (i : Int) S N O T (steps l) = some (pairI (stepsErr (w1 S) (w1 N) (w1 O) i (prevOf l i) (l.drop i)))
  | 0, i, h => by omega
  | k + 1, i, h => by
    unfold lp20_6 tr20_6
    by_cases hi : i < l.length
    · rw [show decide ((i : Int) < (l.length : Int)) = true by simpa using hi, List.drop_eq_getElem_cons hi]
      simp only [if_pos (Int.natCast_nonneg i), steps_get hi, eS0, eS1, eS2, eS3, castI_I, r57 (show 1 ≤ K by omega), castB_B, stepsErr]
      cases h1 : within l[i].f 0 (IntKind.i64.wrap (S - 1)) with
      | false => simp [w1, h1, pairI]
      | true =>
      cases h2 : within l[i].t 0 (IntKind.i64.wrap (S - 1)) with
      | false => simp [w1, h1, h2, pairI]
      | true =>
      cases h3 : within l[i].i 0 (IntKind.i64.wrap (N - 1)) with
      | false => simp [w1, h1, h2, h3, pairI]
      | true =>
      cases h4 : within l[i].o 0 (IntKind.i64.wrap (O - 1)) with
      | false => simp [w1, h1, h2, h3, h4, pairI]
      | true =>
      have ih := l20 K hK S N O T l hl k (i + 1) (by omega)
      rw [prev_succ l i hi] at ih
      simp only [w1, h1, h2, h3, h4, Bool.not_true, if_true] at ih ⊢
      by_cases h0 : i = 0
      · subst h0
        rw [show decide (((0 : Nat) : Int) > 0) = false from rfl, wrapN (by omega), ih]
        simp [prevOf, notUp]
      · rw [show decide ((i : Int) > 0) = true by simpa using Nat.pos_of_ne_zero h0]
        have e1 : IntKind.i64.wrap ((i : Int) - 1) = ((i - 1 : Nat) : Int) := by rw [wrapI ⟨by omega, by omega⟩]; omega
        have hp : prevOf l i = some (l[i - 1]'(by omega)) := by simp [prevOf, h0, show i - 1 < l.length by omega]
        simp only [e1, if_pos (Int.natCast_nonneg (i - 1)), steps_get (show i - 1 < l.length by omega), eS0, eS1, castI_I, r59 (show 2 ≤ K by omega)]
        rw [show [I (cmpI l[i - 1].f l[i].f), I (cmpI l[i - 1].i l[i].i)] = ints [cmpI l[i - 1].f l[i].f, cmpI l[i - 1].i l[i].i] from rfl, r58 _ (by simp) (by simpa using (by omega : 4 ≤ K)), hp]
        simp only [castI_I, notUp]
        by_cases h5 : orI [cmpI l[i - 1].f l[i].f, cmpI l[i - 1].i l[i].i] ≥ 0
        · simp only [decide_eq_true h5, if_true]; rfl
        · simp only [decide_eq_false h5, Bool.false_eq_true, if_false]; rw [wrapN (by omega), ih]
    · rw [show decide ((i : Int) < (l.length : Int)) = false by simpa using hi, List.drop_eq_nil_of_le (by omega)]
      rfl
theorem l22 (K : Nat) (hK : 6 ≤ K) (S N O T : Int) (l : List St4) (hl : l.length ≤ 4611686018427387904) : ∀ (k i : Nat), l.length - i < k →
    lp22_6 K k (i : Int) S N O T (steps l) = some (pairI (stepsErr (w1 S) (w1 N) (w1 O) i (prevOf l i) (l.drop i)))
  | 0, i, h => by omega
  | k + 1, i, h => by
    unfold lp22_6 tr22_6
    rw [steps_len]
    by_cases hi : i < l.length
    · rw [show decide ((i : Int) < (l.length : Int)) = true by simpa using hi, List.drop_eq_getElem_cons hi]
      simp only [if_pos (Int.natCast_nonneg i), steps_get hi, eS0, eS1, eS2, eS3, castI_I, r29 (show 1 ≤ K by omega), castB_B, stepsErr]
      cases h1 : within l[i].f 0 (IntKind.i64.wrap (S - 1)) with
      | false => simp [w1, h1, pairI]
      | true =>
      cases h2 : within l[i].t 0 (IntKind.i64.wrap (S - 1)) with
      | false => simp [w1, h1, h2, pairI]
      | true =>
      cases h3 : within l[i].i 0 (IntKind.i64.wrap (N - 1)) with
      | false => simp [w1, h1, h2, h3, pairI]
      | true =>
      cases h4 : within l[i].o 0 (IntKind.i64.wrap (O - 1)) with
      | false => simp [w1, h1, h2, h3, h4, pairI]
      | true =>
      have ih := l22 K hK S N O T l hl k (i + 1) (by omega)
      rw [prev_succ l i hi] at ih
      simp only [w1, h1, h2, h3, h4, Bool.not_true, if_true] at ih ⊢
      by_cases h0 : i = 0
      · subst h0
        rw [show decide (((0 : Nat) : Int) > 0) = false from rfl, wrapN (by omega), ih]
        simp [prevOf, notUp]
      · rw [show decide ((i : Int) > 0) = true by simpa using Nat.pos_of_ne_zero h0]
        have e1 : IntKind.i64.wrap ((i : Int) - 1) = ((i - 1 : Nat) : Int) := by rw [wrapI ⟨by omega, by omega⟩]; omega
        have hp : prevOf l i = some (l[i - 1]'(by omega)) := by simp [prevOf, h0, show i - 1 < l.length by omega]
        simp only [e1, if_pos (Int.natCast_nonneg (i - 1)), steps_get (show i - 1 < l.length by omega), eS0, eS1, castI_I, r60 (show 5 ≤ K by omega)]
        rw [hp]
        simp only [castI_I, notUp]
        by_cases h5 : orI [cmpI l[i - 1].f l[i].f, cmpI l[i - 1].i l[i].i] ≥ 0
        · simp only [decide_eq_true h5, if_true]; rfl
        · simp only [decide_eq_false h5, Bool.false_eq_true, if_false]; rw [wrapN (by omega), ih]
    · rw [show decide ((i : Int) < (l.length : Int)) = false by simpa using hi, List.drop_eq_nil_of_le (by omega)]
      rfl

def machErr (S N O T : Int) (l : List St4) : Int × Int :=
  if within S 1 40 then if within N 1 8 then if within O 1 8 then if within T 0 (w1 S) then if (l.length : Int) > IntKind.i64.wrap (S * N) then (0, 2) else stepsErr (w1 S) (w1 N) (w1 O) 0 none l
    else (0, 3) else (0, 3) else (0, 3) else (0, 3)
def eM (S N O T : Int) (l : List St4) : AV := .agg [I S, I N, I O, I T, .sl 97 (steps l)]
theorem r20 {K : Nat} (S N O T : Int) (l : List St4) (hl : l.length ≤ 4611686018427387904) (h : l.length + 8 ≤ K) : run tab K 20 [eM S N O T l] = some (pairI (machErr S N O T l)) := by
  obtain ⟨K, rfl⟩ := succK (show 1 ≤ K by omega)
  unfold eM
  rw [eq20]; unfold sh20 tr20 machErr
  simp only [r57 (show 1 ≤ K by omega), castB_B, steps_len]
  cases h1 : within S 1 40 with
  | false => simp [pairI]
  | true =>
  cases h2 : within N 1 8 with
  | false => simp [pairI]
  | true =>
  cases h3 : within O 1 8 with
  | false => simp [pairI]
  | true =>
  cases h4 : within T 0 (IntKind.i64.wrap (S - 1)) with
  | false => simp [pairI, w1, h4]
  | true =>
  simp only [w1, h4, Bool.not_true, if_true]
  cases h5 : decide ((l.length : Int) > IntKind.i64.wrap (S * N)) with
  | true => rw [if_pos (by simpa using h5)]; rfl
  | false =>
    rw [if_neg (by simpa using h5)]
    have := l20 K (by omega) S N O T l hl K 0 (by omega)
    simpa [w1, prevOf] using this
theorem r22 {K : Nat} (S N O T : Int) (l : List St4) (hl : l.length ≤ 4611686018427387904) (h : l.length + 8 ≤ K) : run tab K 22 [eM S N O T l] = some (pairI (machErr S N O T l)) := by
  obtain ⟨K, rfl⟩ := succK (show 1 ≤ K by omega)
  unfold eM
  rw [eq22]; unfold sh22 tr22 machErr
  simp only [r29 (show 1 ≤ K by omega), castB_B, steps_len]
  cases h1 : within S 1 40 with
  | false => simp [pairI]
  | true =>
  cases h2 : within N 1 8 with
  | false => simp [pairI]
  | true =>
  cases h3 : within O 1 8 with
  | false => simp [pairI]
  | true =>
  cases h4 : within T 0 (IntKind.i64.wrap (S - 1)) with
  | false => simp [pairI, w1, h4]
  | true =>
  simp only [w1, h4, Bool.not_true, if_true]
  cases h5 : decide ((l.length : Int) > IntKind.i64.wrap (S * N)) with
  | true => rw [if_pos (by simpa using h5)]; rfl
  | false =>
    rw [if_neg (by simpa using h5)]
    have := l22 K (by omega) S N O T l hl K 0 (by omega)
    simpa [w1, prevOf] using this
theorem r21 {K : Nat} (S N O T : Int) (l : List St4) (hl : l.length * 32 ≤ maxBytes) (h : 1 ≤ K) : run tab K 21 [eM S N O T l] = some (eM S N O T l) := by
  obtain ⟨K, rfl⟩ := succK h
  unfold eM
  rw [eq21]; unfold sh21 tr21
  rw [if_pos (by simpa [steps_len] using hl)]; rfl
end Go.Proofs.YtahifpeggdcamaaDoor

/- Operands, tests, sets and moves are accepted, or have the first error: the model's check and the reference's. -/
namespace Go.Proofs.YtahifpeggdcamaaDoor
open Go.Dam
set_option linter.unusedVariables false
set_option linter.unusedSimpArgs false
theorem map_get {α : Type} (e : α → AV) {l : List α} {i : Nat} (h : i < l.length) : (l.map e)[((i : Nat) : Int).toNat]? = some (e l[i]) := by
  simp [h]

theorem castFn_fn {R : Type} (g : Nat) (c : List AV) (F : Nat → List AV → Option R) : castFn (.fn g c) F = F g c := rfl
/-- The first place where p holds, or -1. -/
def idx {α : Type} (p : α → Bool) : Nat → List α → Int
  | _, [] => -1
  | i, a :: l => if p a then (i : Int) else idx p (i + 1) l
theorem idx_any {α : Type} (p : α → Bool) : ∀ (l : List α) (i : Nat), decide (idx p i l ≥ 0) = l.any p
  | [], i => rfl
  | a :: l, i => by
    simp only [idx, List.any_cons]
    by_cases h : p a = true
    · simp [h]
    · have := idx_any p l (i + 1)
      simpa [h] using this
end Go.Proofs.YtahifpeggdcamaaDoor

/- Moves are accepted, or have the first error: the model's check and the reference's. -/
namespace Go.Proofs.YtahifpeggdcamaaDoor
open Go.Dam
set_option linter.unusedVariables false
set_option linter.unusedSimpArgs false
end Go.Proofs.YtahifpeggdcamaaDoor

/- Moves are accepted, or have the first error: the reference's check. -/
namespace Go.Proofs.YtahifpeggdcamaaDoor
open Go.Dam
set_option linter.unusedVariables false
set_option linter.unusedSimpArgs false
end Go.Proofs.YtahifpeggdcamaaDoor

/- Models are accepted, or have the first error: the model's check and the reference's. -/
namespace Go.Proofs.YtahifpeggdcamaaDoor
open Go.Dam
set_option linter.unusedVariables false
set_option linter.unusedSimpArgs false
end Go.Proofs.YtahifpeggdcamaaDoor

/- Models: checks as wholes; copies; signals. -/
namespace Go.Proofs.YtahifpeggdcamaaDoor
open Go.Dam
set_option linter.unusedVariables false
set_option linter.unusedSimpArgs false
theorem big {n b : Nat} (h : n * b ≤ maxBytes) (hb : 1 ≤ b) : n ≤ 4611686018427387904 := by
  have h1 : n * 1 ≤ n * b := Nat.mul_le_mul_left _ hb
  have h2 : maxBytes ≤ 4611686018427387904 := by decide
  omega
end Go.Proofs.YtahifpeggdcamaaDoor
