/- A part of an interpreter of the model's code that is proved sound, and of laws told by it: DamN2. -/
import Derived.Test.YtahifpeggdcamaaDoorPnH1
set_option linter.unusedVariables false
set_option linter.unusedSimpArgs false
/- The table of a machine; machines completed: the model's function and the reference's; the law ModelCompletes. -/
namespace Go.Proofs.YtahifpeggdcamaaDoor
open Go.Dam
set_option linter.unusedVariables false
set_option linter.unusedSimpArgs false
def ptr : Option St4 → AV
  | some s => .ref [I s.f, I s.i, I s.o, I s.t]
  | none => .sc (.pointer none)
def rowT (l : List St4) (N : Int) (f : Nat) : List AV := (List.range N.toNat).map fun (i : Nat) => ptr (stp l f i)
def tblT (l : List St4) (S N : Int) : List AV := (List.range S.toNat).map fun (f : Nat) => .sl 122 (rowT l N f)
def q4 (s : St4) : Q4 := (s.f, s.i, s.o, s.t)
theorem decAll_steps : ∀ l : List St4, decAll (steps l) = some (l.map q4)
  | [] => rfl
  | s :: l => by
    have := decAll_steps l
    unfold steps at *
    simp only [List.map_cons, decAll, this]
    rfl
theorem ptr_last {l : List St4} (h : l.Pairwise ltS) (f i : Nat) : ptrQ (lastQ (l.map q4) f i) = ptr (stp l f i) := by
  unfold lastQ
  rw [← List.map_reverse, List.find?_map]
  have e : ((fun x : Q4 => x.1 == (f : Int) && x.2.1 == (i : Int)) ∘ q4) = hit (f : Int) (i : Int) := rfl
  rw [e]
  cases hs : stp l f i with
  | none =>
    have : l.reverse.find? (hit (f : Int) (i : Int)) = none := by
      rw [List.find?_eq_none]
      intro x hx hh
      exact stp_none hs x (List.mem_reverse.1 hx) (hit_iff.1 hh)
    rw [this]; rfl
  | some s =>
    obtain ⟨a, b, c⟩ := stp_some hs
    cases hr : l.reverse.find? (hit (f : Int) (i : Int)) with
    | none =>
      rw [List.find?_eq_none] at hr
      exact absurd (hit_iff.2 ⟨b, c⟩) (hr s (List.mem_reverse.2 a))
    | some x =>
      have hx := List.find?_some hr
      rw [hit_iff] at hx
      have hm := List.mem_reverse.1 (List.mem_of_find?_eq_some hr)
      rw [up_unique h hm a (by omega) (by omega)]
      rfl
theorem r67 {K : Nat} (h : 1 ≤ K) {S N O T : Int} {l : List St4} (ok : MaOk S N O T l) : run tab K 67 [eM S N O T l] = some (.sl 121 (tblT l S N)) := by
  obtain ⟨K, rfl⟩ := succK h
  obtain ⟨s1, s2⟩ := ok.s
  obtain ⟨n1, n2⟩ := ok.n
  have hl := ok.len
  rw [show run tab (K + 1) 67 [eM S N O T l] = extTable 97 121 122 [eM S N O T l] from rfl]
  unfold extTable eM
  simp only []
  rw [show Nat.beq 97 97 = true from rfl, decide_eq_true (show 1 ≤ S by omega), decide_eq_true (show S ≤ 1000 by omega), decide_eq_true (show 1 ≤ N by omega), decide_eq_true (show N ≤ 1000 by omega), show Nat.ble (steps l).length 100000 = true by rw [steps_len]; simpa using (by omega : l.length ≤ 100000)]
  simp only [Bool.and_self, if_true, decAll_steps]
  have ha : (l.map q4).all (inTbl S N) = true := by
    rw [List.all_map, List.all_eq_true]
    intro x hx
    obtain ⟨m1, m2, m3, m4, m5, m6, m7, m8⟩ := ok.mem x hx
    simp [inTbl, q4, m1, m2, m5, m6]
  rw [if_pos ha]
  unfold tblT rowT
  refine congrArg (fun x => some (AV.sl 121 x)) ?_
  refine List.map_congr_left fun f _ => ?_
  refine congrArg (AV.sl 122) ?_
  exact List.map_congr_left fun i _ => ptr_last ok.up f i
theorem tblT_len (l : List St4) (S N : Int) : (tblT l S N).length = S.toNat := by simp [tblT]
theorem rowT_len (l : List St4) (N : Int) (f : Nat) : (rowT l N f).length = N.toNat := by simp [rowT]
theorem tblT_get {l : List St4} {S N : Int} {f : Nat} (h : f < S.toNat) : (tblT l S N)[f]? = some (.sl 122 (rowT l N f)) := by simp [tblT, h]
theorem rowT_get {l : List St4} {N : Int} {f i : Nat} (h : i < N.toNat) : (rowT l N f)[i]? = some (ptr (stp l f i)) := by simp [rowT, h]
theorem castP_ptr {R : Type} (x : Option St4) (F : AV → Option R) : castP (ptr x) F = F (ptr x) := by cases x <;> rfl
theorem castNil_ptr {R : Type} (x : Option St4) (F : Bool → Option R) : castNil (ptr x) F = F x.isNone := by cases x <;> rfl
theorem castRef_ptr {R : Type} (s : St4) (F : List AV → Option R) : castRef (ptr (some s)) F = F [I s.f, I s.i, I s.o, I s.t] := rfl
theorem castRef_ref {R : Type} (l : List AV) (F : List AV → Option R) : castRef (.ref l) F = F l := rfl
/-! ### completed -/
def cellS (l : List St4) (O : Int) (f i : Nat) : St4 := match stp l f i with
  | some s => s
  | none => ⟨f, i, O, f⟩
def rowS (l : List St4) (O : Int) (f : Nat) : Nat → Nat → List St4
  | 0, _ => []
  | c + 1, j => cellS l O f j :: rowS l O f c (j + 1)
def colS (l : List St4) (O : Int) (N : Nat) : Nat → Nat → List St4
  | 0, _ => []
  | c + 1, i => rowS l O i N 0 ++ colS l O N c (i + 1)
theorem rowS_len (l : List St4) (O : Int) (f : Nat) : ∀ c j, (rowS l O f c j).length = c
  | 0, _ => rfl
  | c + 1, j => by simp [rowS, rowS_len l O f c (j + 1)]
theorem colS_len (l : List St4) (O : Int) (N : Nat) : ∀ c i, (colS l O N c i).length = c * N
  | 0, _ => by simp [colS]
  | c + 1, i => by simp [colS, rowS_len, colS_len l O N c (i + 1), Nat.succ_mul]; omega
theorem l32b (K : Nat) (q6) (l : List St4) (N O : Int) (hN : N.toNat ≤ 8) (f : Nat) (tb : List AV) (y3 y8 y9 y11 y13 y14 y15 y16 : Int) (y12 y17 : List AV) (y18 y19 y20 y21 : Int) :
    ∀ (k j : Nat) (acc : List St4), N.toNat - j < k → j ≤ N.toNat → acc.length ≤ 1000 + j →
    lp32_9 K q6 k (f : Int) tb y3 (f : Int) (rowT l N f) (N.toNat : Int) (j : Int) y8 y9 O y11 y12 y13 y14 y15 y16 y17 y18 y19 y20 y21 (steps acc) =
      q6 tb y3 (IntKind.i64.wrap ((f : Int) + 1)) y8 y9 O y11 y12 y13 y14 y15 y16 y17 y18 y19 y20 y21 (steps (acc ++ rowS l O f (N.toNat - j) j))
  | 0, j, acc, h, _, _ => by omega
  | k + 1, j, acc, h, hj, ha => by
    unfold lp32_9 tr32_9
    by_cases hjn : j < N.toNat
    · rw [show decide ((j : Int) < (N.toNat : Int)) = true from decide_eq_true (Int.ofNat_lt.2 hjn)]
      have ih := l32b K q6 l N O hN f tb y3 y8 y9 y11 y13 y14 y15 y16 y12 y17 y18 y19 y20 y21 k (j + 1) (acc ++ [cellS l O f j]) (by omega) (by omega) (by simp; omega)
      have es : steps (acc ++ [cellS l O f j]) = steps acc ++ [eS (cellS l O f j)] := by simp [steps]
      have hq : ∀ x : AV, ((steps acc).length + ([x] : List AV).length) * 32 ≤ maxBytes := fun x => by
        have : (2000 : Nat) * 32 ≤ maxBytes := by decide
        simp only [steps_len, List.length_cons, List.length_nil]; omega
      have er : rowS l O f (N.toNat - j) j = cellS l O f j :: rowS l O f (N.toNat - (j + 1)) (j + 1) := by
        rw [show N.toNat - j = (N.toNat - (j + 1)) + 1 by omega]; rfl
      rw [es, ← wrapN (by omega)] at ih
      rw [er]
      simp only [if_pos (Int.natCast_nonneg j), Int.toNat_natCast, rowT_get hjn, castP_ptr, castNil_ptr]
      cases hs : stp l f j with
      | none =>
        have ec : cellS l O f j = ⟨f, j, O, f⟩ := by unfold cellS; rw [hs]
        rw [ec] at ih ⊢
        simp only [Option.isNone_none, if_pos (hq _)]
        refine Eq.trans ih ?_
        simp only [List.append_assoc, List.singleton_append]
      | some s =>
        have ec : cellS l O f j = s := by unfold cellS; rw [hs]
        rw [ec] at ih ⊢
        simp only [Option.isNone_some, castRef_ptr, castRef_ref, List.getD_cons_zero, List.getD_cons_succ, castI_I, if_pos (hq _)]
        refine Eq.trans ih ?_
        simp only [List.append_assoc, List.singleton_append]
    · rw [show decide ((j : Int) < (N.toNat : Int)) = false from decide_eq_false fun hh => hjn (Int.ofNat_lt.1 hh), show N.toNat - j = 0 by omega]
      simp [rowS]
theorem l32a (K : Nat) (l : List St4) (S N O : Int) (hS : S.toNat ≤ 40) (hN : N.toNat ≤ 8) (hK : N.toNat + 2 ≤ K) (y4 y5 y7 y9 y10 y11 y12 : Int) (y8 y13 : List AV) (y14 y15 y16 y17 : Int) :
    ∀ (k i : Nat) (acc : List St4), S.toNat - i < k → i ≤ S.toNat → acc.length ≤ i * 8 →
    lp32_6 K k (tblT l S N) (S.toNat : Int) (i : Int) y4 y5 O y7 y8 y9 y10 y11 y12 y13 y14 y15 y16 y17 (steps acc) =
      some (.tup [.agg [I y14, I y15, I y16, I y17, .sl 97 (steps (acc ++ colS l O N.toNat (S.toNat - i) i))], I 0])
  | 0, i, acc, h, _, _ => by omega
  | k + 1, i, acc, h, hi, ha => by
    unfold lp32_6 tr32_6
    by_cases his : i < S.toNat
    · rw [show decide ((i : Int) < (S.toNat : Int)) = true from decide_eq_true (Int.ofNat_lt.2 his), show S.toNat - i = (S.toNat - (i + 1)) + 1 by omega]
      simp only [if_pos (Int.natCast_nonneg i), Int.toNat_natCast, tblT_get his, castL_L, rowT_len]
      have hb : i * 8 ≤ 40 * 8 := Nat.mul_le_mul_right _ (by omega)
      rw [show (0 : Int) = ((0 : Nat) : Int) from rfl, l32b K (lp32_6 K k) l N O hN i (tblT l S N) (S.toNat : Int) y4 y5 y7 y9 y10 y11 y12 y8 y13 y14 y15 y16 y17 K 0 acc (by omega) (by omega) (by omega), wrapN (by omega)]
      rw [l32a K l S N O hS hN hK y4 y5 y7 y9 y10 y11 y12 y8 y13 y14 y15 y16 y17 k (i + 1) _ (by omega) (by omega) (by rw [List.length_append, rowS_len]; omega)]
      simp only [colS, Nat.sub_zero, List.append_assoc]
      rfl
    · rw [show decide ((i : Int) < (S.toNat : Int)) = false from decide_eq_false fun hh => his (Int.ofNat_lt.1 hh), show S.toNat - i = 0 by omega]
      simp [colS]
theorem l34b (K : Nat) (q3) (l : List St4) (S N O T : Int) (hl : l.length ≤ 320) (hN : N.toNat ≤ 8) (hN0 : 0 ≤ N) (hK : l.length + 2 ≤ K) (f : Nat) (y8 y9 y10 y11 : Int) (y12 : List AV) (y13 y14 y15 y16 : Int) :
    ∀ (k j : Nat) (acc : List St4), N.toNat - j < k → j ≤ N.toNat → acc.length ≤ 1000 + j →
    lp34_6 K q3 k (f : Int) (j : Int) S N O T (steps l) y8 y9 y10 y11 y12 y13 y14 y15 y16 (steps acc) =
      q3 (IntKind.i64.wrap ((f : Int) + 1)) S N O T (steps l) y8 y9 y10 y11 y12 y13 y14 y15 y16 (steps (acc ++ rowS l O f (N.toNat - j) j))
  | 0, j, acc, h, _, _ => by omega
  | k + 1, j, acc, h, hj, ha => by
    unfold lp34_6 tr34_6
    by_cases hjn : j < N.toNat
    · rw [show decide ((j : Int) < N) = true by simp; omega]
      have ih := l34b K q3 l S N O T hl hN hN0 hK f y8 y9 y10 y11 y12 y13 y14 y15 y16 k (j + 1) (acc ++ [cellS l O f j]) (by omega) (by omega) (by simp; omega)
      have es : steps (acc ++ [cellS l O f j]) = steps acc ++ [eS (cellS l O f j)] := by simp [steps]
      have hq : ∀ x : AV, ((steps acc).length + ([x] : List AV).length) * 32 ≤ maxBytes := fun x => by
        have : (2000 : Nat) * 32 ≤ maxBytes := by decide
        simp only [steps_len, List.length_cons, List.length_nil]; omega
      have er : rowS l O f (N.toNat - j) j = cellS l O f j :: rowS l O f (N.toNat - (j + 1)) (j + 1) := by
        rw [show N.toNat - j = (N.toNat - (j + 1)) + 1 by omega]; rfl
      have e68 := r68 (K := K) S N O T f j l (by omega) hK
      unfold eM at e68
      rw [es, ← wrapN (by omega)] at ih
      rw [er]
      simp only [e68, castI_I]
      cases hs : stp l f j with
      | none =>
        have ec : cellS l O f j = ⟨f, j, O, f⟩ := by unfold cellS; rw [hs]
        rw [ec] at ih ⊢
        rw [stepAt_none hs]
        simp only [bne_self_eq_false, if_pos (hq _)]
        refine Eq.trans ih ?_
        simp only [List.append_assoc, List.singleton_append]
      | some s =>
        obtain ⟨q, hq', h1, h2⟩ := stepAt_some 0 hs
        have h1' : stepAt l f j = (q : Int) := by unfold stepAt; rw [h1]; simp
        have ec : cellS l O f j = s := by unfold cellS; rw [hs]
        rw [ec] at ih ⊢
        rw [h1', show ((q : Int) != -1) = true by simp]
        simp only [if_pos (Int.natCast_nonneg q), steps_get hq', h2, eS0, eS1, eS2, eS3, castI_I, if_pos (hq _)]
        refine Eq.trans ih ?_
        simp only [List.append_assoc, List.singleton_append]
    · rw [show decide ((j : Int) < N) = false by simp; omega, show N.toNat - j = 0 by omega]
      simp [rowS]
theorem l34a (K : Nat) (l : List St4) (S N O T : Int) (hl : l.length ≤ 320) (hS : S.toNat ≤ 40) (hS0 : 0 ≤ S) (hN : N.toNat ≤ 8) (hN0 : 0 ≤ N) (hK : l.length + N.toNat + 2 ≤ K) (y8 y9 y10 y11 : Int) (y12 : List AV) (y13 y14 y15 y16 : Int) :
    ∀ (k i : Nat) (acc : List St4), S.toNat - i < k → i ≤ S.toNat → acc.length ≤ i * 8 →
    lp34_3 K k (i : Int) S N O T (steps l) y8 y9 y10 y11 y12 y13 y14 y15 y16 (steps acc) =
      some (.agg [I y13, I y14, I y15, I y16, .sl 97 (steps (acc ++ colS l O N.toNat (S.toNat - i) i))])
  | 0, i, acc, h, _, _ => by omega
  | k + 1, i, acc, h, hi, ha => by
    unfold lp34_3 tr34_3
    by_cases his : i < S.toNat
    · rw [show decide ((i : Int) < S) = true by simp; omega, show S.toNat - i = (S.toNat - (i + 1)) + 1 by omega]
      simp only []
      have hb : i * 8 ≤ 40 * 8 := Nat.mul_le_mul_right _ (by omega)
      rw [show (0 : Int) = ((0 : Nat) : Int) from rfl, l34b K (lp34_3 K k) l S N O T hl hN hN0 (by omega) i y8 y9 y10 y11 y12 y13 y14 y15 y16 K 0 acc (by omega) (by omega) (by omega), wrapN (by omega)]
      rw [l34a K l S N O T hl hS hS0 hN hN0 hK y8 y9 y10 y11 y12 y13 y14 y15 y16 k (i + 1) _ (by omega) (by omega) (by rw [List.length_append, rowS_len]; omega)]
      simp only [colS, Nat.sub_zero, List.append_assoc]
    · rw [show decide ((i : Int) < S) = false by simp; omega, show S.toNat - i = 0 by omega]
      simp [colS]
/-- A machine completed. -/
def complS (l : List St4) (S N O : Int) : List St4 := colS l O N.toNat S.toNat 0
def badM (e : Int) : AV := .tup [.agg [I 0, I 0, I 0, I 0, .sl 97 []], I e]
def comE (S N O T : Int) (l : List St4) : Int := if (machErr S N O T l).2 = 0 then if O < 8 then 0 else 32 else (machErr S N O T l).2
theorem r32 {K : Nat} (S N O T : Int) (l : List St4) (hl : l.length ≤ 4611686018427387904) (hK : l.length + 400 ≤ K) : run tab K 32 [eM S N O T l] = some (if comE S N O T l = 0 then .tup [eM S N (O + 1) T (complS l S N O), I 0] else badM (comE S N O T l)) := by
  obtain ⟨K, rfl⟩ := succK (show 1 ≤ K by omega)
  have e66 := r66 (K := K) S N O T l hl (by omega)
  have r2 : ∀ a b : Int, run tab K 61 [.sl 32 [I a, I b]] = some (I (orI [a, b])) := fun a b => r61 [a, b] (by simp) (by simp; omega)
  by_cases h0 : (machErr S N O T l).2 = 0
  · have ok := maOk_of h0
    have e67 := r67 (K := K) (by omega) ok
    obtain ⟨s1, s2⟩ := ok.s
    obtain ⟨n1, n2⟩ := ok.n
    obtain ⟨o1, o2⟩ := ok.o
    rw [h0] at e66
    by_cases h1 : O < 8
    · have hc : comE S N O T l = 0 := by unfold comE; rw [if_pos h0, if_pos h1]
      rw [hc, if_pos rfl]
      have := l32a K l S N O (by omega) (by omega) (by omega) S N T 0 0 0 0 (steps l) [] S N (IntKind.i64.wrap (O + 1)) T K 0 [] (by omega) (by omega) (by simp)
      rw [wrapI ⟨by omega, by omega⟩] at this
      unfold eM at *
      rw [eq32]; unfold sh32 tr32
      simp only [e66, castI_I, r62 (show 1 ≤ K by omega), r2]
      rw [decide_eq_true h1]
      simp only [if_true, orI, bne_self_eq_false, e67, castL_L, tblT_len]
      rw [wrapI ⟨by omega, by omega⟩]
      exact this
    · have hc : comE S N O T l = 32 := by unfold comE; rw [if_pos h0, if_neg h1]
      rw [hc, if_neg (by decide)]
      unfold eM at *
      rw [eq32]; unfold sh32 tr32
      simp only [e66, castI_I, r62 (show 1 ≤ K by omega), r2]
      rw [decide_eq_false h1]
      rfl
  · have hc : comE S N O T l = (machErr S N O T l).2 := by unfold comE; rw [if_neg h0]
    rw [hc, if_neg h0]
    unfold eM at *
    rw [eq32]; unfold sh32 tr32
    simp only [e66, castI_I, r62 (show 1 ≤ K by omega), r2]
    have : ∀ x, orI [(machErr S N O T l).2, x] = (machErr S N O T l).2 := fun x => by simp [orI, h0]
    rw [this, show ((machErr S N O T l).2 != 0) = true by simpa using h0]
    rfl
theorem r34 {K : Nat} {S N O T : Int} {l : List St4} (ok : MaOk S N O T l) (hK : 400 ≤ K) : run tab K 34 [eM S N O T l] = some (eM S N (O + 1) T (complS l S N O)) := by
  obtain ⟨K, rfl⟩ := succK (show 1 ≤ K by omega)
  obtain ⟨s1, s2⟩ := ok.s
  obtain ⟨n1, n2⟩ := ok.n
  obtain ⟨o1, o2⟩ := ok.o
  have hl := ok.len
  unfold eM
  rw [eq34]; unfold sh34 tr34
  have := l34a K l S N O T hl (by omega) (by omega) (by omega) (by omega) (by omega) 0 0 0 0 [] S N (IntKind.i64.wrap (O + 1)) T K 0 [] (by omega) (by omega) (by simp)
  rw [wrapI ⟨by omega, by omega⟩] at this ⊢
  exact this
theorem complS_len (l : List St4) (S N O : Int) : (complS l S N O).length = S.toNat * N.toNat := colS_len l O N.toNat S.toNat 0
/-- The law ModelCompletes. -/
theorem r6 {K : Nat} (S N O T : Int) (l : List St4) (hl : l.length * 32 ≤ maxBytes) (hK : l.length + 500 ≤ K) (e13 : run tab K 13 [] = some (B true)) : run tab (K + 1) 6 [eM S N O T l] = some (B true) := by
  have hb := big hl (by omega)
  have e21 := r21 (K := K) S N O T l hl (by omega)
  have e32 := r32 (K := K) S N O T l hb (by omega)
  have e33 := r33 (K := K) S N O T l hb (by omega)
  have b0 : run tab K 18 [.agg [I 0, I 0, I 0, I 0, .sl 97 []], .agg [I 0, I 0, I 0, I 0, .sl 97 []]] = some (B true) := by
    have := r18 (K := K) 0 0 0 0 0 0 0 0 [] [] (by simp) (by simp; omega)
    simpa [eM, steps] using this
  have c0 : ∀ e, compN (badM e) 0 = .agg [I 0, I 0, I 0, I 0, .sl 97 []] := fun _ => rfl
  have c1 : ∀ e, compN (badM e) 1 = I e := fun _ => rfl
  by_cases h0 : (machErr S N O T l).2 = 0
  · have ok := maOk_of h0
    have e34 := r34 (K := K) ok (by omega)
    obtain ⟨s1, s2⟩ := ok.s
    obtain ⟨n1, n2⟩ := ok.n
    obtain ⟨o1, o2⟩ := ok.o
    have hcl := complS_len l S N O
    have hm : S.toNat * N.toNat ≤ 40 * 8 := Nat.mul_le_mul (by omega) (by omega)
    have d0 := r18 (K := K) S N (O + 1) T S N (O + 1) T (complS l S N O) (complS l S N O) (by omega) (by omega)
    simp only [and_self, decide_true] at d0
    by_cases h8 : O = 8
    · have hc : comE S N O T l = 32 := by unfold comE; rw [if_pos h0, if_neg (by omega)]
      rw [hc, if_neg (by decide)] at e32
      unfold eM at *
      rw [eq6]; unfold sh6 tr6
      simp only [e13, castB_B, Bool.not_true, e21, cellN_agg, List.getD_cons_zero, List.getD_cons_succ, castI_I, castL_L, e32, c0, c1, e33, h0]
      rw [h8]
      simp only [beq_self_eq_true, b0, castB_B]
    · have hc : comE S N O T l = 0 := by unfold comE; rw [if_pos h0, if_pos (by omega)]
      rw [hc, if_pos rfl] at e32
      unfold eM at *
      rw [eq6]; unfold sh6 tr6
      simp only [e13, castB_B, Bool.not_true, e21, cellN_agg, List.getD_cons_zero, List.getD_cons_succ, castI_I, castL_L, e32, comp20, comp21, e33, h0]
      rw [show (O == 8) = false by simpa using h8]
      simp only [beq_self_eq_true, e34, cellN_agg, List.getD_cons_zero, List.getD_cons_succ, castI_I, castL_L, d0, castB_B]
  · have hc : comE S N O T l = (machErr S N O T l).2 := by unfold comE; rw [if_neg h0]
    rw [hc, if_neg h0] at e32
    unfold eM at *
    rw [eq6]; unfold sh6 tr6
    simp only [e13, castB_B, Bool.not_true, e21, cellN_agg, List.getD_cons_zero, List.getD_cons_succ, castI_I, castL_L, e32, c0, c1, e33]
    rw [show ((machErr S N O T l).2 == 0) = false by simpa using h0]
    simp only [beq_self_eq_true, b0, castB_B]
end Go.Proofs.YtahifpeggdcamaaDoor
