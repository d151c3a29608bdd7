/- A part of an interpreter of the model's code that is proved sound, and of laws told by it: DamQ6. -/
import Derived.Test.YtahifpeggdcamaaDoorPpJ5
set_option linter.unusedVariables false
set_option linter.unusedSimpArgs false
/- The minimal machine: what the model's function tells. -/
namespace Go.Proofs.YtahifpeggdcamaaDoor
open Go.Dam
set_option linter.unusedVariables false
set_option linter.unusedSimpArgs false
def bOf (bl : List Int) (s : Int) : Int := bl.getD s.toNat 0
def alB (bl : List Int) (k s : Int) : Bool := decide (bOf bl k = bOf bl s)
theorem mget_ix (bl : List Int) (kept : List Int) (s : Int) : (mget (I (bOf bl s)) (mapK (bOf bl) kept 0)).getD (I 0) = I (ixV (alB bl) kept s) := by
  rw [mget_mapK]
  unfold ixV
  show (Option.map _ (ixK (alB bl) kept s)).getD (I 0) = _
  cases ixK (alB bl) kept s with
  | none => rfl
  | some j => simp
theorem mget_is (bl : List Int) (kept : List Int) (s : Int) : (mget (I (bOf bl s)) (mapK (bOf bl) kept 0)).isSome = (ixK (alB bl) kept s).isSome := by
  rw [mget_mapK]
  show (Option.map _ (ixK (alB bl) kept s)).isSome = _
  cases ixK (alB bl) kept s <;> rfl
theorem r75 {K : Nat} (h : 1 ≤ K) {S : Int} (h1 : 1 ≤ S) (h2 : S ≤ 40) : run tab K 75 [.sl 3 [I (-1)], I S] = some (.sl 3 (ints (List.replicate S.toNat (-1)))) := by
  obtain ⟨K, rfl⟩ := succK h
  rw [show run tab (K + 1) 75 [.sl 3 [I (-1)], I S] = extRepeat 3 [.sl 3 [I (-1)], I S] from rfl]
  unfold extRepeat
  simp only []
  rw [show Nat.beq 3 3 = true from rfl, decide_eq_true h1, decide_eq_true (show S ≤ 1000 by omega)]
  simp [ints]
section
variable {S N O T : Int} {l : List St4}
theorem l41e (K : Nat) (q9) (q18) (bl : List Int) (hb : bl.length = S.toNat) (ord : List Int) (ho : ∀ s ∈ ord, 0 ≤ s ∧ s < S) (hol : ord.length ≤ 40) (kept : List Int) (z1 z2 z3 z4 : Int) (zl : List AV) (o1 o2 o3 o4 : Int) (ol : List AV) :
    ∀ (k i : Nat) (like : List Int), ord.length - i < k → like.length = S.toNat →
    lp41_29 K q9 q18 k (ints bl) (ints ord) (ints like) (ints ord) (ord.length : Int) (i : Int) z1 z2 z3 z4 zl (mapK (bOf bl) kept 0) o1 o2 o3 o4 ol =
      some (.tup [.agg [I o1, I o2, I o3, I o4, .sl 97 ol], .sl 3 (ints (toF (alB bl) kept (ord.drop i) like)), I 0])
  | 0, i, like, h, _ => by omega
  | k + 1, i, like, h, hl => by
    unfold lp41_29 tr41_29
    by_cases hi : i < ord.length
    · obtain ⟨s1, s2⟩ := ho _ (List.getElem_mem hi)
      have gb : (ints bl)[ord[i].toNat]? = some (I (bOf bl ord[i])) := ints_get' (by omega)
      have gl : (ints like)[ord[i].toNat]? = some (I (like.getD ord[i].toNat 0)) := ints_get' (by omega)
      have ih := l41e K q9 q18 bl hb ord ho hol kept z1 z2 z3 z4 zl o1 o2 o3 o4 ol k (i + 1) (like.set ord[i].toNat (ixV (alB bl) kept ord[i])) (by omega) (by simpa using hl)
      rw [← wrapN (by omega)] at ih
      rw [show decide ((i : Int) < (ord.length : Int)) = true by simpa using hi, List.drop_eq_getElem_cons hi]
      simp only [if_pos (Int.natCast_nonneg i), ints_get hi, castI_I, if_pos s1, gb, gl, mget_ix, ints_set, if_pos (show ord[i].toNat < (ints like).length by rw [ints_len]; omega), toF]
      exact ih
    · rw [show decide ((i : Int) < (ord.length : Int)) = false by simpa using hi, List.drop_eq_nil_of_le (by omega)]
      rfl
theorem l41d (K : Nat) (q9) (q18) (ok : MaOk S N O T l) (bl : List Int) (hb : bl.length = S.toNat) (kept : List Int) (p : Int) (i : Nat) (hi : i ≤ 40) (st of ofc : List AV) (len z1 z2 z3 z4 : Int) (zl : List AV) (a1 a2 a3 a4 : Int) (al : List AV) (o1 o2 o3 o4 : Int) (hp : 0 ≤ p ∧ p < S) :
    ∀ (k n : Nat) (acc : List St4), N.toNat - n < k → n ≤ N.toNat → acc.length ≤ i * 8 + n →
    lp41_21 K q9 q18 k (ints bl) (tblT l S N) st of (i : Int) ofc len (i : Int) (rowT l N p.toNat) N (n : Int) a1 a2 a3 a4 al z1 z2 z3 z4 zl (mapK (bOf bl) kept 0) o1 o2 o3 o4 (steps acc) =
      q18 (ints bl) (tblT l S N) st of ofc len (IntKind.i64.wrap ((i : Int) + 1)) a1 a2 a3 a4 al z1 z2 z3 z4 zl (mapK (bOf bl) kept 0) o1 o2 o3 o4 (steps (acc ++ rowK (alB bl) l kept i p (N.toNat - n) n))
  | 0, n, acc, h, _, _ => by omega
  | k + 1, n, acc, h, hn, ha => by
    obtain ⟨n1, n2⟩ := ok.n
    obtain ⟨s1, s2⟩ := ok.s
    unfold lp41_21 tr41_21
    by_cases hnn : n < N.toNat
    · have g3 : (rowT l N p.toNat)[((n : Nat) : Int).toNat]? = some (ptr (stp l p n)) := by
        rw [Int.toNat_natCast, rowT_get hnn, show ((p.toNat : Nat) : Int) = p by omega]
      rw [show decide ((n : Int) < N) = true by simp; omega, show N.toNat - n = (N.toNat - (n + 1)) + 1 by omega]
      simp only [if_pos (Int.natCast_nonneg n), g3, castP_ptr, castNil_ptr, rowK]
      unfold stpK
      cases h1 : stp l p n with
      | none =>
        have ih := l41d K q9 q18 ok bl hb kept p i hi st of ofc len z1 z2 z3 z4 zl a1 a2 a3 a4 al o1 o2 o3 o4 hp k (n + 1) acc (by omega) (by omega) (by omega)
        rw [← wrapN (show n ≤ 4611686018427387904 by omega)] at ih
        simp only [Option.isNone_none, Bool.not_true, List.nil_append]
        exact ih
      | some s =>
        have m1 := ok.mem s (stp_some h1).1
        have gb : (ints bl)[s.t.toNat]? = some (I (bOf bl s.t)) := ints_get' (by omega)
        have ih := l41d K q9 q18 ok bl hb kept p i hi st of ofc len z1 z2 z3 z4 zl a1 a2 a3 a4 al o1 o2 o3 o4 hp k (n + 1) (acc ++ [⟨i, n, s.o, ixV (alB bl) kept s.t⟩]) (by omega) (by omega) (by simp; omega)
        rw [← wrapN (show n ≤ 4611686018427387904 by omega)] at ih
        have q : ∀ u : AV, ((steps acc).length + ([u] : List AV).length) * 32 ≤ maxBytes := fun u => by
          have : (2000 : Nat) * 32 ≤ maxBytes := by decide
          simp only [steps_len, List.length_cons, List.length_nil]; omega
        simp only [Option.isNone_some, Bool.not_false, castRef_ptr, castRef_ref, List.getD_cons_zero, List.getD_cons_succ, castI_I, if_pos m1.2.2.1, gb, mget_ix, if_pos (q _)]
        rw [List.append_assoc] at ih
        refine Eq.trans ?_ ih
        simp [steps, eS]
    · rw [show decide ((n : Int) < N) = false by simp; omega, show N.toNat - n = 0 by omega]
      simp [rowK]
theorem l41c (K : Nat) (hK : 2000 ≤ K) (q9) (ok : MaOk S N O T l) (bl : List Int) (hb : bl.length = S.toNat) (ord : List Int) (ho : ∀ s ∈ ord, 0 ≤ s ∧ s < S) (hol : ord.length ≤ 40) (kept : List Int) (hk : ∀ s ∈ kept, 0 ≤ s ∧ s < S) (hkl : kept.length ≤ 40) (z1 z2 z3 z4 : Int) (zl : List AV) (a2 a3 a4 : Int) (al : List AV) (o1 o2 o3 o4 : Int) :
    ∀ (k i : Nat) (acc : List St4), kept.length - i < k → i ≤ kept.length → acc.length ≤ i * 8 →
    lp41_18 K q9 k (ints bl) (tblT l S N) (ints ord) (ints kept) (ints kept) (kept.length : Int) (i : Int) S a2 a3 a4 al z1 z2 z3 z4 zl (mapK (bOf bl) kept 0) o1 o2 o3 o4 (steps acc) =
      some (.tup [.agg [I o1, I o2, I o3, I o4, .sl 97 (steps (acc ++ colK (alB bl) l N.toNat kept (kept.drop i) i))], .sl 3 (ints (toF (alB bl) kept ord (List.replicate S.toNat (-1)))), I 0])
  | 0, i, acc, h, _, _ => by omega
  | k + 1, i, acc, h, hi, ha => by
    obtain ⟨n1, n2⟩ := ok.n
    obtain ⟨s1, s2⟩ := ok.s
    unfold lp41_18 tr41_18
    by_cases hii : i < kept.length
    · have hr := hk _ (List.getElem_mem hii)
      have g1 : (tblT l S N)[kept[i].toNat]? = some (.sl 122 (rowT l N kept[i].toNat)) := tblT_get (by omega)
      have hd := l41d K q9 (lp41_18 K q9 k) ok bl hb kept kept[i] i (by omega) (ints ord) (ints kept) (ints kept) (kept.length : Int) z1 z2 z3 z4 zl S a2 a3 a4 al o1 o2 o3 o4 hr K 0 acc (by omega) (by omega) (by omega)
      rw [show decide ((i : Int) < (kept.length : Int)) = true by simpa using hii, List.drop_eq_getElem_cons hii]
      simp only [if_pos (Int.natCast_nonneg i), ints_get hii, castI_I, if_pos hr.1, g1, castL_L, colK]
      rw [show ((rowT l N kept[i].toNat).length : Int) = N by unfold rowT; simp; omega]
      refine Eq.trans hd ?_
      rw [Nat.sub_zero, wrapN (by omega)]
      have hrl := rowK_len (alB bl) l kept i kept[i] N.toNat 0
      have ih := l41c K hK q9 ok bl hb ord ho hol kept hk hkl z1 z2 z3 z4 zl a2 a3 a4 al o1 o2 o3 o4 k (i + 1) (acc ++ rowK (alB bl) l kept i kept[i] N.toNat 0) (by omega) (by omega) (by rw [List.length_append]; omega)
      rw [List.append_assoc] at ih
      exact ih
    · rw [show decide ((i : Int) < (kept.length : Int)) = false by simpa using hii, List.drop_eq_nil_of_le (by omega)]
      simp only [r75 (K := K) (by omega) s1 s2, castL_L, colK, List.append_nil, ints_len]
      exact l41e K q9 (lp41_18 K q9 k) bl hb ord ho hol kept z1 z2 z3 z4 zl o1 o2 o3 o4 (steps acc) K 0 (List.replicate S.toNat (-1)) (by omega) (by simp)
theorem l41a (K : Nat) (hK : 2000 ≤ K) (ok : MaOk S N O T l) (bl : List Int) (hb : bl.length = S.toNat) (ord : List Int) (ho : ∀ s ∈ ord, 0 ≤ s ∧ s < S) (hol : ord.length ≤ 40) (z1 z2 z3 z4 : Int) (zl : List AV) (al : List AV) (a3 a4 : Int) :
    ∀ (k i : Nat) (kept : List Int), ord.length - i < k → i ≤ ord.length → kept.length ≤ i → (∀ s ∈ kept, 0 ≤ s ∧ s < S) →
    lp41_9 K k (ints bl) (tblT l S N) (ints ord) (ints kept) (ints ord) (ord.length : Int) (i : Int) S N a3 a4 al z1 z2 z3 z4 zl (mapK (bOf bl) kept 0) =
      some (.tup [.agg [I (keptF (alB bl) (ord.drop i) kept).length, I N, I a3, I 0, .sl 97 (steps (colK (alB bl) l N.toNat (keptF (alB bl) (ord.drop i) kept) (keptF (alB bl) (ord.drop i) kept) 0))],
        .sl 3 (ints (toF (alB bl) (keptF (alB bl) (ord.drop i) kept) ord (List.replicate S.toNat (-1)))), I 0])
  | 0, i, kept, h, _, _, _ => by omega
  | k + 1, i, kept, h, hi, hk, hkr => by
    obtain ⟨s1, s2⟩ := ok.s
    unfold lp41_9 tr41_9
    by_cases hii : i < ord.length
    · obtain ⟨r1, r2⟩ := ho _ (List.getElem_mem hii)
      have gb : (ints bl)[ord[i].toNat]? = some (I (bOf bl ord[i])) := ints_get' (by omega)
      rw [show decide ((i : Int) < (ord.length : Int)) = true by simpa using hii, List.drop_eq_getElem_cons hii]
      simp only [if_pos (Int.natCast_nonneg i), ints_get hii, castI_I, if_pos r1, gb, mget_ix, mget_is]
      have q : (kept.length + ([I ord[i]] : List AV).length) * 8 ≤ maxBytes := by
        have : (2000 : Nat) * 8 ≤ maxBytes := by decide
        simp only [List.length_cons, List.length_nil]; omega
      rcases Option.eq_none_or_eq_some (ixK (alB bl) kept ord[i]) with hf | ⟨j, hf⟩
      · have e : keptF (alB bl) (ord[i] :: ord.drop (i + 1)) kept = keptF (alB bl) (ord.drop (i + 1)) (kept ++ [ord[i]]) := by
          show (match ixK (alB bl) kept ord[i] with | some _ => _ | none => _) = _
          rw [hf]
        rw [hf, e]
        have ih := l41a K hK ok bl hb ord ho hol z1 z2 z3 z4 zl al a3 a4 k (i + 1) (kept ++ [ord[i]]) (by omega) (by omega) (by simp; omega) (fun s hs => by
          rcases List.mem_append.1 hs with hs | hs
          · exact hkr s hs
          · rw [List.mem_singleton.1 hs]; exact ⟨r1, r2⟩)
        rw [← wrapN (by omega), mapK_snoc, ← ints_snoc, Nat.zero_add] at ih
        have hm := mset_mapK (bOf bl) ord[i] (kept.length : Int) kept 0 hf
        simp only [Option.isSome_none, Bool.not_false, if_pos q, ints_len, hm]
        exact ih
      · have e : keptF (alB bl) (ord[i] :: ord.drop (i + 1)) kept = keptF (alB bl) (ord.drop (i + 1)) kept := by
          show (match ixK (alB bl) kept ord[i] with | some _ => _ | none => _) = _
          rw [hf]
        rw [hf, e]
        have ih := l41a K hK ok bl hb ord ho hol z1 z2 z3 z4 zl al a3 a4 k (i + 1) kept (by omega) (by omega) (by omega) hkr
        rw [← wrapN (by omega)] at ih
        simp only [Option.isSome_some, Bool.not_true]
        exact ih
    · rw [show decide ((i : Int) < (ord.length : Int)) = false by simpa using hii, List.drop_eq_nil_of_le (by omega)]
      simp only [ints_len, keptF]
      have hc := l41c K hK (lp41_9 K k) ok bl hb ord ho hol kept hkr (by omega) z1 z2 z3 z4 zl N a3 a4 al (kept.length : Int) N a3 0 K 0 [] (by omega) (by omega) (by simp)
      rw [List.drop_zero, List.nil_append] at hc
      exact hc
def minT (S N O T : Int) (l : List St4) : AV := if (machErr S N O T l).2 = 0 then .tup [eM (keptM l S N T).length N O 0 (stepsM l S N T), .sl 3 (ints (toM l S N T)), I 0] else .tup [eM 0 0 0 0 [], .sl 3 [], I (machErr S N O T l).2]
theorem r41 {K : Nat} (S N O T : Int) (l : List St4) (hl : l.length ≤ 4611686018427387904) (hK : l.length + 2100 ≤ K) : run tab K 41 [eM S N O T l] = some (minT S N O T l) := by
  obtain ⟨K, rfl⟩ := succK (show 1 ≤ K by omega)
  have e66 := r66 (K := K) S N O T l hl (by omega)
  unfold minT
  by_cases h0 : (machErr S N O T l).2 = 0
  · rw [if_pos h0]
    have ok := maOk_of h0
    have e73 := r73 (K := K) ok (by omega)
    have e67 := r67 (K := K) (by omega) ok
    have e74 := r74 (K := K) ok (by omega)
    obtain ⟨c, hbl⟩ := blocks_len ok
    obtain ⟨_, o1, o2, _, _⟩ := ord_facts ok
    have ha := l41a K (by omega) ok (blocksM l S.toNat N.toNat) hbl.len (ordM l N T) o1 o2 0 0 0 0 [] (steps l) O T K 0 [] (by omega) (by omega) (by simp) (by simp)
    rw [List.drop_zero] at ha
    unfold eM at *
    rw [eq41]; unfold sh41 tr41
    rw [e66, h0, e73, e67, e74]
    simp only [castI_I, castL_L, comp20, comp21]
    rw [show ((0 : Int) != 0) = false from rfl]
    simp only [ints_len]
    exact ha
  · rw [if_neg h0]
    unfold eM at *
    rw [eq41]; unfold sh41 tr41
    rw [e66]
    simp only [castI_I]
    rw [show ((machErr S N O T l).2 != 0) = true by simpa using h0]
    rfl
end
end Go.Proofs.YtahifpeggdcamaaDoor
