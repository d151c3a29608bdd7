/- A part of an interpreter of the model's code that is proved sound, and of laws told by it: DamQ4. -/
import Derived.Test.YtahifpeggdcamaaDoorPpJ3
set_option linter.unusedVariables false
set_option linter.unusedSimpArgs false
/- The blocks of states: what the model's function tells. -/
namespace Go.Proofs.YtahifpeggdcamaaDoor
open Go.Dam
set_option linter.unusedVariables false
set_option linter.unusedSimpArgs false
theorem r94 {K : Nat} (x y : List Int) (r : List AV) (hx : x.length ≤ 4611686018427387904) (hy : y.length ≤ 4611686018427387904) (hK : x.length + 3 ≤ K) : run tab K 94 ([.sl 3 (ints x)] ++ [.ref (.sl 3 (ints y) :: r)]) = some (B (decide (x = y))) := by
  obtain ⟨K, rfl⟩ := succK (show 1 ≤ K by omega)
  show run tab (K + 1) 94 [.sl 3 (ints x), .ref (.sl 3 (ints y) :: r)] = _
  rw [eq94]; unfold sh94 tr94
  simp only [castRef_ref, List.getD_cons_zero, castL_L, r53 x y hx hy (show x.length + 2 ≤ K by omega), castB_B]
theorem l51c (K : Nat) (y : List Int) (r : List AV) (l : List (List Int)) (hl : l.length ≤ 4611686018427387904) (hy : y.length ≤ 4611686018427387904) (hx : ∀ x ∈ l, x.length ≤ 4611686018427387904 ∧ x.length + 3 ≤ K) : ∀ (k i : Nat), l.length - i < k →
    lp51_2 K k (l.map eRow) (.fn 94 [.ref (.sl 3 (ints y) :: r)]) (l.length : Int) (i : Int) = some (I (idx (fun x => decide (x = y)) i (l.drop i)))
  | 0, i, h => by omega
  | k + 1, i, h => by
    unfold lp51_2 tr51_2
    by_cases hi : i < l.length
    · obtain ⟨x1, x2⟩ := hx _ (List.getElem_mem hi)
      rw [show decide ((i : Int) < (l.length : Int)) = true by simpa using hi, List.drop_eq_getElem_cons hi]
      simp only [if_pos (Int.natCast_nonneg i), row_get hi, idx, castL_L, castB_B, castFn_fn, r94 l[i] y r x1 hy x2]
      by_cases h0 : l[i] = y
      · simp only [decide_eq_true h0, if_true]
      · have ih := l51c K y r l hl hy hx k (i + 1) (by omega)
        rw [← wrapN (by omega)] at ih
        simp only [decide_eq_false h0, Bool.false_eq_true, if_false]
        exact ih
    · rw [show decide ((i : Int) < (l.length : Int)) = false by simpa using hi, List.drop_eq_nil_of_le (by omega)]
      rfl
theorem r51c {K : Nat} (y : List Int) (r : List AV) (l : List (List Int)) (hl : l.length ≤ 4611686018427387904) (hy : y.length ≤ 4611686018427387904) (hx : ∀ x ∈ l, x.length ≤ 4611686018427387904 ∧ x.length + 4 ≤ K) (hK : l.length + 2 ≤ K) :
    run tab K 51 [.sl 22 (l.map eRow), .fn 94 [.ref (.sl 3 (ints y) :: r)]] = some (I (idx (fun x => decide (x = y)) 0 l)) := by
  obtain ⟨K, rfl⟩ := succK (show 1 ≤ K by omega)
  rw [eq51]; unfold sh51 tr51
  rw [List.length_map]
  exact l51c K y r l hl hy (fun x hx' => ⟨(hx x hx').1, by have := (hx x hx').2; omega⟩) K 0 (by omega)
theorem idx_find {α : Type} (p : α → Bool) : ∀ (l : List α) (i : Nat), idx p i l = match l.findIdx? p with | some k => ((i + k : Nat) : Int) | none => -1
  | [], i => rfl
  | a :: l, i => by
    unfold idx
    rw [List.findIdx?_cons]
    cases h : p a with
    | true => simp
    | false =>
      simp only [Bool.false_eq_true, if_false]
      rw [idx_find p l (i + 1)]
      cases l.findIdx? p with
      | none => rfl
      | some k => simp only [Option.map_some]; congr 1; omega
def arr (S : Nat) (nx : List Int) : List Int := nx ++ List.replicate (S - nx.length) 0
theorem arr_len {S : Nat} {nx : List Int} (h : nx.length ≤ S) : (arr S nx).length = S := by unfold arr; simp; omega
theorem arr_set {S : Nat} {nx : List Int} (h : nx.length < S) (v : Int) : (arr S nx).set nx.length v = arr S (nx ++ [v]) := by
  unfold arr
  rw [List.set_append_right _ _ (Nat.le_refl _), Nat.sub_self, show S - nx.length = (S - (nx ++ [v]).length) + 1 by simp; omega, List.replicate_succ, List.set_cons_zero]
  simp
theorem arr_full {S : Nat} {nx : List Int} (h : nx.length = S) : arr S nx = nx := by unfold arr; simp [h]
theorem rnd_some {key : Nat → List Int} {c i : Nat} {ks : List (List Int)} {nx : List Int} {k : Nat} (h : (ks.findIdx? fun o => decide (o = key i)) = some k) : rnd key (c + 1) i ks nx = rnd key c (i + 1) ks (nx ++ [(k : Int)]) := by
  show (match ks.findIdx? fun o => decide (o = key i) with | some k => _ | none => _) = _
  rw [h]
theorem rnd_none {key : Nat → List Int} {c i : Nat} {ks : List (List Int)} {nx : List Int} (h : (ks.findIdx? fun o => decide (o = key i)) = none) : rnd key (c + 1) i ks nx = rnd key c (i + 1) (ks ++ [key i]) (nx ++ [(ks.length : Int)]) := by
  show (match ks.findIdx? fun o => decide (o = key i) with | some k => _ | none => _) = _
  rw [h]
section
variable {S N O T : Int} {l : List St4}
theorem l73c (K : Nat) (hK : 2000 ≤ K) (q4) (q7) (ok : MaOk S N O T l) (bl : List Int) (hb : bl.length = S.toNat) (cnt : Int) (ks : List (List Int)) (hks : ∀ x ∈ ks, x.length ≤ 100) (hkl : ks.length ≤ 40) (nx : List Int) (i : Nat) (hnx : nx.length = i) (hi : i < S.toNat) (a b c d : Int) (e : List AV) :
    ∀ (k n : Nat), N.toNat - n < k → n ≤ N.toNat →
    lp73_11 K q4 q7 k (tblT l S N) (ints bl) cnt (ks.map eRow) (ints (arr S.toNat nx)) (i : Int) (tblT l S N) S (i : Int) (rowT l N i) N (n : Int) a b c d e (ints (bl.getD i 0 :: keyT l bl i n)) =
      match ks.findIdx? fun o => decide (o = keyK l N.toNat bl i) with
      | some k => q7 (tblT l S N) (ints bl) cnt (ks.map eRow) (ints (arr S.toNat (nx ++ [(k : Int)]))) (tblT l S N) S (IntKind.i64.wrap ((i : Int) + 1)) a b c d e
      | none => q7 (tblT l S N) (ints bl) cnt ((ks ++ [keyK l N.toNat bl i]).map eRow) (ints (arr S.toNat (nx ++ [(ks.length : Int)]))) (tblT l S N) S (IntKind.i64.wrap ((i : Int) + 1)) a b c d e
  | 0, n, h, _ => by omega
  | k + 1, n, h, hn => by
    obtain ⟨n1, n2⟩ := ok.n
    obtain ⟨s1, s2⟩ := ok.s
    unfold lp73_11 tr73_11
    by_cases hnn : n < N.toNat
    · have g3 : (rowT l N i)[((n : Nat) : Int).toNat]? = some (ptr (stp l i n)) := by
        rw [Int.toNat_natCast, rowT_get hnn]
      have ih := l73c K hK q4 q7 ok bl hb cnt ks hks hkl nx i hnx hi a b c d e k (n + 1) (by omega) (by omega)
      rw [← wrapN (show n ≤ 4611686018427387904 by omega), keyT_succ] at ih
      rw [show decide ((n : Int) < N) = true by simp; omega]
      have hlen := keyT_len l bl i n
      have q1 : ∀ u v : AV, ((ints (bl.getD i 0 :: keyT l bl i n)).length + ([u, v] : List AV).length) * 8 ≤ maxBytes := fun u v => by
        have : (2000 : Nat) * 8 ≤ maxBytes := by decide
        simp only [ints_len, List.length_cons, List.length_nil, hlen]; omega
      simp only [if_pos (Int.natCast_nonneg n), g3, castP_ptr, castNil_ptr]
      cases h1 : stp l i n with
      | none =>
        simp only [Option.isNone_none, if_pos (q1 _ _)]
        rw [h1] at ih
        refine Eq.trans ?_ ih
        simp [ints, tgtK]
      | some s =>
        have m1 := ok.mem s (stp_some h1).1
        have ht : s.t.toNat < bl.length := by omega
        have gb : (ints bl)[s.t.toNat]? = some (I (bl.getD s.t.toNat 0)) := ints_get' ht
        simp only [Option.isNone_some, castRef_ptr, castRef_ref, List.getD_cons_zero, List.getD_cons_succ, castI_I, if_pos m1.2.2.1, gb, if_pos (q1 _ _)]
        rw [h1] at ih
        refine Eq.trans ?_ ih
        simp [ints, tgtK]
    · have hne : n = N.toNat := by omega
      subst hne
      rw [show decide (((N.toNat : Nat) : Int) < N) = false by simp; omega]
      have e51 := r51c (K := K) (bl.getD i 0 :: keyT l bl i N.toNat) [] ks (by omega) (by simp [keyT_len]; omega) (fun x hx => by have := hks x hx; omega) (by omega)
      rw [idx_find] at e51
      have hfn : (fun o => decide (o = bl.getD i 0 :: keyT l bl i N.toNat)) = fun o => decide (o = keyK l N.toNat bl i) := rfl
      rw [hfn] at e51
      simp only [e51, castI_I, Nat.zero_add]
      have hal : (ints (arr S.toNat nx)).length = S.toNat := by rw [ints_len, arr_len (by omega)]
      have gi : ∃ z, (ints (arr S.toNat nx))[((i : Nat) : Int).toNat]? = some z := ⟨_, List.getElem?_eq_getElem (by rw [hal]; simpa using hi)⟩
      obtain ⟨z, gz⟩ := gi
      have hset : ∀ v : Int, (ints (arr S.toNat nx)).set ((i : Nat) : Int).toNat (I v) = ints (arr S.toNat (nx ++ [v])) := fun v => by
        rw [ints_set, Int.toNat_natCast, ← hnx, arr_set (by omega)]
      cases hf : ks.findIdx? fun o => decide (o = keyK l N.toNat bl i) with
      | some k' =>
        simp only []
        rw [show decide (((k' : Nat) : Int) < (0 : Int)) = false by simp]
        simp only [if_pos (Int.natCast_nonneg i), gz, hset, if_pos (show ((i : Nat) : Int).toNat < (ints (arr S.toNat nx)).length by rw [hal]; simpa using hi)]
      | none =>
        simp only []
        rw [show decide ((-1 : Int) < (0 : Int)) = true from rfl]
        have q2 : ((ks.map eRow).length + ([.sl 3 (ints (bl.getD i 0 :: keyT l bl i N.toNat))] : List AV).length) * 24 ≤ maxBytes := by
          have : (2000 : Nat) * 24 ≤ maxBytes := by decide
          simp only [List.length_map, List.length_cons, List.length_nil]; omega
        simp only [if_pos (Int.natCast_nonneg i), gz, hset, if_pos q2, if_pos (show ((i : Nat) : Int).toNat < (ints (arr S.toNat nx)).length by rw [hal]; simpa using hi)]
        simp [eRow, keyK]
theorem l73b (K : Nat) (hK : 2000 ≤ K) (q4) (ok : MaOk S N O T l) (bl : List Int) (hb : bl.length = S.toNat) (cnt : Int) :
    ∀ (k i : Nat) (ks : List (List Int)) (nx : List Int), S.toNat - i < k → i ≤ S.toNat → (∀ x ∈ ks, x.length ≤ 100) → ks.length ≤ i → nx.length = i →
    lp73_7 K q4 k (tblT l S N) (ints bl) cnt (ks.map eRow) (ints (arr S.toNat nx)) (tblT l S N) S (i : Int) S N O T (steps l) =
      if ((rnd (keyK l N.toNat bl) (S.toNat - i) i ks nx).1.length : Int) = cnt then some (.sl 3 (ints (rnd (keyK l N.toNat bl) (S.toNat - i) i ks nx).2)) else
        q4 (tblT l S N) (ints (rnd (keyK l N.toNat bl) (S.toNat - i) i ks nx).2) ((rnd (keyK l N.toNat bl) (S.toNat - i) i ks nx).1.length : Int) S N O T (steps l)
  | 0, i, ks, nx, h, _, _, _, _ => by omega
  | k + 1, i, ks, nx, h, hi, hks, hkl, hnx => by
    obtain ⟨s1, s2⟩ := ok.s
    obtain ⟨n1, n2⟩ := ok.n
    unfold lp73_7 tr73_7
    by_cases hii : i < S.toNat
    · have g1 : (tblT l S N)[((i : Nat) : Int).toNat]? = some (.sl 122 (rowT l N i)) := by rw [Int.toNat_natCast]; exact tblT_get hii
      have gb : (ints bl)[((i : Nat) : Int).toNat]? = some (I (bl.getD i 0)) := by rw [Int.toNat_natCast]; exact ints_get' (by omega)
      have hc := l73c K hK q4 (lp73_7 K q4 k) ok bl hb cnt ks hks (by omega) nx i hnx hii S N O T (steps l) K 0 (by omega) (by omega)
      rw [show decide ((i : Int) < S) = true by simp; omega]
      simp only [if_pos (Int.natCast_nonneg i), g1, gb, castL_L, castI_I]
      rw [show ((rowT l N i).length : Int) = N by unfold rowT; simp; omega]
      refine Eq.trans hc ?_
      rw [show S.toNat - i = (S.toNat - (i + 1)) + 1 by omega, wrapN (by omega)]
      have hkey : (keyK l N.toNat bl i).length ≤ 100 := by unfold keyK; rw [List.length_cons, keyT_len]; omega
      rcases Option.eq_none_or_eq_some (ks.findIdx? fun o => decide (o = keyK l N.toNat bl i)) with hf | ⟨k', hf⟩
      · rw [rnd_none hf, hf]
        exact l73b K hK q4 ok bl hb cnt k (i + 1) (ks ++ [keyK l N.toNat bl i]) (nx ++ [(ks.length : Int)]) (by omega) (by omega) (fun x hx => by
          rcases List.mem_append.1 hx with hx | hx
          · exact hks x hx
          · rw [List.mem_singleton.1 hx]; exact hkey) (by simp; omega) (by simp [hnx])
      · rw [rnd_some hf, hf]
        exact l73b K hK q4 ok bl hb cnt k (i + 1) ks (nx ++ [(k' : Int)]) (by omega) (by omega) hks (by omega) (by simp [hnx])
    · rw [show decide ((i : Int) < S) = false by simp; omega, show S.toNat - i = 0 by omega]
      rw [List.length_map, arr_full (by omega)]
      by_cases he : ((rnd (keyK l N.toNat bl) 0 i ks nx).1.length : Int) = cnt
      · rw [if_pos he]
        change (ks.length : Int) = cnt at he
        rw [show ((ks.length : Int) == cnt) = true by simpa using he]
        rfl
      · rw [if_neg he]
        change ¬ (ks.length : Int) = cnt at he
        rw [show ((ks.length : Int) == cnt) = false by simpa using he]
        rfl
theorem l73a (K : Nat) (hK : 2000 ≤ K) (ok : MaOk S N O T l) : ∀ (F k : Nat) (bl : List Int) (count : Nat), BI l S.toNat N.toNat bl count → count ≤ S.toNat → S.toNat - count < F → F ≤ k →
    lp73_4 K k (tblT l S N) (ints bl) (count : Int) S N O T (steps l) = some (.sl 3 (ints (blocksF l S.toNat N.toNat F bl count)))
  | 0, k, bl, count, _, _, h, _ => by omega
  | F + 1, 0, bl, count, _, _, h, hk => by omega
  | F + 1, k + 1, bl, count, hb, hc, hF, hk => by
    obtain ⟨s1, s2⟩ := ok.s
    unfold lp73_4 tr73_4 blocksF
    have q : S = S ∧ 0 ≤ S ∧ S.toNat * 8 ≤ maxBytes := ⟨rfl, by omega, by
      have : (2000 : Nat) * 8 ≤ maxBytes := by decide
      omega⟩
    rw [if_pos q, show ((tblT l S N).length : Int) = S by unfold tblT; simp; omega]
    have h0 : (List.replicate S.toNat (I 0) : List AV) = ints (arr S.toNat []) := by unfold arr ints; simp
    have hm := l73b K hK (lp73_4 K k) ok bl hb.len count K 0 [] [] (by omega) (by omega) (by simp) (by simp) rfl
    rw [h0]
    refine Eq.trans hm ?_
    rw [Nat.sub_zero]
    have hb' := blk_bi ok hb
    have hle := blk_le ok hb
    have hS : (blk l S.toNat N.toNat bl).1.length ≤ S.toNat := by
      have := cover_len (blk l S.toNat N.toNat bl).1.length ((blk l S.toNat N.toNat bl).2.map Int.toNat) fun c hc => by
        obtain ⟨i, _, h1⟩ := hb'.onto c hc
        exact List.mem_map.2 ⟨_, List.mem_of_getElem? h1, by simp⟩
      rw [List.length_map, hb'.len] at this
      exact this
    unfold blk at *
    by_cases he : (rnd (keyK l N.toNat bl) S.toNat 0 [] []).1.length = count
    · rw [if_pos (by rw [he]), if_pos he]
    · rw [if_neg (by omega), if_neg he]
      exact l73a K hK ok F k _ _ hb' hS (by omega) (by omega)
theorem r73 {K : Nat} (ok : MaOk S N O T l) (hK : 2001 ≤ K) : run tab K 73 [eM S N O T l] = some (.sl 3 (ints (blocksM l S.toNat N.toNat))) := by
  obtain ⟨K, rfl⟩ := succK (show 1 ≤ K by omega)
  obtain ⟨s1, s2⟩ := ok.s
  have e67 := r67 (K := K) (by omega) ok
  unfold eM at *
  rw [eq73]; unfold sh73 tr73
  rw [e67]
  have q : S = S ∧ 0 ≤ S ∧ S.toNat * 8 ≤ maxBytes := ⟨rfl, by omega, by
    have : (2000 : Nat) * 8 ≤ maxBytes := by decide
    omega⟩
  simp only [castL_L]
  rw [if_pos ⟨trivial, q.2⟩]
  have h0 : (List.replicate S.toNat (I 0) : List AV) = ints (List.replicate S.toNat 0) := by unfold ints; simp
  rw [h0]
  exact l73a K (by omega) ok (S.toNat + 1) K (List.replicate S.toNat 0) 1 (bi0 l (by omega)) (by omega) (by omega) (by omega)
end
end Go.Proofs.YtahifpeggdcamaaDoor
