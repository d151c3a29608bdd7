/- A part of an interpreter of the model's code that is proved sound, and of laws told by it: DamQ7. -/
import Derived.Test.YtahifpeggdcamaaDoorPoJ6
set_option linter.unusedVariables false
set_option linter.unusedSimpArgs false
/- The minimal machine: what the reference's function tells; the law ModelMinimal. -/
namespace Go.Proofs.YtahifpeggdcamaaDoor
open Go.Dam
set_option linter.unusedVariables false
set_option linter.unusedSimpArgs false
def goR (al : Int → Int → Bool) : List Int → List Int → List Int → List Int × List Int
  | [], kept, to => (kept, to)
  | s :: r, kept, to => match ixK al kept s with
    | some j => goR al r kept (to.set s.toNat (j : Int))
    | none => goR al r (kept ++ [s]) (to.set s.toNat (kept.length : Int))
theorem goR_eq {al : Int → Int → Bool} (hr : ∀ s, al s s = true) : ∀ (r kept to : List Int), goR al r kept to = (keptF al r kept, toF al (keptF al r kept) r to)
  | [], kept, to => rfl
  | s :: r, kept, to => by
    rcases Option.eq_none_or_eq_some (ixK al kept s) with hf | ⟨j, hf⟩
    · have e1 : goR al (s :: r) kept to = goR al r (kept ++ [s]) (to.set s.toNat (kept.length : Int)) := by
        show (match ixK al kept s with | some _ => _ | none => _) = _
        rw [hf]
      have e2 : keptF al (s :: r) kept = keptF al r (kept ++ [s]) := by
        show (match ixK al kept s with | some _ => _ | none => _) = _
        rw [hf]
      obtain ⟨v, hv, _⟩ := keptF_app al r (kept ++ [s])
      have e3 : ixV al (keptF al r (kept ++ [s])) s = (kept.length : Int) := by
        unfold ixV; rw [hv, ixK_app (ixK_new hf (hr s)) v]
      rw [e1, e2, goR_eq hr r]
      show _ = (keptF al r (kept ++ [s]), toF al (keptF al r (kept ++ [s])) r (to.set s.toNat (ixV al (keptF al r (kept ++ [s])) s)))
      rw [e3]
    · have e1 : goR al (s :: r) kept to = goR al r kept (to.set s.toNat (j : Int)) := by
        show (match ixK al kept s with | some _ => _ | none => _) = _
        rw [hf]
      have e2 : keptF al (s :: r) kept = keptF al r kept := by
        show (match ixK al kept s with | some _ => _ | none => _) = _
        rw [hf]
      obtain ⟨v, hv, _⟩ := keptF_app al r kept
      have e3 : ixV al (keptF al r kept) s = (j : Int) := by
        unfold ixV; rw [hv, ixK_app hf v]
      rw [e1, e2, goR_eq hr r]
      show _ = (keptF al r kept, toF al (keptF al r kept) r (to.set s.toNat (ixV al (keptF al r kept) s)))
      rw [e3]
section
variable {S N O T : Int} {l : List St4}
theorem search_al (ok : MaOk S N O T l) {k s : Int} (hk : 0 ≤ k ∧ k < S) (hs : 0 ≤ s ∧ s < S) : ∃ L : List AV, resP (searchM l l N k s) = .tup [.sl 3 L, B (!(alM l S.toNat N.toNat k s))] := by
  have h1 := search_iff ok ok hk hs
  have h2 := blocks_iff ok (i := k.toNat) (j := s.toNat) (by omega) (by omega)
  rw [Int.toNat_of_nonneg hk.1, Int.toNat_of_nonneg hs.1] at h2
  obtain ⟨c, hb⟩ := blocks_len ok
  have h3 : alM l S.toNat N.toNat k s = true ↔ (blocksM l S.toNat N.toNat)[k.toNat]? = (blocksM l S.toNat N.toNat)[s.toNat]? := by
    obtain ⟨a, _, ha⟩ := hb.lt k.toNat (by omega)
    obtain ⟨b, _, hb'⟩ := hb.lt s.toNat (by omega)
    unfold alM
    rw [decide_eq_true_iff, getD_of ha, getD_of hb', ha, hb']
    simp
  cases hm : searchM l l N k s with
  | inl u =>
    have : alM l S.toNat N.toNat k s = true := h3.2 (h2.2 (h1.2 ⟨u, hm⟩))
    rw [this]; exact ⟨_, rfl⟩
  | inr w =>
    have : alM l S.toNat N.toNat k s = false := by
      rw [← Bool.not_eq_true]
      intro h
      obtain ⟨u, hu⟩ := h1.1 (h2.1 (h3.1 h))
      rw [hm] at hu; cases hu
    rw [this]; exact ⟨_, rfl⟩
theorem l42found (K : Nat) (q5) (q9) (ord kept to : List Int) (i : Nat) (hi : i < ord.length) (hs : 0 ≤ ord[i] ∧ ord[i].toNat < to.length) (j : Nat) (k : Int) (y7 y8 y9 y10 : Int) (y11 : List AV) (y12 y13 y14 y15 : Int) (y16 : List AV) (f : Nat) :
    lp42_13 K q5 q9 (f + 1) (ints ord) (ints kept) (ints to) (i : Int) (j : Int) k y7 y8 y9 y10 y11 y12 y13 y14 y15 y16 = q9 (ints ord) (ints kept) (ints (to.set ord[i].toNat (j : Int))) (IntKind.i64.wrap ((i : Int) + 1)) y7 y8 y9 y10 y11 y12 y13 y14 y15 y16 := by
  have gl : (ints to)[ord[i].toNat]? = some (I (to.getD ord[i].toNat 0)) := ints_get' hs.2
  have hj : ((j : Int) == -1) = false := by simp
  unfold lp42_13 tr42_13
  rw [hj]
  cases decide (k < ((ints kept).length : Int)) <;>
    simp only [if_pos (Int.natCast_nonneg i), ints_get hi, castI_I, if_pos hs.1, gl, if_pos (show ord[i].toNat < (ints to).length by rw [ints_len]; exact hs.2), ints_set]
theorem l42d (K : Nat) (hK : 2100 ≤ K) (q5) (q9) (ok : MaOk S N O T l) (ord : List Int) (i : Nat) (hi : i < ord.length) (hs : 0 ≤ ord[i] ∧ ord[i] < S) (kept : List Int) (hkl : kept.length ≤ 40) (hk : ∀ s ∈ kept, 0 ≤ s ∧ s < S) (to : List Int) (hto : to.length = S.toNat) (z1 z2 z3 z4 : Int) (zl : List AV) :
    ∀ (f k : Nat), kept.length - k + 1 < f → k ≤ kept.length →
    lp42_13 K q5 q9 f (ints ord) (ints kept) (ints to) (i : Int) (-1) (k : Int) S N O T (steps l) z1 z2 z3 z4 zl =
      match ixK (alM l S.toNat N.toNat) (kept.drop k) ord[i] with
      | some j => q9 (ints ord) (ints kept) (ints (to.set ord[i].toNat ((k + j : Nat) : Int))) (IntKind.i64.wrap ((i : Int) + 1)) S N O T (steps l) z1 z2 z3 z4 zl
      | none => q9 (ints ord) (ints (kept ++ [ord[i]])) (ints (to.set ord[i].toNat (kept.length : Int))) (IntKind.i64.wrap ((i : Int) + 1)) S N O T (steps l) z1 z2 z3 z4 zl
  | 0, k, h, _ => by omega
  | f + 1, k, h, hkk => by
    obtain ⟨s1, s2⟩ := ok.s
    have gl : (ints to)[ord[i].toNat]? = some (I (to.getD ord[i].toNat 0)) := ints_get' (by omega)
    have hll := ok.len
    by_cases hlt : k < kept.length
    · unfold lp42_13 tr42_13
      have hr := hk _ (List.getElem_mem hlt)
      have e39 := r39 (K := K) ok ok hr hs (by omega)
      obtain ⟨L, hL⟩ := search_al ok hr hs
      rw [hL] at e39
      unfold eM at e39
      rw [ints_len, show decide ((k : Int) < (kept.length : Int)) = true by simpa using hlt, show ((-1 : Int) == -1) = true from rfl, List.drop_eq_getElem_cons hlt]
      simp only [if_pos (Int.natCast_nonneg k), if_pos (Int.natCast_nonneg i), ints_get hlt, ints_get hi, castI_I, e39, comp20, comp21, castL_L, castB_B, Bool.not_not]
      cases ha : alM l S.toNat N.toNat kept[k] ord[i] with
      | true =>
        rw [ixK_yes ha]
        simp only [Nat.add_zero]
        obtain ⟨f, rfl⟩ : ∃ g, f = g + 1 := ⟨f - 1, by omega⟩
        exact l42found K q5 q9 ord kept to i hi ⟨hs.1, by omega⟩ k _ S N O T (steps l) z1 z2 z3 z4 zl f
      | false =>
        have ih := l42d K hK q5 q9 ok ord i hi hs kept hkl hk to hto z1 z2 z3 z4 zl f (k + 1) (by omega) (by omega)
        rw [← wrapN (by omega)] at ih
        rw [ixK_no ha]
        simp only []
        rw [ih]
        cases ixK (alM l S.toNat N.toNat) (kept.drop (k + 1)) ord[i] with
        | none => rfl
        | some j => simp only [Option.map_some]; rw [show k + 1 + j = k + (j + 1) by omega]
    · unfold lp42_13 tr42_13
      rw [ints_len, show decide ((k : Int) < (kept.length : Int)) = false by simpa using hlt, show ((-1 : Int) == -1) = true from rfl, List.drop_eq_nil_of_le (by omega)]
      have q : (kept.length + ([I ord[i]] : List AV).length) * 8 ≤ maxBytes := by
        have : (2000 : Nat) * 8 ≤ maxBytes := by decide
        simp only [List.length_cons, List.length_nil]; omega
      simp only [if_pos (Int.natCast_nonneg i), ints_get hi, castI_I, if_pos q, if_pos hs.1, gl, if_pos (show ord[i].toNat < (ints to).length by rw [ints_len]; omega), ints_set, ints_snoc]
      rfl
theorem l42f (K : Nat) (hK : 2000 ≤ K) (q5) (q9) (q24) (ok : MaOk S N O T l) (al : Int → Int → Bool) (kept to : List Int) (i : Nat) (hi : i < kept.length) (hkl : kept.length ≤ 40) (hp : 0 ≤ kept[i] ∧ kept[i] < S)
    (hto : ∀ n : Nat, n < N.toNat → ∀ y, stp l kept[i] n = some y → (ints to)[y.t.toNat]? = some (I (ixV al kept y.t))) (z1 z2 z3 z4 : Int) (zl : List AV) (o1 o2 o3 o4 : Int) :
    ∀ (k n : Nat) (acc : List St4), N.toNat - n < k → n ≤ N.toNat → acc.length ≤ i * 8 + n →
    lp42_27 K q5 q9 q24 k (ints kept) (ints to) (i : Int) (n : Int) S N O T (steps l) z1 z2 z3 z4 zl o1 o2 o3 o4 (steps acc) =
      q24 (ints kept) (ints to) (IntKind.i64.wrap ((i : Int) + 1)) S N O T (steps l) z1 z2 z3 z4 zl o1 o2 o3 o4 (steps (acc ++ rowK al l kept i kept[i] (N.toNat - n) n))
  | 0, n, acc, h, _, _ => by omega
  | k + 1, n, acc, h, hn, ha => by
    obtain ⟨n1, n2⟩ := ok.n
    obtain ⟨s1, s2⟩ := ok.s
    have hll := ok.len
    unfold lp42_27 tr42_27
    by_cases hnn : n < N.toNat
    · have e68 := r68 (K := K) S N O T kept[i] n l (by omega) (by omega)
      unfold eM at e68
      rw [show decide ((n : Int) < N) = true by simp; omega, show N.toNat - n = (N.toNat - (n + 1)) + 1 by omega]
      simp only [if_pos (Int.natCast_nonneg i), ints_get hi, castI_I, e68, rowK]
      unfold stpK
      cases h1 : stp l kept[i] n with
      | none =>
        have ih := l42f K hK q5 q9 q24 ok al kept to i hi hkl hp hto z1 z2 z3 z4 zl o1 o2 o3 o4 k (n + 1) acc (by omega) (by omega) (by omega)
        rw [← wrapN (show n ≤ 4611686018427387904 by omega)] at ih
        rw [stepAt_none h1]
        simp only [List.nil_append]
        exact ih
      | some s =>
        have m1 := ok.mem s (stp_some h1).1
        obtain ⟨a, ha', a1, a2⟩ := stepAt_some 0 h1
        have haa : stepAt l kept[i] n = (a : Int) := by unfold stepAt; rw [a1]; simp
        have ih := l42f K hK q5 q9 q24 ok al kept to i hi hkl hp hto z1 z2 z3 z4 zl o1 o2 o3 o4 k (n + 1) (acc ++ [⟨i, n, s.o, ixV al kept s.t⟩]) (by omega) (by omega) (by simp; omega)
        rw [← wrapN (show n ≤ 4611686018427387904 by omega)] at ih
        have q : ∀ u : AV, ((steps acc).length + ([u] : List AV).length) * 32 ≤ maxBytes := fun u => by
          have : (2000 : Nat) * 32 ≤ maxBytes := by decide
          simp only [steps_len, List.length_cons, List.length_nil]; omega
        rw [haa, show ((a : Int) != -1) = true by simp]
        simp only [if_pos (Int.natCast_nonneg a), steps_get ha', a2, eS2, eS3, castI_I, if_pos m1.2.2.1, hto n hnn s h1, if_pos (q _)]
        rw [List.append_assoc] at ih
        refine Eq.trans ?_ ih
        simp [steps, eS]
    · rw [show decide ((n : Int) < N) = false by simp; omega, show N.toNat - n = 0 by omega]
      simp [rowK]
theorem l42e (K : Nat) (hK : 2000 ≤ K) (q5) (q9) (ok : MaOk S N O T l) (al : Int → Int → Bool) (kept to : List Int) (hkl : kept.length ≤ 40) (hk : ∀ s ∈ kept, 0 ≤ s ∧ s < S)
    (hto : ∀ p ∈ kept, ∀ n : Nat, n < N.toNat → ∀ y, stp l p n = some y → (ints to)[y.t.toNat]? = some (I (ixV al kept y.t))) (z1 z2 z3 z4 : Int) (zl : List AV) (o1 o2 o3 o4 : Int) :
    ∀ (k i : Nat) (acc : List St4), kept.length - i < k → i ≤ kept.length → acc.length ≤ i * 8 →
    lp42_24 K q5 q9 k (ints kept) (ints to) (i : Int) S N O T (steps l) z1 z2 z3 z4 zl o1 o2 o3 o4 (steps acc) =
      some (.tup [.agg [I o1, I o2, I o3, I o4, .sl 97 (steps (acc ++ colK al l N.toNat kept (kept.drop i) i))], .sl 3 (ints to)])
  | 0, i, acc, h, _, _ => by omega
  | k + 1, i, acc, h, hi, ha => by
    obtain ⟨n1, n2⟩ := ok.n
    unfold lp42_24 tr42_24
    by_cases hii : i < kept.length
    · have hd := l42f K hK q5 q9 (lp42_24 K q5 q9 k) ok al kept to i hii hkl (hk _ (List.getElem_mem hii)) (hto _ (List.getElem_mem hii)) z1 z2 z3 z4 zl o1 o2 o3 o4 K 0 acc (by omega) (by omega) (by omega)
      rw [ints_len, show decide ((i : Int) < (kept.length : Int)) = true by simpa using hii, List.drop_eq_getElem_cons hii]
      simp only [colK]
      refine Eq.trans hd ?_
      rw [Nat.sub_zero, wrapN (by omega)]
      have hrl := rowK_len al l kept i kept[i] N.toNat 0
      have ih := l42e K hK q5 q9 ok al kept to hkl hk hto z1 z2 z3 z4 zl o1 o2 o3 o4 k (i + 1) (acc ++ rowK al l kept i kept[i] N.toNat 0) (by omega) (by omega) (by rw [List.length_append]; omega)
      rw [List.append_assoc] at ih
      exact ih
    · rw [ints_len, show decide ((i : Int) < (kept.length : Int)) = false by simpa using hii, List.drop_eq_nil_of_le (by omega)]
      simp only [colK, List.append_nil]
/-- The main loop: the states one after the other. -/
theorem l42c (K : Nat) (hK : 2100 ≤ K) (q5) (ok : MaOk S N O T l) (z1 z2 z3 z4 : Int) (zl : List AV) (ord : List Int) (ho : ∀ s ∈ ord, 0 ≤ s ∧ s < S) (hol : ord.length ≤ 40) :
    ∀ (k i : Nat) (kept to : List Int), ord.length - i < k → i ≤ ord.length → kept.length ≤ i → (∀ s ∈ kept, 0 ≤ s ∧ s < S) → to.length = S.toNat →
    (∀ p ∈ (goR (alM l S.toNat N.toNat) (ord.drop i) kept to).1, 0 ≤ p ∧ p < S) → (goR (alM l S.toNat N.toNat) (ord.drop i) kept to).1.length ≤ 40 →
    (∀ p ∈ (goR (alM l S.toNat N.toNat) (ord.drop i) kept to).1, ∀ n : Nat, n < N.toNat → ∀ y, stp l p n = some y → (ints (goR (alM l S.toNat N.toNat) (ord.drop i) kept to).2)[y.t.toNat]? = some (I (ixV (alM l S.toNat N.toNat) (goR (alM l S.toNat N.toNat) (ord.drop i) kept to).1 y.t))) →
    lp42_9 K q5 k (ints ord) (ints kept) (ints to) (i : Int) S N O T (steps l) z1 z2 z3 z4 zl =
      some (.tup [.agg [I (goR (alM l S.toNat N.toNat) (ord.drop i) kept to).1.length, I N, I O, I 0, .sl 97 (steps (colK (alM l S.toNat N.toNat) l N.toNat (goR (alM l S.toNat N.toNat) (ord.drop i) kept to).1 (goR (alM l S.toNat N.toNat) (ord.drop i) kept to).1 0))],
        .sl 3 (ints (goR (alM l S.toNat N.toNat) (ord.drop i) kept to).2)])
  | 0, i, kept, to, h, _, _, _, _, _, _, _ => by omega
  | k + 1, i, kept, to, h, hi, hk, hkr, htl, g1, g2, g3 => by
    unfold lp42_9 tr42_9
    by_cases hii : i < ord.length
    · have hr := ho _ (List.getElem_mem hii)
      rw [ints_len, show decide ((i : Int) < (ord.length : Int)) = true by simpa using hii]
      have hd := l42d K hK q5 (lp42_9 K q5 k) ok ord i hii hr kept (by omega) hkr to htl z1 z2 z3 z4 zl K 0 (by omega) (by omega)
      rw [List.drop_zero] at hd
      refine Eq.trans hd ?_
      rw [List.drop_eq_getElem_cons hii] at g1 g2 g3 ⊢
      rcases Option.eq_none_or_eq_some (ixK (alM l S.toNat N.toNat) kept ord[i]) with hf | ⟨j, hf⟩
      · have e1 : goR (alM l S.toNat N.toNat) (ord[i] :: ord.drop (i + 1)) kept to = goR (alM l S.toNat N.toNat) (ord.drop (i + 1)) (kept ++ [ord[i]]) (to.set ord[i].toNat (kept.length : Int)) := by
          show (match ixK (alM l S.toNat N.toNat) kept ord[i] with | some _ => _ | none => _) = _
          rw [hf]
        rw [e1] at g1 g2 g3 ⊢
        rw [hf, wrapN (by omega)]
        exact l42c K hK q5 ok z1 z2 z3 z4 zl ord ho hol k (i + 1) (kept ++ [ord[i]]) (to.set ord[i].toNat (kept.length : Int)) (by omega) (by omega) (by simp; omega) (fun s hs => by
          rcases List.mem_append.1 hs with hs | hs
          · exact hkr s hs
          · rw [List.mem_singleton.1 hs]; exact hr) (by simpa using htl) g1 g2 g3
      · have e1 : goR (alM l S.toNat N.toNat) (ord[i] :: ord.drop (i + 1)) kept to = goR (alM l S.toNat N.toNat) (ord.drop (i + 1)) kept (to.set ord[i].toNat (j : Int)) := by
          show (match ixK (alM l S.toNat N.toNat) kept ord[i] with | some _ => _ | none => _) = _
          rw [hf]
        rw [e1] at g1 g2 g3 ⊢
        rw [hf, wrapN (by omega)]
        simp only [Nat.zero_add]
        exact l42c K hK q5 ok z1 z2 z3 z4 zl ord ho hol k (i + 1) kept (to.set ord[i].toNat (j : Int)) (by omega) (by omega) (by omega) hkr (by simpa using htl) g1 g2 g3
    · rw [List.drop_eq_nil_of_le (show ord.length ≤ i by omega)] at g1 g2 g3 ⊢
      rw [ints_len, show decide ((i : Int) < (ord.length : Int)) = false by simpa using hii]
      simp only [goR] at g1 g2 g3 ⊢
      have he := l42e K (by omega) q5 (lp42_9 K q5 k) ok (alM l S.toNat N.toNat) kept to g2 g1 g3 z1 z2 z3 z4 zl (kept.length : Int) N O 0 K 0 [] (by omega) (by omega) (by simp)
      rw [List.drop_zero, List.nil_append] at he
      rw [ints_len]
      exact he
def fillR (S i : Nat) : List Int := List.replicate i (-1) ++ List.replicate (S - i) 0
theorem fillR_set {S i : Nat} (h : i < S) : (fillR S i).set i (-1) = fillR S (i + 1) := by
  unfold fillR
  rw [List.set_append_right _ _ (by simp), List.length_replicate, Nat.sub_self, show S - i = (S - (i + 1)) + 1 by omega, List.replicate_succ, List.set_cons_zero, List.replicate_succ' (n := i)]
  simp
theorem l42a (K : Nat) (ord kept : List AV) (N O T : Int) (st : List AV) (z1 z2 z3 z4 : Int) (zl : List AV) {S : Int} (h1 : 1 ≤ S) (h2 : S ≤ 40) (R : Option AV) (hR : ∀ k, lp42_9 K (lp42_5 K k) K ord kept (ints (List.replicate S.toNat (-1))) 0 S N O T st z1 z2 z3 z4 zl = R) :
    ∀ (k i : Nat), S.toNat - i < k → i ≤ S.toNat → lp42_5 K k ord kept (ints (fillR S.toNat i)) (i : Int) S N O T st z1 z2 z3 z4 zl = R
  | 0, i, h, _ => by omega
  | k + 1, i, h, hi => by
    unfold lp42_5 tr42_5
    have hlen : (ints (fillR S.toNat i)).length = S.toNat := by rw [ints_len]; unfold fillR; simp; omega
    by_cases hii : i < S.toNat
    · have ih := l42a K ord kept N O T st z1 z2 z3 z4 zl h1 h2 R hR k (i + 1) (by omega) (by omega)
      rw [← wrapN (by omega)] at ih
      obtain ⟨z, gz⟩ : ∃ z, (ints (fillR S.toNat i))[((i : Nat) : Int).toNat]? = some z := ⟨_, List.getElem?_eq_getElem (by rw [hlen]; simpa using hii)⟩
      have hset : (ints (fillR S.toNat i)).set ((i : Nat) : Int).toNat (I (-1)) = ints (fillR S.toNat (i + 1)) := by rw [ints_set, Int.toNat_natCast, fillR_set hii]
      rw [show decide ((i : Int) < S) = true by simp; omega]
      simp only [if_pos (Int.natCast_nonneg i), gz, hset, if_pos (show ((i : Nat) : Int).toNat < (ints (fillR S.toNat i)).length by rw [hlen]; simpa using hii)]
      exact ih
    · have : i = S.toNat := by omega
      subst this
      rw [show decide (((S.toNat : Nat) : Int) < S) = false by simp; omega]
      have e : fillR S.toNat S.toNat = List.replicate S.toNat (-1) := by unfold fillR; simp
      rw [e]
      exact hR k
theorem keptF_len (al : Int → Int → Bool) : ∀ (r kept : List Int), (keptF al r kept).length ≤ kept.length + r.length
  | [], kept => Nat.le_refl _
  | s :: r, kept => by
    unfold keptF
    cases ixK al kept s with
    | some j => have := keptF_len al r kept; simp; omega
    | none => have := keptF_len al r (kept ++ [s]); simp at this ⊢; omega
theorem kept_facts (ok : MaOk S N O T l) : (∀ p ∈ keptM l S N T, p ∈ ordM l N T) ∧ (keptM l S N T).length ≤ 40 ∧ (toM l S N T).length = S.toNat ∧
    ∀ s ∈ ordM l N T, (toM l S N T)[s.toNat]? = some (ixV (alM l S.toNat N.toNat) (keptM l S N T) s) := by
  obtain ⟨_, o1, o2, o3, _⟩ := ord_facts ok
  obtain ⟨v, h1, h2⟩ := keptF_app (alM l S.toNat N.toNat) (ordM l N T) []
  refine ⟨fun p hp => ?_, ?_, ?_, fun s hs => ?_⟩
  · unfold keptM at hp
    rw [h1, List.nil_append] at hp
    exact h2 p hp
  · have := keptF_len (alM l S.toNat N.toNat) (ordM l N T) []
    unfold keptM; simp at this; omega
  · unfold toM; rw [toF_len]; simp
  · have hr := o1 s hs
    exact toF_get _ _ _ _ s (fun x hx => (o1 x hx).1) o3 hs (by simp; omega)
theorem r42 {K : Nat} (ok : MaOk S N O T l) (hK : 2200 ≤ K) : run tab K 42 [eM S N O T l] = some (.tup [eM (keptM l S N T).length N O 0 (stepsM l S N T), .sl 3 (ints (toM l S N T))]) := by
  obtain ⟨K, rfl⟩ := succK (show 1 ≤ K by omega)
  obtain ⟨s1, s2⟩ := ok.s
  obtain ⟨n1, n2⟩ := ok.n
  have e76 := r76 (K := K) ok (by omega)
  obtain ⟨_, o1, o2, o3, o4⟩ := ord_facts ok
  obtain ⟨k1, k2, k3, k4⟩ := kept_facts ok
  have hg := goR_eq (alM_self l S.toNat N.toNat) (ordM l N T) [] (List.replicate S.toNat (-1))
  change goR _ (ordM l N T) [] (List.replicate S.toNat (-1)) = (keptM l S N T, toM l S N T) at hg
  have hfill := l42a K (ints (ordM l N T)) [] N O T (steps l) 0 0 0 0 [] s1 s2 (some (.tup [eM (keptM l S N T).length N O 0 (stepsM l S N T), .sl 3 (ints (toM l S N T))])) (fun k => by
    have hm := l42c K (by omega) (lp42_5 K k) ok 0 0 0 0 [] (ordM l N T) o1 o2 K 0 [] (List.replicate S.toNat (-1)) (by omega) (by omega) (by simp) (by simp) (by simp)
    rw [List.drop_zero, hg] at hm
    refine Eq.trans (hm (fun p hp => o1 p (k1 p hp)) k2 fun p hp n hn y hy => ?_) rfl
    have hy2 := o4 p (k1 p hp) n hn y hy
    have := k4 _ hy2
    unfold ints
    rw [List.getElem?_map, this]; rfl) K 0 (by omega) (by omega)
  unfold eM at *
  rw [eq42]; unfold sh42 tr42
  rw [e76]
  have q : S = S ∧ 0 ≤ S ∧ S.toNat * 8 ≤ maxBytes := ⟨rfl, by omega, by
    have : (2000 : Nat) * 8 ≤ maxBytes := by decide
    omega⟩
  simp only [castL_L]
  rw [if_pos ⟨trivial, q.2⟩]
  have h0 : (List.replicate S.toNat (I 0) : List AV) = ints (fillR S.toNat 0) := by unfold fillR ints; simp
  rw [h0]
  exact hfill
end
end Go.Proofs.YtahifpeggdcamaaDoor
