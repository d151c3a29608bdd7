/- A part of an interpreter of the model's code that is proved sound, and of laws told by it: DamM4. -/
import Derived.Test.YtahifpeggdcamaaDoorPnG3
set_option linter.unusedVariables false
set_option linter.unusedSimpArgs false
/- What holds of right models; configurations; the model's function NextOf. -/
namespace Go.Proofs.YtahifpeggdcamaaDoor
open Go.Dam
set_option linter.unusedVariables false
set_option linter.unusedSimpArgs false
theorem w1_nat {n : Nat} (h : n ≤ 4611686018427387904) : w1 (n : Int) = (n : Int) - 1 := by
  unfold w1; rw [wrapI ⟨by omega, by omega⟩]
theorem within_iff {n a b : Int} : within n a b = true ↔ a ≤ n ∧ n ≤ b := by
  unfold within; simp
theorem orI_zero : ∀ {l : List Int}, orI l = 0 → ∀ n ∈ l, n = 0
  | [], _, n, h => by simp at h
  | a :: l, h, n, hn => by
    unfold orI at h
    by_cases h0 : a = 0
    · rw [if_pos h0] at h
      rcases List.mem_cons.1 hn with rfl | hn
      · exact h0
      · exact orI_zero h n hn
    · rw [if_neg h0] at h; exact absurd h h0
theorem thenE_zero {a b : Int} (h : thenE a b = 0) : a = 0 ∧ b = 0 := by
  unfold thenE at h
  by_cases h0 : a = 0
  · subst h0; simpa using h
  · rw [if_pos h0] at h; exact absurd h h0
theorem gErr_zero {nv : Int} : ∀ {l : List Ts}, gErr nv l = 0 → ∀ t ∈ l, tErr nv t = 0
  | [], _, t, h => by simp at h
  | a :: l, h, t, ht => by
    unfold gErr at h
    by_cases h0 : tErr nv a = 0
    · rw [if_neg (by simpa using h0)] at h
      rcases List.mem_cons.1 ht with rfl | ht
      · exact h0
      · exact gErr_zero h t ht
    · rw [if_pos h0] at h; exact absurd h h0
theorem ssErr_zero {nv : Int} : ∀ {l p : List Se}, ssErr nv p l = 0 → ∀ t ∈ l, ∃ p', sErr nv p' t = 0
  | [], _, _, t, h => by simp at h
  | a :: l, p, h, t, ht => by
    unfold ssErr at h
    by_cases h0 : sErr nv p a = 0
    · rw [if_neg (by simpa using h0)] at h
      rcases List.mem_cons.1 ht with rfl | ht
      · exact ⟨p, h0⟩
      · exact ssErr_zero h t ht
    · rw [if_pos h0] at h; exact absurd h h0
theorem mvErr_zero {S nIn : Int} {nv : Nat} (hnv : nv ≤ 1000) {x : Mv} (h : mvErr S nIn nv x = 0) : MvOk nv x ∧ within x.f 0 (w1 S) = true ∧ within x.t 0 (w1 S) = true ∧ within x.n 0 (w1 nIn) = true := by
  unfold mvErr at h
  obtain ⟨h1, h⟩ := thenE_zero h
  obtain ⟨h2, h⟩ := thenE_zero h
  obtain ⟨h3, h4⟩ := thenE_zero h
  refine ⟨⟨fun t ht => ?_, fun s hs => ?_, h4⟩, ?_⟩
  · have := gErr_zero h2 t ht
    unfold tErr at this
    have h5 := orI_zero this
    exact ⟨h5 _ (by simp), h5 _ (by simp)⟩
  · obtain ⟨p', hp⟩ := ssErr_zero h3 s hs
    unfold sErr at hp
    have h5 := orI_zero hp
    have h6 := h5 (if within s.v 0 (w1 nv) then 0 else 3) (by simp)
    have h7 : within s.v 0 (w1 nv) = true := by
      cases hw : within s.v 0 (w1 nv) with
      | true => rfl
      | false => rw [hw] at h6; simp at h6
    rw [w1_nat (by omega), within_iff] at h7
    exact ⟨h7.1, by omega, h5 _ (by simp), h5 _ (by simp)⟩
  · have h5 := orI_zero h1 (if within x.f 0 (w1 S) && (within x.t 0 (w1 S) && within x.n 0 (w1 nIn)) then 0 else 3) (by simp)
    have h6 : (within x.f 0 (w1 S) && (within x.t 0 (w1 S) && within x.n 0 (w1 nIn))) = true := by
      cases hw : (within x.f 0 (w1 S) && (within x.t 0 (w1 S) && within x.n 0 (w1 nIn))) with
      | true => rfl
      | false => rw [hw] at h5; simp at h5
    simpa [Bool.and_eq_true] using h6
theorem msErr_zero {S nIn nv : Int} : ∀ {l : List Mv} {i : Nat}, (msErr S nIn nv i l).2 = 0 → ∀ x ∈ l, mvErr S nIn nv x = 0
  | [], _, _, x, h => by simp at h
  | a :: l, i, h, x, hx => by
    unfold msErr at h
    by_cases h0 : mvErr S nIn nv a = 0
    · rw [if_neg (by simpa using h0)] at h
      rcases List.mem_cons.1 hx with rfl | hx
      · exact h0
      · exact msErr_zero h x hx
    · rw [if_pos h0] at h; exact absurd h h0
theorem vsErr_zero {k : Int × Int} : ∀ {l : List Va} {i : Nat}, (vsErr k i l).2 = 0 → k.2 = 0 ∧ ∀ v ∈ l, within v.lo 0 100 = true ∧ within v.hi 0 100 = true ∧ within v.st v.lo v.hi = true
  | [], _, h => ⟨h, by simp⟩
  | v :: l, i, h => by
    unfold vsErr at h
    cases h1 : within v.lo 0 100 with
    | false => rw [h1] at h; simp at h
    | true =>
    cases h2 : within v.hi 0 100 with
    | false => rw [h1, h2] at h; simp at h
    | true =>
    cases h3 : within v.st v.lo v.hi with
    | false => rw [h1, h2, h3] at h; simp at h
    | true =>
      rw [h1, h2, h3] at h
      simp only [if_true] at h
      obtain ⟨g1, g2⟩ := vsErr_zero h
      refine ⟨g1, fun x hx => ?_⟩
      rcases List.mem_cons.1 hx with rfl | hx
      · exact ⟨h1, h2, h3⟩
      · exact g2 x hx
theorem insErr_zero (k : Int → Int × Int) : ∀ (l : List Int) (s : Int) (i : Nat), (insErr k s i l).2 = 0 → ∃ t, (k t).2 = 0
  | [], s, i, h => ⟨s, h⟩
  | n :: l, s, i, h => by
    unfold insErr at h
    split at h
    · exact insErr_zero k l _ _ h
    · simp at h
/-- What holds of a right model. -/
structure MoOk (m : Mo) : Prop where
  s : within m.s 1 40 = true
  st : within m.st 0 (w1 m.s) = true
  o : within m.o 1 8 = true
  ins : m.ins ≠ []
  insN : ∀ n ∈ m.ins, 1 ≤ n ∧ n ≤ 8
  tot : tot m.ins ≤ 8
  vs : m.vs.length ≤ 4
  ms : m.ms.length ≤ 40
  va : ∀ v ∈ m.vs, within v.lo 0 100 = true ∧ within v.hi 0 100 = true ∧ within v.st v.lo v.hi = true
  mv : ∀ x ∈ m.ms, mvErr m.s m.ins.length m.vs.length x = 0
theorem moOk_of {m : Mo} (h : (moErr m).2 = 0) : MoOk m := by
  obtain ⟨a1, a2⟩ := moErr_ok h
  unfold moErr at h
  split at h
  · rename_i h1
    simp only [Bool.and_eq_true] at h1
    split at h
    · simp at h
    · rename_i h2
      obtain ⟨t, ht⟩ := insErr_zero _ _ _ _ h
      unfold afterIns at ht
      split at ht
      · simp at ht
      · split at ht
        · simp at ht
        · split at ht
          · simp at ht
          · obtain ⟨b1, b2⟩ := vsErr_zero ht
            exact ⟨h1.1, h1.2.1, h1.2.2, h2, a1, a2, by omega, by omega, b2, msErr_zero b1⟩
  · simp at h
theorem MoOk.msOk {m : Mo} (h : MoOk m) {K : Nat} (hf : moFit K m) : MsOk K m.vs.length m.ms := by
  have := h.vs
  have := h.ms
  exact ⟨fun x hx => (mvErr_zero (by omega) (h.mv x hx)).1, fun x hx => (hf.mv x hx).mono (by omega), by omega, by omega⟩
theorem allPs_len : ∀ (l : List Int) (i : Nat), (allPs i l).length = tot l
  | [], i => rfl
  | n :: l, i => by simp [allPs, tot, onePs_len, allPs_len l (i + 1)]

/-! ### lists of numbers -/
theorem l31 (K : Nat) (x y : List Int) (hl : x.length = y.length) (hx : x.length ≤ 4611686018427387904) : ∀ (k i : Nat), x.length - i < k → lp31_4 K k (ints x) (ints y) (i : Int) = some (B (decide (x.drop i = y.drop i)))
  | 0, i, h => by omega
  | k + 1, i, h => by
    unfold lp31_4 tr31_4
    rw [ints_len]
    by_cases hi : i < x.length
    · have hj : i < y.length := by omega
      have e1 := List.drop_eq_getElem_cons hi
      have e2 := List.drop_eq_getElem_cons hj
      rw [show decide ((i : Int) < (x.length : Int)) = true by simpa using hi]
      simp only [if_pos (Int.natCast_nonneg i), ints_get hi, ints_get hj, castI_I]
      by_cases he : x[i] = y[i]
      · rw [show (x[i] != y[i]) = false by simpa using he]
        simp only []
        rw [wrapN (by omega), l31 K x y hl hx k (i + 1) (by omega)]
        refine congrArg (fun b => some (B b)) ?_
        rw [decide_eq_decide, e1, e2]
        simp only [List.cons.injEq, he, true_and]
      · rw [show (x[i] != y[i]) = true by simpa using he]
        refine congrArg (fun b => some (B b)) (Eq.symm (decide_eq_false ?_))
        rw [e1, e2]
        simp only [List.cons.injEq, he, false_and, not_false_eq_true]
    · rw [show decide ((i : Int) < (x.length : Int)) = false by simpa using hi, List.drop_eq_nil_of_le (by omega), List.drop_eq_nil_of_le (by omega)]
      simp
theorem r31 {K : Nat} (x y : List Int) (hx : x.length ≤ 4611686018427387904) (hy : y.length ≤ 4611686018427387904) (hK : x.length + 2 ≤ K) : run tab K 31 [.sl 3 (ints x), .sl 3 (ints y)] = some (B (decide (x = y))) := by
  obtain ⟨K, rfl⟩ := succK (show 1 ≤ K by omega)
  rw [eq31]; unfold sh31 tr31
  rw [ints_len, ints_len]
  by_cases hl : x.length = y.length
  · rw [show ((x.length : Int) != (y.length : Int)) = false by rw [hl]; simp]
    exact l31 K x y hl hx K 0 (by omega)
  · rw [show ((x.length : Int) != (y.length : Int)) = true by simp; omega]
    simp only []
    rw [show decide (x = y) = false by simp; intro he; exact hl (by rw [he])]

/-! ### configurations -/
def inAll : List Va → List Int → Bool
  | v :: vs, n :: l => within n v.lo v.hi && inAll vs l
  | _, _ => true
def atIn (m : Mo) (a : List Int) : Bool := within (a.getD 0 0) 0 (w1 m.s) && inAll m.vs (a.drop 1)
def atErr (m : Mo) (a : List Int) : Int := if a.length = m.vs.length + 1 then if atIn m a then 0 else 3 else 6
theorem l28 (K : Nat) (hK : 1 ≤ K) (S st O : Int) (ins ms : List AV) (vs : List Va) (hnv : vs.length ≤ 4611686018427387900) (a : List Int) (ha : a.length = vs.length + 1) : ∀ (k i : Nat), vs.length - i < k →
    lp28_6 K k (ints a) (i : Int) S st ins O (vs.map eVa) ms = some (I (if inAll (vs.drop i) (a.drop (i + 1)) then 0 else 3))
  | 0, i, h => by omega
  | k + 1, i, h => by
    unfold lp28_6 tr28_6
    rw [List.length_map]
    by_cases hi : i < vs.length
    · have hj : i + 1 < a.length := by omega
      have gw : IntKind.i64.wrap ((i : Int) + 1) = ((i + 1 : Nat) : Int) := wrapN (by omega)
      rw [show decide ((i : Int) < (vs.length : Int)) = true by simpa using hi, List.drop_eq_getElem_cons hi, List.drop_eq_getElem_cons hj]
      simp only [if_pos (Int.natCast_nonneg _), gw, map_get eVa hi, ints_get hj, castI_I, eVa0, eVa1, r29 hK, castB_B, inAll]
      by_cases hw : within a[i + 1] vs[i].lo vs[i].hi = true
      · simp only [hw, Bool.not_true, Bool.true_and]
        exact l28 K hK S st O ins ms vs hnv a ha k (i + 1) (by omega)
      · simp only [Bool.not_eq_true] at hw
        simp only [hw, Bool.not_false, Bool.false_and, Bool.false_eq_true, if_false]
    · rw [show decide ((i : Int) < (vs.length : Int)) = false by simpa using hi, List.drop_eq_nil_of_le (by omega)]
      rfl
theorem r28 {K : Nat} (m : Mo) (a : List Int) (hnv : m.vs.length ≤ 1000) (hal : a.length ≤ 4611686018427387904) (hK : m.vs.length + 3 ≤ K) : run tab K 28 [eMo m, .sl 3 (ints a)] = some (I (atErr m a)) := by
  obtain ⟨K, rfl⟩ := succK (show 1 ≤ K by omega)
  unfold eMo
  rw [eq28]; unfold sh28 tr28 atErr
  rw [ints_len, List.length_map, wrapN (by omega)]
  by_cases hl : a.length = m.vs.length + 1
  · have g0 : (ints a)[0]? = some (I (a.getD 0 0)) := ints_get' (by omega)
    rw [show ((a.length : Int) != ((m.vs.length + 1 : Nat) : Int)) = false by simp; omega, if_pos hl]
    simp only [g0, castI_I, r29 (show 1 ≤ K by omega), castB_B, atIn, w1]
    by_cases hw : within (a.getD 0 0) 0 (IntKind.i64.wrap (m.s - 1)) = true
    · simp only [hw, Bool.not_true, Bool.true_and]
      exact l28 K (by omega) m.s m.st m.o (ints m.ins) (m.ms.map eMv) m.vs (by omega) a hl K 0 (by omega)
    · simp only [Bool.not_eq_true] at hw
      simp only [hw, Bool.not_false, Bool.false_and, Bool.false_eq_true, if_false]
  · rw [show ((a.length : Int) != ((m.vs.length + 1 : Nat) : Int)) = true by simp; omega, if_neg hl]
theorem moFit.mono {K K' : Nat} {m : Mo} (h : moFit K m) (hK : K ≤ K') : moFit K' m :=
  ⟨by have := h.ins; omega, by have := h.vs; omega, by have := h.ms; omega, fun x hx => (h.mv x hx).mono (by omega), h.li, h.lv, h.lm, h.lg, fun n hn h8 => by have := h.dg n hn h8; omega⟩
theorem eP0 (s : Int × Int) : cellN (eP s) 0 = I s.1 := rfl
theorem eP1 (s : Int × Int) : cellN (eP s) 1 = I s.2 := rfl
theorem eMd0 (s : List Int × Int) : cellN (eMd s) 0 = .sl 3 (ints s.1) := rfl
theorem eMd1 (s : List Int × Int) : cellN (eMd s) 1 = I s.2 := rfl
theorem comp20 (a b : AV) : compN (.tup [a, b]) 0 = a := rfl
theorem comp21 (a b : AV) : compN (.tup [a, b]) 1 = b := rfl
theorem comp30 (a b c : AV) : compN (.tup [a, b, c]) 0 = a := rfl
theorem comp31 (a b c : AV) : compN (.tup [a, b, c]) 1 = b := rfl
theorem comp32 (a b c : AV) : compN (.tup [a, b, c]) 2 = c := rfl
def tri (r : List Int × Int × Int) : AV := .tup [.sl 3 (ints r.1), I r.2.1, I r.2.2]
theorem l26 (K : Nat) (hK : 1 ≤ K) (m : Mo) (hnv : m.vs.length ≤ 4611686018427387900) (hlen : (allPs 0 m.ins).length ≤ 1000) (a : List Int) (ha : a.length = m.vs.length + 1) (j : Int)
    (e48 : run tab K 48 [eMo m] = some (.sl 52 ((allPs 0 m.ins).map eP)))
    (e50 : ∀ i : Nat, (hi : i < (allPs 0 m.ins).length) → run tab K 50 [eMo m, .sl 3 (ints a), .agg [I (allPs 0 m.ins)[i].1, I (allPs 0 m.ins)[i].2]] = some (.tup [eMd ((nxt m a i).1, (nxt m a i).2.1), I (nxt m a i).2.2])) :
    ∀ (k i : Nat) (b : Bool), m.vs.length - i < k →
    lp26_6 K k (ints a) j b (m.vs.map eVa) (m.vs.length : Int) (i : Int) m.s m.st (ints m.ins) m.o (m.vs.map eVa) (m.ms.map eMv) =
      some (tri (if b && inAll (m.vs.drop i) (a.drop (i + 1)) then if within j 0 (w1 (allPs 0 m.ins).length) then nxt m a j.toNat else ([], 0, 3) else ([], 0, 3)))
  | 0, i, b, h => by omega
  | k + 1, i, b, h => by
    unfold lp26_6 tr26_6
    by_cases hi : i < m.vs.length
    · have hj : i + 1 < a.length := by omega
      have gw : IntKind.i64.wrap (1 + (i : Int)) = ((i + 1 : Nat) : Int) := by rw [wrapI ⟨by omega, by omega⟩]; omega
      rw [show decide ((i : Int) < (m.vs.length : Int)) = true by simpa using hi, List.drop_eq_getElem_cons hi, List.drop_eq_getElem_cons hj]
      simp only [if_pos (Int.natCast_nonneg _), gw, map_get eVa hi, ints_get hj, castI_I, eVa0, eVa1, eVa2, r57 hK, castB_B, inAll]
      cases b with
      | true =>
        simp only [Bool.true_and]
        rw [wrapN (by omega)]
        exact l26 K hK m hnv hlen a ha j e48 e50 k (i + 1) (within a[i + 1] m.vs[i].lo m.vs[i].hi) (by omega)
      | false =>
        simp only [Bool.false_and, Bool.false_eq_true, if_false]
        rw [wrapN (by omega)]
        simpa using l26 K hK m hnv hlen a ha j e48 e50 k (i + 1) false (by omega)
    · have hd : m.vs.drop i = [] := List.drop_eq_nil_of_le (by omega)
      rw [show decide ((i : Int) < (m.vs.length : Int)) = false by simpa using hi, hd]
      have e48' := e48
      unfold eMo at e48'
      simp only [e48', castL_L, inAll, Bool.and_true]
      cases b with
      | false => rfl
      | true =>
        simp only [Bool.not_true, r57 hK, castB_B, List.length_map, if_true, w1]
        by_cases hw : within j 0 (IntKind.i64.wrap ((((allPs 0 m.ins).length : Nat) : Int) - 1)) = true
        · have hw' : within j 0 (w1 ((allPs 0 m.ins).length : Nat)) = true := hw
          rw [w1_nat (by omega), within_iff] at hw'
          have hj : j.toNat < (allPs 0 m.ins).length := by omega
          have ej : (((allPs 0 m.ins).map eP)[j.toNat]?) = some (eP (allPs 0 m.ins)[j.toNat]) := by simp [hj]
          have e5 := e50 j.toNat hj
          unfold eMo at e5
          simp only [hw, Bool.not_true, if_pos hw'.1, ej, eP0, eP1, castI_I, e5, comp20, comp21, eMd0, eMd1, castL_L, if_true, tri]
        · simp only [Bool.not_eq_true] at hw
          simp only [hw, Bool.not_false, Bool.false_eq_true, if_false, tri]; rfl
def sigN (m : Mo) : Nat := (allPs 0 m.ins).length
def nofS (m : Mo) (a : List Int) (j : Int) : List Int × Int × Int :=
  if (moErr m).2 = 0 then if atErr m a = 0 then if within j 0 (w1 (sigN m)) then nxt m a j.toNat else ([], 0, 3) else ([], 0, atErr m a) else ([], 0, (moErr m).2)
theorem r50m {K : Nat} (m : Mo) (h0 : MsOk K m.vs.length m.ms) {a : List Int} (ha : a.length = m.vs.length + 1) (hK : m.ms.length + 2 ≤ K) (i : Nat) (hi : i < (allPs 0 m.ins).length) :
    run tab (K + 1) 50 [eMo m, .sl 3 (ints a), .agg [I (allPs 0 m.ins)[i].1, I (allPs 0 m.ins)[i].2]] = some (.tup [eMd ((nxt m a i).1, (nxt m a i).2.1), I (nxt m a i).2.2]) := by
  unfold nxt
  rw [List.getElem?_eq_getElem hi]
  exact r50 m.s m.st m.o _ _ (ints m.ins) m.vs m.ms h0 ha hK
theorem r26 {K : Nat} (m : Mo) (hf : moFit K m) (a : List Int) (hal : a.length ≤ 4611686018427387904) (j : Int) : run tab (K + 3) 26 [eMo m, .sl 3 (ints a), I j] = some (tri (nofS m a j)) := by
  have g1 := hf.ins; have g2 := hf.vs; have g3 := hf.ms
  have e47 := r47 (K := K + 1) m (hf.mono (by omega))
  have ev := big hf.lv (by omega)
  have key : (moErr m).2 = 0 → a.length = m.vs.length + 1 → ∀ b, lp26_6 (K + 2) (K + 2) (ints a) j b (m.vs.map eVa) (m.vs.length : Int) 0 m.s m.st (ints m.ins) m.o (m.vs.map eVa) (m.ms.map eMv) =
      some (tri (if b && inAll m.vs (a.drop 1) then if within j 0 (w1 (allPs 0 m.ins).length) then nxt m a j.toNat else ([], 0, 3) else ([], 0, 3))) := by
    intro h0 ha b
    have ok := moOk_of h0
    have := l26 (K + 2) (by omega) m (by have := ok.vs; omega) (by rw [allPs_len]; have := ok.tot; omega) a ha j (r48 m (hf.mono (by omega)) h0) (fun i hi => r50m m (ok.msOk (hf.mono (by omega))) ha (by omega) i hi) (K + 2) 0 b (by omega)
    exact this
  unfold eMo at *
  rw [eq26]; unfold sh26 tr26 nofS
  have r2 : ∀ a b : Int, run tab (K + 2) 61 [.sl 32 [I a, I b]] = some (I (orI [a, b])) := fun a b => r61 [a, b] (by simp) (by simp; omega)
  rw [e47]
  simp only [castI_I, r62 (show 1 ≤ K + 2 by omega), ints_len, List.length_map, r2]
  by_cases h0 : (moErr m).2 = 0
  · have ok := moOk_of h0
    have hv := ok.vs
    rw [h0, if_pos rfl, wrapN (by omega)]
    unfold atErr
    by_cases hl : a.length = m.vs.length + 1
    · have g0 : (ints a)[0]? = some (I (a.getD 0 0)) := ints_get' (by omega)
      rw [show ((a.length : Int) == ((m.vs.length + 1 : Nat) : Int)) = true by simp; omega, if_pos hl]
      simp only [if_true, orI, bne_self_eq_false, g0, castI_I, r57 (show 1 ≤ K + 2 by omega), castB_B]
      rw [key h0 hl]
      unfold atIn
      have e : within (a.getD 0 0) 0 (IntKind.i64.wrap (m.s - 1)) = within (a.getD 0 0) 0 (w1 m.s) := rfl
      rw [e]
      cases within (a.getD 0 0) 0 (w1 m.s) && inAll m.vs (a.drop 1) <;> rfl
    · rw [show ((a.length : Int) == ((m.vs.length + 1 : Nat) : Int)) = false by simp; omega, if_neg hl]
      rfl
  · rw [if_neg h0]
    have : orI [(moErr m).2, if (((a.length : Int) == IntKind.i64.wrap ((m.vs.length : Int) + 1)) = true) then 0 else 6] = (moErr m).2 := by simp [orI, h0]
    rw [this, show ((moErr m).2 != 0) = true by simpa using h0]
    rfl
/-! ### how long configurations are -/
theorem setsS_len {vs : List Va} {a : List Int} {d : Int} : ∀ {ss : List Se} {out r : List Int}, setsS vs a d ss out = some r → r.length = out.length
  | [], out, r, h => by simp only [setsS, Option.some.injEq] at h; rw [h]
  | s :: l, out, r, h => by
    unfold setsS at h
    split at h
    · rw [setsS_len h, List.length_set]
    · simp at h
theorem mvT_len (vs : List Va) (O : Int) (a : List Int) (d : Int) (x : Mv) : (mvT vs O a d x).1.length ≤ a.length ∧ ((mvT vs O a d x).2.2 = true → (mvT vs O a d x).1.length = a.length) := by
  unfold mvT
  split
  · split
    · split
      · rename_i out h
        have := setsS_len h
        rw [List.length_set] at this
        exact ⟨Nat.le_of_eq this, fun _ => this⟩
      · simp
    · simp
  · simp
theorem hits_len (vs : List Va) (O : Int) (a : List Int) (s0 d : Int) : ∀ (l : List Mv), ∀ x ∈ hits vs O a s0 d l, x.1.length = a.length
  | [], x, h => by simp [hits] at h
  | y :: l, x, h => by
    unfold hits at h
    split at h
    · split at h
      · rename_i h1
        rcases List.mem_cons.1 h with rfl | h
        · exact (mvT_len vs O a d y).2 h1
        · exact hits_len vs O a s0 d l x h
      · exact hits_len vs O a s0 d l x h
    · exact hits_len vs O a s0 d l x h
theorem oneOf_len {n : Nat} {l : List (List Int × Int)} (h : ∀ x ∈ l, x.1.length = n) : (oneOf l).1.length ≤ n ∧ ((oneOf l).2.2 = 0 → (oneOf l).1.length = n) := by
  match l, h with
  | [], _ => simp [oneOf]
  | [x], h => have := h x (by simp); simp only [oneOf]; exact ⟨by omega, fun _ => this⟩
  | x :: y :: l, _ => simp [oneOf]
theorem nxt_len (m : Mo) (a : List Int) (j : Nat) (hj : j < sigN m) : (nxt m a j).1.length ≤ a.length ∧ ((nxt m a j).2.2 = 0 → (nxt m a j).1.length = a.length) := by
  unfold nxt
  rw [List.getElem?_eq_getElem (by exact hj)]
  exact oneOf_len (hits_len _ _ _ _ _ _)
theorem nxt_len' (m : Mo) (a : List Int) (j : Nat) : (nxt m a j).1.length ≤ a.length := by
  unfold nxt
  split
  · exact (oneOf_len (hits_len _ _ _ _ _ _)).1
  · simp
theorem nofS_len (m : Mo) (a : List Int) (j : Int) : (nofS m a j).1.length ≤ a.length := by
  unfold nofS
  split
  · split
    · split
      · exact nxt_len' m a _
      · simp
    · simp
  · simp
theorem tri0 (r : List Int × Int × Int) : compN (tri r) 0 = .sl 3 (ints r.1) := rfl
theorem tri1 (r : List Int × Int × Int) : compN (tri r) 1 = I r.2.1 := rfl
theorem tri2 (r : List Int × Int × Int) : compN (tri r) 2 = I r.2.2 := rfl
theorem pairI0 (p : Int × Int) : compN (pairI p) 0 = I p.1 := rfl
theorem pairI1 (p : Int × Int) : compN (pairI p) 1 = I p.2 := rfl
theorem r31s {K : Nat} (x : List Int) (hx : x.length + 2 ≤ K) (hx' : x.length ≤ 4611686018427387904) : run tab K 31 [.sl 3 (ints x), .sl 3 (ints x)] = some (B true) := by
  rw [r31 x x hx' hx' hx]; simp
/-- The law ModelNexts. -/
theorem r5 {K : Nat} (m : Mo) (a : List Int) (j : Int) (hf : moFit K m) (ha : a.length * 8 ≤ maxBytes) (hK : a.length + m.vs.length + 10 ≤ K) (e13 : run tab (K + 3) 13 [] = some (B true)) : run tab (K + 4) 5 [eMo m, .sl 3 (ints a), I j] = some (B true) := by
  have g1 := hf.ins; have g2 := hf.vs; have g3 := hf.ms
  have hb := big ha (by omega)
  have e15 := r15 (K := K + 3) m (hf.mono (by omega))
  have e27 := r27 (K := K + 3) (ints a) (by rw [ints_len]; exact ha) (by omega)
  have e26 := r26 m hf a hb j
  have e16 := r16 (K := K + 3) m (hf.mono (by omega))
  have e28 : (moErr m).2 = 0 → run tab (K + 3) 28 [eMo m, .sl 3 (ints a)] = some (I (atErr m a)) := fun h0 => r28 m a (by have := (moOk_of h0).vs; omega) hb (by omega)
  have e25 : (moErr m).2 = 0 → _ := r25 (K := K + 3) m (hf.mono (by omega))
  have e30 : (moErr m).2 = 0 → atErr m a = 0 → within j 0 (w1 (sigN m)) = true → run tab (K + 3) 30 [eMo m, .sl 3 (ints a), I j] = some (tri (nxt m a j.toNat)) := by
    intro h0 h1 h2
    have ok := moOk_of h0
    have hl : a.length = m.vs.length + 1 := by
      unfold atErr at h1
      split at h1
      · assumption
      · simp at h1
    have hs : sigN m = tot m.ins := allPs_len _ _
    have ht := ok.tot
    rw [w1_nat (by omega), within_iff] at h2
    have := r30 (K := K + 2) m (hf.mono (by omega)) h0 (ok.msOk (hf.mono (by omega))) hl j.toNat (by unfold sigN at h2; omega)
    rw [show ((j.toNat : Nat) : Int) = j by omega] at this
    exact this
  have ln := nofS_len m a j
  have rs := r31s (K := K + 3) (nofS m a j).1 (by omega) (by omega)
  have c : ∀ x : List Int, .sl 3 [] = AV.sl 3 (ints []) := fun _ => rfl
  unfold eMo at *
  rw [eq5]; unfold sh5 tr5
  simp only [e13, castB_B, Bool.not_true, e15, cellN_agg, List.getD_cons_zero, List.getD_cons_succ, castI_I, castL_L, e27, e26, e16, tri0, tri1, tri2, pairI0, pairI1]
  by_cases h0 : (moErr m).2 = 0
  · simp only [h0, beq_self_eq_true, e28 h0, castI_I]
    by_cases h1 : atErr m a = 0
    · have hs : (((allPs 0 m.ins).map eP).length : Int) = (sigN m : Int) := by rw [List.length_map]; rfl
      have hw : IntKind.i64.wrap ((sigN m : Int) - 1) = w1 (sigN m) := rfl
      simp only [h1, beq_self_eq_true, e25 h0, castL_L, r29 (show 1 ≤ K + 3 by omega), castB_B, hs, hw]
      cases h2 : within j 0 (w1 (sigN m)) with
      | true =>
        have hn : nofS m a j = nxt m a j.toNat := by unfold nofS; rw [if_pos h0, if_pos h1, if_pos h2]
        rw [hn] at rs ⊢
        simp only [Bool.not_true, e30 h0 h1 h2, tri0, tri1, tri2, castI_I, castL_L, beq_self_eq_true, rs, castB_B]
      | false =>
        have hn : nofS m a j = ([], 0, 3) := by unfold nofS; rw [if_pos h0, if_pos h1, if_neg (by simp [h2])]
        rw [hn] at rs ⊢
        have rs' : run tab (K + 3) 31 [.sl 3 [], .sl 3 []] = some (B true) := rs
        simp only [Bool.not_false, beq_self_eq_true, ints, List.map_nil, rs', castB_B]
    · have hn : nofS m a j = ([], 0, atErr m a) := by unfold nofS; rw [if_pos h0, if_neg h1]
      rw [hn] at rs ⊢
      have rs' : run tab (K + 3) 31 [.sl 3 [], .sl 3 []] = some (B true) := rs
      rw [show (atErr m a == 0) = false by simpa using h1]
      simp only [beq_self_eq_true, ints, List.map_nil, rs', castB_B]
  · have hn : nofS m a j = ([], 0, (moErr m).2) := by unfold nofS; rw [if_neg h0]
    rw [hn] at rs ⊢
    have rs' : run tab (K + 3) 31 [.sl 3 [], .sl 3 []] = some (B true) := rs
    rw [show ((moErr m).2 == 0) = false by simpa using h0]
    simp only [beq_self_eq_true, ints, List.map_nil, rs', castB_B]
end Go.Proofs.YtahifpeggdcamaaDoor
