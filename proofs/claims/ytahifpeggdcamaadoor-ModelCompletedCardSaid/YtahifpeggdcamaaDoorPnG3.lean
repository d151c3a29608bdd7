/- A part of an interpreter of the model's code that is proved sound, and of laws told by it: DamM3. -/
import Derived.Test.YtahifpeggdcamaaDoorPnG2
set_option linter.unusedVariables false
set_option linter.unusedSimpArgs false
/- What comes of a signal: the model's function and the reference's. -/
namespace Go.Proofs.YtahifpeggdcamaaDoor
open Go.Dam
set_option linter.unusedVariables false
set_option linter.unusedSimpArgs false
/-- The moves that are possible, with what they do. -/
def hits (vs : List Va) (O : Int) (a : List Int) (s0 d : Int) : List Mv → List (List Int × Int)
  | [] => []
  | x :: l => if x.n = s0 then if (mvT vs O a d x).2.2 then ((mvT vs O a d x).1, (mvT vs O a d x).2.1) :: hits vs O a s0 d l else hits vs O a s0 d l else hits vs O a s0 d l
def oneOf : List (List Int × Int) → List Int × Int × Int
  | [] => ([], 0, 23)
  | [x] => (x.1, x.2, 0)
  | _ => ([], 0, 35)
def eMd (x : List Int × Int) : AV := .agg [.sl 3 (ints x.1), I x.2]
/-- So much do the moves of a right model want. -/
structure MsOk (K : Nat) (nv : Nat) (ms : List Mv) : Prop where
  ok : ∀ x ∈ ms, MvOk nv x
  fit : ∀ x ∈ ms, mvFit K x
  nv : nv ≤ 1000
  le : ms.length ≤ 1000
theorem l50 (K : Nat) (S st O s0 d : Int) (ins : List AV) (vs : List Va) (ms : List Mv) (h0 : MsOk K vs.length ms) {a : List Int} (ha : a.length = vs.length + 1) (y14 : List AV) (y15 : Int) :
    ∀ (k i : Nat) (acc : List (List Int × Int)), ms.length - i < k → acc.length ≤ i →
    lp50_3 K k (ints a) (acc.map eMd) (ms.map eMv) (ms.length : Int) (i : Int) S st ins O (vs.map eVa) (ms.map eMv) s0 d y14 y15 =
      some (.tup [eMd ((oneOf (acc ++ hits vs O a s0 d (ms.drop i))).1, (oneOf (acc ++ hits vs O a s0 d (ms.drop i))).2.1), I (oneOf (acc ++ hits vs O a s0 d (ms.drop i))).2.2])
  | 0, i, acc, h, _ => by omega
  | k + 1, i, acc, h, hacc => by
    have hle := h0.le
    unfold lp50_3 tr50_3
    by_cases hi : i < ms.length
    · have hm := List.getElem_mem hi
      have r8 := r82 S st O ins (ms.map eMv) vs h0.nv ha d ms[i] (h0.ok _ hm) (h0.fit _ hm)
      unfold eMv at r8
      rw [show decide ((i : Int) < (ms.length : Int)) = true by simpa using hi, List.drop_eq_getElem_cons hi]
      simp only [if_pos (Int.natCast_nonneg i), map_get eMv hi, eMv0, eMv1, eMv2, eMv3, eMv4, eMv5, eMv6, castI_I, castL_L, hits]
      by_cases hn : ms[i].n = s0
      · rw [show (ms[i].n != s0) = false by simpa using hn]
        rw [if_pos hn]
        have e82 : run tab K 82 [.agg [I S, I st, .sl 3 ins, I O, .sl 105 (vs.map eVa), .sl 103 (ms.map eMv)], .agg [I ms[i].f, I ms[i].t, I ms[i].n, .sl 141 (ms[i].gd.map eTs), .sl 139 (ms[i].ss.map eSe), I ms[i].ok, I ms[i].on], .sl 3 (ints a), I d] = some (outT (mvT vs O a d ms[i])) := r8
        have c0 : ∀ r, compN (outT r) 0 = .agg [.sl 3 (ints r.1), I r.2.1] := fun _ => rfl
        have c1 : ∀ r, compN (outT r) 1 = B r.2.2 := fun _ => rfl
        have c2 : ∀ r : List Int × Int × Bool, cellN (.agg [.sl 3 (ints r.1), I r.2.1]) 0 = .sl 3 (ints r.1) := fun _ => rfl
        have c3 : ∀ r : List Int × Int × Bool, cellN (.agg [.sl 3 (ints r.1), I r.2.1]) 1 = I r.2.1 := fun _ => rfl
        simp only [e82, c0, c1, c2, c3, castL_L, castI_I, castB_B]
        cases hb : (mvT vs O a d ms[i]).2.2 with
        | true =>
          have hq : ((acc.map eMd).length + ([.agg [.sl 3 (ints (mvT vs O a d ms[i]).1), I (mvT vs O a d ms[i]).2.1]] : List AV).length) * 32 ≤ maxBytes := by
            have : (2000 : Nat) * 32 ≤ maxBytes := by decide
            simp only [List.length_map, List.length_cons, List.length_nil]; omega
          simp only [if_pos hq, if_true]
          have := l50 K S st O s0 d ins vs ms h0 ha y14 y15 k (i + 1) (acc ++ [((mvT vs O a d ms[i]).1, (mvT vs O a d ms[i]).2.1)]) (by omega) (by simp; omega)
          rw [wrapN (by omega)]
          rw [List.append_assoc, List.map_append] at this
          exact this
        | false =>
          simp only [Bool.false_eq_true, if_false]
          rw [wrapN (by omega)]
          exact l50 K S st O s0 d ins vs ms h0 ha y14 y15 k (i + 1) acc (by omega) (by omega)
      · rw [show (ms[i].n != s0) = true by simpa using hn, if_neg hn]
        simp only []
        rw [wrapN (by omega)]
        exact l50 K S st O s0 d ins vs ms h0 ha y14 y15 k (i + 1) acc (by omega) (by omega)
    · have hd : ms.drop i = [] := List.drop_eq_nil_of_le (by omega)
      rw [show decide ((i : Int) < (ms.length : Int)) = false by simpa using hi, hd]
      simp only [hits, List.append_nil, List.length_map]
      match acc with
      | [] => rfl
      | [x] => rfl
      | x :: y :: l =>
        rw [show ((((x :: y :: l).length : Nat) : Int) == 0) = false by simp; omega, show ((((x :: y :: l).length : Nat) : Int) == 1) = false by simp; omega]
        rfl
theorem r50 {K : Nat} (S st O s0 d : Int) (ins : List AV) (vs : List Va) (ms : List Mv) (h0 : MsOk K vs.length ms) {a : List Int} (ha : a.length = vs.length + 1) (hK : ms.length + 2 ≤ K) :
    run tab (K + 1) 50 [.agg [I S, I st, .sl 3 ins, I O, .sl 105 (vs.map eVa), .sl 103 (ms.map eMv)], .sl 3 (ints a), .agg [I s0, I d]] =
      some (.tup [eMd ((oneOf (hits vs O a s0 d ms)).1, (oneOf (hits vs O a s0 d ms)).2.1), I (oneOf (hits vs O a s0 d ms)).2.2]) := by
  rw [eq50]; unfold sh50 tr50
  rw [List.length_map]
  exact l50 K S st O s0 d ins vs ms h0 ha [] 0 K 0 [] (by omega) (by simp)
/-- The last of those, and how many they are. -/
def lastOf : List (List Int × Int) → List Int × Int → List Int × Int
  | [], p => p
  | x :: l, _ => lastOf l x
def lastR (c : Nat) (l : List (List Int × Int)) (p : List Int × Int) : AV := if c + l.length = 0 then .tup [.sl 3 [], I 0, I 23] else if c + l.length > 1 then .tup [.sl 3 [], I 0, I 35] else .tup [.sl 3 (ints (lastOf l p).1), I (lastOf l p).2, I 0]
theorem lastR_cons (c : Nat) (x : List Int × Int) (l : List (List Int × Int)) (p : List Int × Int) : lastR c (x :: l) p = lastR (c + 1) l x := by
  unfold lastR
  rw [List.length_cons, show c + (l.length + 1) = c + 1 + l.length by omega]; rfl
theorem l30 (K : Nat) (S st O : Int) (ins : List Int) (vs : List Va) (ms : List Mv) (h0 : MsOk K vs.length ms) {a : List Int} (ha : a.length = vs.length + 1) (sg : List (Int × Int)) (j : Nat) (hj : j < sg.length) :
    ∀ (k i c : Nat) (p : List Int × Int), ms.length - i < k → c ≤ i →
    lp30_5 K k (ints a) (j : Int) (ints p.1) p.2 (c : Int) (sg.map eP) (i : Int) S st (ints ins) O (vs.map eVa) (ms.map eMv) =
      some (lastR c (hits vs O a sg[j].1 sg[j].2 (ms.drop i)) p)
  | 0, i, c, p, h, _ => by omega
  | k + 1, i, c, p, h, hc => by
    have hle := h0.le
    unfold lp30_5 tr30_5
    rw [List.length_map]
    by_cases hi : i < ms.length
    · have hm := List.getElem_mem hi
      have r8 := r65 S st O sg[j].1 (ints ins) (ms.map eMv) vs h0.nv ha sg[j].2 ms[i] (h0.ok _ hm) (h0.fit _ hm)
      have e65 : run tab K 65 [.agg [I S, I st, .sl 3 (ints ins), I O, .sl 105 (vs.map eVa), .sl 103 (ms.map eMv)], .agg [I ms[i].f, I ms[i].t, I ms[i].n, .sl 141 (ms[i].gd.map eTs), .sl 139 (ms[i].ss.map eSe), I ms[i].ok, I ms[i].on], .sl 3 (ints a), .agg [I sg[j].1, I sg[j].2]] = some (outR (if ms[i].n = sg[j].1 then mvT vs O a sg[j].2 ms[i] else ([], 0, false))) := r8
      have c0 : ∀ r, compN (outR r) 0 = .sl 3 (ints r.1) := fun _ => rfl
      have c1 : ∀ r, compN (outR r) 1 = I r.2.1 := fun _ => rfl
      have c2 : ∀ r, compN (outR r) 2 = B r.2.2 := fun _ => rfl
      have e0 : cellN (eP sg[j]) 0 = I sg[j].1 := rfl
      have e1 : cellN (eP sg[j]) 1 = I sg[j].2 := rfl
      rw [show decide ((i : Int) < (ms.length : Int)) = true by simpa using hi, List.drop_eq_getElem_cons hi]
      simp only [if_pos (Int.natCast_nonneg i), if_pos (Int.natCast_nonneg j), map_get eMv hi, map_get eP hj, e0, e1, eMv0, eMv1, eMv2, eMv3, eMv4, eMv5, eMv6, castI_I, castL_L, castB_B, hits, e65, c0, c1, c2]
      by_cases hn : ms[i].n = sg[j].1
      · rw [if_pos hn, if_pos hn]
        cases hb : (mvT vs O a sg[j].2 ms[i]).2.2 with
        | true =>
          simp only [if_true]
          rw [wrapN (by omega), wrapN (by omega), lastR_cons]
          exact l30 K S st O ins vs ms h0 ha sg j hj k (i + 1) (c + 1) ((mvT vs O a sg[j].2 ms[i]).1, (mvT vs O a sg[j].2 ms[i]).2.1) (by omega) (by omega)
        | false =>
          simp only [Bool.false_eq_true, if_false]
          rw [wrapN (by omega)]
          exact l30 K S st O ins vs ms h0 ha sg j hj k (i + 1) c p (by omega) (by omega)
      · rw [if_neg hn, if_neg hn]
        simp only []
        rw [wrapN (by omega)]
        exact l30 K S st O ins vs ms h0 ha sg j hj k (i + 1) c p (by omega) (by omega)
    · have hd : ms.drop i = [] := List.drop_eq_nil_of_le (by omega)
      rw [show decide ((i : Int) < (ms.length : Int)) = false by simpa using hi, hd]
      simp only [hits, lastR, List.length_nil, Nat.add_zero, lastOf]
      by_cases c0 : c = 0
      · subst c0; rfl
      · rw [show ((c : Int) == 0) = false by simpa using c0, if_neg c0]
        by_cases c1 : c > 1
        · rw [show decide ((c : Int) > 1) = true by simp; omega, if_pos c1]
        · rw [show decide ((c : Int) > 1) = false by simp; omega, if_neg c1]
theorem oneOf_eq : ∀ (l : List (List Int × Int)), lastR 0 l ([], 0) = .tup [.sl 3 (ints (oneOf l).1), I (oneOf l).2.1, I (oneOf l).2.2]
  | [] => rfl
  | [x] => rfl
  | x :: y :: l => by
    unfold lastR
    rw [if_neg (by simp), if_pos (by simp)]; rfl
/-- What comes of a signal of a model. -/
def nxt (m : Mo) (a : List Int) (j : Nat) : List Int × Int × Int := match (allPs 0 m.ins)[j]? with
  | some s => oneOf (hits m.vs m.o a s.1 s.2 m.ms)
  | none => ([], 0, 0)
theorem r30 {K : Nat} (m : Mo) (hf : moFit K m) (he : (moErr m).2 = 0) (h0 : MsOk K m.vs.length m.ms) {a : List Int} (ha : a.length = m.vs.length + 1) (j : Nat) (hj : j < (allPs 0 m.ins).length) :
    run tab (K + 1) 30 [eMo m, .sl 3 (ints a), I (j : Int)] = some (.tup [.sl 3 (ints (nxt m a j).1), I (nxt m a j).2.1, I (nxt m a j).2.2]) := by
  have g3 := hf.ms
  have e25 := r25 m hf he
  unfold eMo at *
  rw [eq30]; unfold sh30 tr30
  rw [e25]
  simp only [castL_L]
  have := l30 K m.s m.st m.o m.ins m.vs m.ms h0 ha (allPs 0 m.ins) j hj K 0 0 ([], 0) (by omega) (by omega)
  rw [List.drop_zero, oneOf_eq] at this
  unfold nxt
  rw [List.getElem?_eq_getElem hj]
  exact this
end Go.Proofs.YtahifpeggdcamaaDoor
