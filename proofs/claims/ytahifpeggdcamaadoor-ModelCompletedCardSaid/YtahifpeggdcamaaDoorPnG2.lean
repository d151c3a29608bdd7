/- A part of an interpreter of the model's code that is proved sound, and of laws told by it: DamM2. -/
import Derived.Test.YtahifpeggdcamaaDoorPnG1
set_option linter.unusedVariables false
set_option linter.unusedSimpArgs false
/- What a move does: the model's function and the reference's. -/
namespace Go.Proofs.YtahifpeggdcamaaDoor
open Go.Dam
set_option linter.unusedVariables false
set_option linter.unusedSimpArgs false
theorem wrap_minus (a b : Int) : IntKind.i64.wrap (IntKind.i64.wrap (-b) + a) = IntKind.i64.wrap (a - b) := by
  simp only [IntKind.wrap_i64]; omega
theorem ints_set (l : List Int) (j : Nat) (n : Int) : (ints l).set j (I n) = ints (l.set j n) := by simp [ints, List.map_set]
theorem isI64_ints (l : List Int) : (ints l).all isI64 = true := by
  simp only [ints, List.all_map, List.all_eq_true]; intro x _; rfl
theorem r70 {K : Nat} (h : 1 ≤ K) (l : List Int) (hl : l.length * 8 ≤ 140737488355328) : run tab K 70 [.sl 3 (ints l)] = some (.sl 3 (ints l)) := by
  obtain ⟨K, rfl⟩ := succK h
  rw [show run tab (K + 1) 70 [.sl 3 (ints l)] = extClone 3 [.sl 3 (ints l)] from rfl]
  unfold extClone
  simp only []
  rw [isI64_ints, show Nat.beq 3 3 = true from rfl, ints_len, show Nat.ble (l.length * 8) 140737488355328 = true by simpa using hl]
  rfl
def outT (r : List Int × Int × Bool) : AV := .tup [.agg [.sl 3 (ints r.1), I r.2.1], B r.2.2]
def setT (O q : Int) : Option (List Int) → List Int × Int × Bool
  | some o => (o, q, within q 0 (w1 O))
  | none => ([], 0, false)
theorem l82 (K : Nat) (hK : 2 ≤ K) (S st O : Int) (ins ms : List AV) (vs : List Va) (hnv : vs.length ≤ 4611686018427387900) {a : List Int} (ha : a.length = vs.length + 1) (d : Int) (y12 : List AV) (y13 q : Int) (ss : List Se) (hl : ss.length ≤ 4611686018427387904) (ho : ∀ s ∈ ss, seOk vs.length s) :
    ∀ (k i : Nat) (out : List Int), ss.length - i < k → out.length = vs.length + 1 →
    lp82_7 K k (ss.map eSe) (ss.length : Int) (i : Int) S st ins O (vs.map eVa) ms (ints a) d y12 y13 (ints out) q = some (outT (setT O q (setsS vs a d (ss.drop i) out)))
  | 0, i, out, h, _ => by omega
  | k + 1, i, out, h, hout => by
    unfold lp82_7 tr82_7
    by_cases hi : i < ss.length
    · obtain ⟨o1, o2, o3, o4⟩ := ho _ (List.getElem_mem hi)
      have hv : ss[i].v.toNat < vs.length := by omega
      have gv : (vs.map eVa)[ss[i].v.toNat]? = some (eVa vs[ss[i].v.toNat]) := by simp [hv]
      have iv : ∀ n, inV vs ss[i].v n = within n vs[ss[i].v.toNat].lo vs[ss[i].v.toNat].hi := fun n => by unfold inV; rw [List.getElem?_eq_getElem hv]
      have gw : IntKind.i64.wrap (1 + ss[i].v) = ss[i].v + 1 := by rw [wrapI ⟨by omega, by omega⟩]; omega
      have go : (ints out)[(ss[i].v + 1).toNat]? = some (I (out.getD (ss[i].v + 1).toNat 0)) := ints_get' (by omega)
      have gl : (ss[i].v + 1).toNat < (ints out).length := by rw [ints_len]; omega
      rw [show decide ((i : Int) < (ss.length : Int)) = true by simpa using hi, List.drop_eq_getElem_cons hi]
      simp only [if_pos (Int.natCast_nonneg i), map_get eSe hi, eSe0, eSe1, eSe2, eSe3, eSe4, eSe5, castI_I, castB_B, r105 (show 1 ≤ K by omega) hnv ha d o3, r105 (show 1 ≤ K by omega) hnv ha d o4, if_pos o1, gv, eVa0, eVa1, eVa2, r57 (show 1 ≤ K by omega), gw, if_pos (show 0 ≤ ss[i].v + 1 by omega), go, if_pos gl, ints_set, wrap_minus, setsS, setN, ← iv]
      by_cases hm : ss[i].m = true
      · simp only [hm, if_true]
        cases hin : inV vs ss[i].v (IntKind.i64.wrap (val ss[i].ak ss[i].an a d - val ss[i].bk ss[i].bn a d)) with
        | true =>
          simp only [Bool.not_true, if_true]
          rw [wrapN (by omega)]
          exact l82 K hK S st O ins ms vs hnv ha d y12 y13 q ss hl ho k (i + 1) _ (by omega) (by simpa using hout)
        | false => rfl
      · simp only [Bool.not_eq_true] at hm
        simp only [hm, Bool.false_eq_true, if_false]
        rw [Int.add_comm (val ss[i].bk ss[i].bn a d)]
        cases hin : inV vs ss[i].v (IntKind.i64.wrap (val ss[i].ak ss[i].an a d + val ss[i].bk ss[i].bn a d)) with
        | true =>
          simp only [Bool.not_true, if_true]
          rw [wrapN (by omega)]
          exact l82 K hK S st O ins ms vs hnv ha d y12 y13 q ss hl ho k (i + 1) _ (by omega) (by simpa using hout)
        | false => rfl
    · have hd : ss.drop i = [] := List.drop_eq_nil_of_le (by omega)
      rw [show decide ((i : Int) < (ss.length : Int)) = false by simpa using hi, hd]
      simp only [r57 (show 1 ≤ K by omega), castB_B, setsS, setT, outT, w1]
theorem r82 {K : Nat} (S st O : Int) (ins ms : List AV) (vs : List Va) (hnv : vs.length ≤ 1000) {a : List Int} (ha : a.length = vs.length + 1) (d : Int) (x : Mv) (hx : MvOk vs.length x) (hf : mvFit K x) :
    run tab K 82 [.agg [I S, I st, .sl 3 ins, I O, .sl 105 (vs.map eVa), .sl 103 ms], eMv x, .sl 3 (ints a), I d] = some (outT (mvT vs O a d x)) := by
  obtain ⟨f1, f2, f3⟩ := hf
  obtain ⟨K, rfl⟩ := succK (show 1 ≤ K by omega)
  unfold eMv
  rw [eq82]; unfold sh82 tr82 mvT
  have g0 : (ints a)[0]? = some (I (a.getD 0 0)) := ints_get' (by omega)
  simp only [g0, castI_I]
  by_cases h0 : x.f = a.getD 0 0
  · rw [show (x.f != a.getD 0 0) = false by simpa using h0, if_pos h0]
    simp only [r104 (K := K) (nv := vs.length) (by omega) ha d x.gd hx.gd f2 (by omega), castB_B]
    cases hg : x.gd.all (fun t => holdsS t a d) with
    | false => rfl
    | true =>
      have gl : 0 < (ints a).length := by rw [ints_len]; omega
      simp only [Bool.not_true, r70 (show 1 ≤ K by omega) a (by omega), castL_L, r105 (show 1 ≤ K by omega) (show vs.length ≤ 4611686018427387900 by omega) ha d hx.o, castI_I, g0, if_pos gl, ints_set, List.length_map, if_true]
      have := l82 K (by omega) S st O ins ms vs (by omega) ha d [] 0 (val x.ok x.on a d) x.ss f1 hx.ss K 0 (a.set 0 x.t) (by omega) (by simpa using ha)
      rw [List.drop_zero] at this
      refine Eq.trans this ?_
      cases setsS vs a d x.ss (a.set 0 x.t) <;> rfl
  · rw [show (x.f != a.getD 0 0) = true by simpa using h0, if_neg h0]; rfl
def outR (r : List Int × Int × Bool) : AV := .tup [.sl 3 (ints r.1), I r.2.1, B r.2.2]
theorem l65b (K : Nat) (hK : 2 ≤ K) (q4) (S st O f t n ok on s0 : Int) (ins ms gd : List AV) (vs : List Va) (hnv : vs.length ≤ 4611686018427387900) {a : List Int} (ha : a.length = vs.length + 1) (d : Int) (ss : List Se) (hl : ss.length ≤ 4611686018427387904) (ho : ∀ s ∈ ss, seOk vs.length s) (hok : opErr vs.length ok on = 0) :
    ∀ (k i : Nat) (out : List Int), ss.length - i < k → out.length = vs.length + 1 →
    lp65_11 K q4 k (ints a) (ints out) (i : Int) S st ins O (vs.map eVa) ms f t n gd (ss.map eSe) ok on s0 d = some (outR (setT O (val ok on a d) (setsS vs a d (ss.drop i) out)))
  | 0, i, out, h, _ => by omega
  | k + 1, i, out, h, hout => by
    unfold lp65_11 tr65_11
    rw [List.length_map]
    by_cases hi : i < ss.length
    · obtain ⟨o1, o2, o3, o4⟩ := ho _ (List.getElem_mem hi)
      have hv : ss[i].v.toNat < vs.length := by omega
      have gv : (vs.map eVa)[ss[i].v.toNat]? = some (eVa vs[ss[i].v.toNat]) := by simp [hv]
      have iv : ∀ n, inV vs ss[i].v n = within n vs[ss[i].v.toNat].lo vs[ss[i].v.toNat].hi := fun n => by unfold inV; rw [List.getElem?_eq_getElem hv]
      have gw : IntKind.i64.wrap (ss[i].v + 1) = ss[i].v + 1 := by rw [wrapI ⟨by omega, by omega⟩]
      have go : (ints out)[(ss[i].v + 1).toNat]? = some (I (out.getD (ss[i].v + 1).toNat 0)) := ints_get' (by omega)
      have gl : (ss[i].v + 1).toNat < (ints out).length := by rw [ints_len]; omega
      rw [show decide ((i : Int) < (ss.length : Int)) = true by simpa using hi, List.drop_eq_getElem_cons hi]
      simp only [if_pos (Int.natCast_nonneg i), map_get eSe hi, eSe0, eSe1, eSe2, eSe3, eSe4, eSe5, castI_I, castB_B, r89 (show 1 ≤ K by omega) hnv ha d o3, r89 (show 1 ≤ K by omega) hnv ha d o4, if_pos o1, gv, eVa0, eVa1, eVa2, r29 (show 1 ≤ K by omega), gw, if_pos (show 0 ≤ ss[i].v + 1 by omega), go, if_pos gl, ints_set, setsS, setN, ← iv]
      by_cases hm : ss[i].m = true
      · simp only [hm, if_true]
        cases hin : inV vs ss[i].v (IntKind.i64.wrap (val ss[i].ak ss[i].an a d - val ss[i].bk ss[i].bn a d)) with
        | true =>
          simp only [Bool.not_true, if_true]
          rw [wrapN (by omega)]
          exact l65b K hK q4 S st O f t n ok on s0 ins ms gd vs hnv ha d ss hl ho hok k (i + 1) _ (by omega) (by simpa using hout)
        | false => rfl
      · simp only [Bool.not_eq_true] at hm
        simp only [hm, Bool.false_eq_true, if_false]
        cases hin : inV vs ss[i].v (IntKind.i64.wrap (val ss[i].ak ss[i].an a d + val ss[i].bk ss[i].bn a d)) with
        | true =>
          simp only [Bool.not_true, if_true]
          rw [wrapN (by omega)]
          exact l65b K hK q4 S st O f t n ok on s0 ins ms gd vs hnv ha d ss hl ho hok k (i + 1) _ (by omega) (by simpa using hout)
        | false => rfl
    · have hd : ss.drop i = [] := List.drop_eq_nil_of_le (by omega)
      rw [show decide ((i : Int) < (ss.length : Int)) = false by simpa using hi, hd]
      simp only [r89 (show 1 ≤ K by omega) hnv ha d hok, castI_I, r29 (show 1 ≤ K by omega), castB_B, setsS, setT, outR, w1]
theorem l65a (K : Nat) (S st O f t n ok on s0 : Int) (ins ms : List AV) (vs : List Va) (hnv : vs.length ≤ 1000) {a : List Int} (ha : a.length = vs.length + 1) (d : Int) (gd : List Ts) (hg : gd.length ≤ 4611686018427387904) (hgd : ∀ t ∈ gd, tsOk vs.length t) (ss : List Se) (hl : ss.length ≤ 4611686018427387904) (ho : ∀ s ∈ ss, seOk vs.length s) (hok : opErr vs.length ok on = 0) (hK : ss.length + 3 ≤ K) :
    ∀ (k i : Nat), gd.length - i < k →
    lp65_4 K k (ints a) (i : Int) S st ins O (vs.map eVa) ms f t n (gd.map eTs) (ss.map eSe) ok on s0 d =
      some (outR (if (gd.drop i).all (fun t => holdsS t a d) then setT O (val ok on a d) (setsS vs a d ss (a.set 0 t)) else ([], 0, false)))
  | 0, i, h => by omega
  | k + 1, i, h => by
    unfold lp65_4 tr65_4
    rw [List.length_map]
    by_cases hi : i < gd.length
    · have r8 := r88 (K := K) (by omega) (show vs.length ≤ 4611686018427387900 by omega) ha d (hgd _ (List.getElem_mem hi))
      unfold eTs at r8
      rw [show decide ((i : Int) < (gd.length : Int)) = true by simpa using hi, List.drop_eq_getElem_cons hi]
      simp only [if_pos (Int.natCast_nonneg i), map_get eTs hi, eTs0, eTs1, eTs2, eTs3, eTs4, castI_I, castB_B, r8, List.all_cons]
      by_cases h0 : holdsS gd[i] a d = true
      · simp only [h0, Bool.not_true, Bool.true_and]
        rw [wrapN (by omega)]
        exact l65a K S st O f t n ok on s0 ins ms vs hnv ha d gd hg hgd ss hl ho hok hK k (i + 1) (by omega)
      · simp only [Bool.not_eq_true] at h0
        simp only [h0, Bool.not_false, Bool.false_and, Bool.false_eq_true, if_false]; rfl
    · have hd : gd.drop i = [] := List.drop_eq_nil_of_le (by omega)
      rw [show decide ((i : Int) < (gd.length : Int)) = false by simpa using hi, hd]
      have g0 : (ints a)[0]? = some (I (a.getD 0 0)) := ints_get' (by omega)
      have gl : 0 < (ints a).length := by rw [ints_len]; omega
      have gm : (ints a).length * 8 ≤ maxBytes := by
        rw [ints_len]
        have : (1001 : Nat) * 8 ≤ maxBytes := by decide
        omega
      have := l65b K (by omega) (lp65_4 K k) S st O f t n ok on s0 ins ms (gd.map eTs) vs (by omega) ha d ss hl ho hok K 0 (a.set 0 t) (by omega) (by simpa using ha)
      rw [List.drop_zero] at this
      simp only [r27 _ gm (show 1 ≤ K by omega), castL_L, g0, if_pos gl, ints_set, List.all_nil, if_true]
      exact this
theorem r65 {K : Nat} (S st O s0 : Int) (ins ms : List AV) (vs : List Va) (hnv : vs.length ≤ 1000) {a : List Int} (ha : a.length = vs.length + 1) (d : Int) (x : Mv) (hx : MvOk vs.length x) (hf : mvFit K x) :
    run tab K 65 [.agg [I S, I st, .sl 3 ins, I O, .sl 105 (vs.map eVa), .sl 103 ms], eMv x, .sl 3 (ints a), .agg [I s0, I d]] = some (outR (if x.n = s0 then mvT vs O a d x else ([], 0, false))) := by
  obtain ⟨f1, f2, f3⟩ := hf
  obtain ⟨K, rfl⟩ := succK (show 1 ≤ K by omega)
  unfold eMv
  rw [eq65]; unfold sh65 tr65 mvT
  have g0 : (ints a)[0]? = some (I (a.getD 0 0)) := ints_get' (by omega)
  simp only [g0, castI_I]
  by_cases h0 : x.f = a.getD 0 0
  · rw [show (x.f != a.getD 0 0) = false by simpa using h0]
    by_cases h1 : x.n = s0
    · rw [show (x.n != s0) = false by simpa using h1, if_pos h1, if_pos h0]
      have := l65a K S st O x.f x.t x.n x.ok x.on s0 ins ms vs hnv ha d x.gd f2 hx.gd x.ss f1 hx.ss hx.o (by omega) K 0 (by omega)
      rw [List.drop_zero] at this
      refine Eq.trans this ?_
      cases setsS vs a d x.ss (a.set 0 x.t) <;> rfl
    · rw [show (x.n != s0) = true by simpa using h1, if_neg h1]; rfl
  · rw [show (x.f != a.getD 0 0) = true by simpa using h0]
    simp only [if_neg h0, ite_self]; rfl
end Go.Proofs.YtahifpeggdcamaaDoor
