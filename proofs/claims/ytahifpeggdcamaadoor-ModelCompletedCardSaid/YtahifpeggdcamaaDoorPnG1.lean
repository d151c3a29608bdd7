/- A part of an interpreter of the model's code that is proved sound, and of laws told by it: DamM1. -/
import Derived.Test.YtahifpeggdcamaaDoorPnE4
set_option linter.unusedVariables false
set_option linter.unusedSimpArgs false
/- Operands' values, tests, moves: plain specifications; what the model's and the reference's functions tell. -/
namespace Go.Proofs.YtahifpeggdcamaaDoor
open Go.Dam
set_option linter.unusedVariables false
set_option linter.unusedSimpArgs false
def val (k n : Int) (at' : List Int) (d : Int) : Int := if k = 1 then at'.getD (n + 1).toNat 0 else if k = 2 then d else n
theorem opErr_ok {nv : Nat} (hnv : nv ≤ 4611686018427387904) {k n : Int} (h : opErr nv k n = 0) : k = 0 ∨ (k = 1 ∧ 0 ≤ n ∧ n < nv) ∨ k = 2 := by
  unfold opErr at h
  split at h
  · exact .inl ‹_›
  · split at h
    · refine .inr (.inl ⟨‹_›, ?_⟩)
      split at h
      · rename_i hw
        unfold within w1 at hw
        rw [wrapI ⟨by omega, by omega⟩] at hw
        simp only [Bool.and_eq_true, decide_eq_true_eq] at hw
        omega
      · simp at h
    · split at h
      · exact .inr (.inr ‹_›)
      · simp at h
theorem ints_get' {l : List Int} {i : Nat} (h : i < l.length) : (ints l)[i]? = some (I (l.getD i 0)) := by
  simp [ints, h, List.getD_eq_getElem?_getD]
theorem r105 {K : Nat} (h : 1 ≤ K) {nv : Nat} (hnv : nv ≤ 4611686018427387900) {a : List Int} (ha : a.length = nv + 1) {k n : Int} (d : Int) (ho : opErr nv k n = 0) :
    run tab K 105 [.agg [I k, I n], .sl 3 (ints a), I d] = some (I (val k n a d)) := by
  obtain ⟨K, rfl⟩ := succK h
  rw [eq105]; unfold sh105 tr105 val
  rcases opErr_ok (by omega) ho with rfl | ⟨rfl, h1, h2⟩ | rfl
  · rfl
  · rw [wrapI ⟨by omega, by omega⟩, show (1 : Int) + n = n + 1 by omega, ints_get' (by omega)]
    simp only [if_pos (show 0 ≤ n + 1 by omega), castI_I]
    rfl
  · rfl
theorem r89 {K : Nat} (h : 1 ≤ K) {nv : Nat} (hnv : nv ≤ 4611686018427387900) {a : List Int} (ha : a.length = nv + 1) {k n : Int} (d : Int) (ho : opErr nv k n = 0) :
    run tab K 89 [.agg [I k, I n], .sl 3 (ints a), I d] = some (I (val k n a d)) := by
  obtain ⟨K, rfl⟩ := succK h
  rw [eq89]; unfold sh89 tr89 val
  rcases opErr_ok (by omega) ho with rfl | ⟨rfl, h1, h2⟩ | rfl
  · rfl
  · rw [wrapI ⟨by omega, by omega⟩, ints_get' (by omega)]
    simp only [if_pos (show 0 ≤ n + 1 by omega), castI_I]
    rfl
  · rfl
def holdsS (t : Ts) (a : List Int) (d : Int) : Bool :=
  if t.k = 0 then val t.ak t.an a d == val t.bk t.bn a d else if t.k = 1 then val t.ak t.an a d != val t.bk t.bn a d else if t.k = 2 then decide (val t.ak t.an a d < val t.bk t.bn a d) else decide (val t.ak t.an a d ≤ val t.bk t.bn a d)
def tsOk (nv : Nat) (t : Ts) : Prop := opErr nv t.ak t.an = 0 ∧ opErr nv t.bk t.bn = 0
theorem r103 {K : Nat} (h : 2 ≤ K) {nv : Nat} (hnv : nv ≤ 4611686018427387900) {a : List Int} (ha : a.length = nv + 1) {t : Ts} (d : Int) (ho : tsOk nv t) :
    run tab K 103 [eTs t, .sl 3 (ints a), I d] = some (B (holdsS t a d)) := by
  obtain ⟨K, rfl⟩ := succK (show 1 ≤ K by omega)
  unfold eTs
  rw [eq103]; unfold sh103 tr103 holdsS
  simp only [r105 (show 1 ≤ K by omega) hnv ha d ho.1, r105 (show 1 ≤ K by omega) hnv ha d ho.2, castI_I]
  by_cases h0 : t.k = 0
  · rw [h0]; rfl
  · rw [if_neg h0, show (t.k == 0) = false by simpa using h0]
    by_cases h1 : t.k = 1
    · rw [h1]; rfl
    · rw [if_neg h1, show (t.k == 1) = false by simpa using h1]
      by_cases h2 : t.k = 2
      · rw [h2]; rfl
      · rw [if_neg h2, show (t.k == 2) = false by simpa using h2]
theorem r88 {K : Nat} (h : 2 ≤ K) {nv : Nat} (hnv : nv ≤ 4611686018427387900) {a : List Int} (ha : a.length = nv + 1) {t : Ts} (d : Int) (ho : tsOk nv t) :
    run tab K 88 [eTs t, .sl 3 (ints a), I d] = some (B (holdsS t a d)) := by
  obtain ⟨K, rfl⟩ := succK (show 1 ≤ K by omega)
  unfold eTs
  rw [eq88]; unfold sh88 tr88 holdsS
  simp only [r89 (show 1 ≤ K by omega) hnv ha d ho.1, r89 (show 1 ≤ K by omega) hnv ha d ho.2, castI_I]
  by_cases h0 : t.k = 0
  · rw [h0]; rfl
  · rw [if_neg h0, show (t.k == 0) = false by simpa using h0]
    by_cases h1 : t.k = 1
    · rw [h1]; rfl
    · rw [if_neg h1, show (t.k == 1) = false by simpa using h1]
      by_cases h2 : t.k = 2
      · rw [h2]; rfl
      · rw [if_neg h2, show (t.k == 2) = false by simpa using h2]
theorem r102 {K : Nat} (h : 3 ≤ K) {nv : Nat} (hnv : nv ≤ 4611686018427387900) {a : List Int} (ha : a.length = nv + 1) {t : Ts} (d : Int) (ho : tsOk nv t) :
    run tab K 102 ([.agg [I t.k, I t.ak, I t.an, I t.bk, I t.bn]] ++ [.ref [.sl 3 (ints a)], .ref [I d]]) = some (B (!holdsS t a d)) := by
  obtain ⟨K, rfl⟩ := succK (show 1 ≤ K by omega)
  have := r103 (K := K) (by omega) hnv ha d ho
  unfold eTs at this
  rw [show ([.agg [I t.k, I t.ak, I t.an, I t.bk, I t.bn]] ++ [.ref [.sl 3 (ints a)], .ref [I d]] : List AV) = [.agg [I t.k, I t.ak, I t.an, I t.bk, I t.bn], .ref [.sl 3 (ints a)], .ref [I d]] from rfl, eq102]
  unfold sh102 tr102
  simp only [castRef, List.getD_cons_zero, castL_L, castI_I, this, castB_B]
theorem l114 (K : Nat) (hK : 3 ≤ K) {nv : Nat} (hnv : nv ≤ 4611686018427387900) {a : List Int} (ha : a.length = nv + 1) (d : Int) (l : List Ts) (ho : ∀ t ∈ l, tsOk nv t) (hl : l.length ≤ 4611686018427387904) : ∀ (k i : Nat), l.length - i < k →
    lp114_2 K k (l.map eTs) (.fn 102 [.ref [.sl 3 (ints a)], .ref [I d]]) (l.length : Int) (i : Int) = some (I (idx (fun t => !holdsS t a d) i (l.drop i)))
  | 0, i, h => by omega
  | k + 1, i, h => by
    unfold lp114_2 tr114_2
    by_cases hi : i < l.length
    · rw [show decide ((i : Int) < (l.length : Int)) = true by simpa using hi, List.drop_eq_getElem_cons hi]
      simp only [if_pos (Int.natCast_nonneg i), map_get eTs hi, idx, eTs0, eTs1, eTs2, eTs3, eTs4, castI_I, castB_B, castFn_fn, r102 hK hnv ha d (ho _ (List.getElem_mem hi))]
      by_cases h0 : holdsS l[i] a d = true
      · have ih := l114 K hK hnv ha d l ho hl k (i + 1) (by omega)
        rw [← wrapN (by omega)] at ih
        simp only [h0, Bool.not_true, Bool.false_eq_true, if_false]
        exact ih
      · simp only [Bool.not_eq_true] at h0
        simp only [h0, Bool.not_false, if_true]
    · rw [show decide ((i : Int) < (l.length : Int)) = false by simpa using hi, List.drop_eq_nil_of_le (by omega)]
      rfl
theorem r104 {K : Nat} {nv : Nat} (hnv : nv ≤ 4611686018427387900) {a : List Int} (ha : a.length = nv + 1) (d : Int) (l : List Ts) (ho : ∀ t ∈ l, tsOk nv t) (hl : l.length ≤ 4611686018427387904) (hK : l.length + 5 ≤ K) :
    run tab K 104 [.sl 141 (l.map eTs), .fn 102 [.ref [.sl 3 (ints a)], .ref [I d]]] = some (B (!l.all fun t => holdsS t a d)) := by
  obtain ⟨K, rfl⟩ := succK (show 1 ≤ K by omega)
  obtain ⟨K, rfl⟩ := succK (show 1 ≤ K by omega)
  rw [eq104]; unfold sh104 tr104
  rw [eq114]; unfold sh114 tr114
  rw [List.length_map, show (0 : Int) = ((0 : Nat) : Int) from rfl, l114 K (by omega) hnv ha d l ho hl K 0 (by omega)]
  simp only [castI_I, List.drop_zero]
  have : decide (idx (fun t => !holdsS t a d) 0 l ≥ ((0 : Nat) : Int)) = l.any fun t => !holdsS t a d := idx_any _ l 0
  rw [this]
  congr 2
  rw [List.not_all_eq_any_not]
/-- What the sets of a move do: what comes of a configuration, if all numbers keep in their bounds. -/
def setN (s : Se) (a : List Int) (d : Int) : Int := if s.m then IntKind.i64.wrap (val s.ak s.an a d - val s.bk s.bn a d) else IntKind.i64.wrap (val s.ak s.an a d + val s.bk s.bn a d)
def inV (vs : List Va) (v n : Int) : Bool := match vs[v.toNat]? with
  | some x => within n x.lo x.hi
  | none => false
def setsS (vs : List Va) (a : List Int) (d : Int) : List Se → List Int → Option (List Int)
  | [], out => some out
  | s :: l, out => if inV vs s.v (setN s a d) then setsS vs a d l (out.set (s.v + 1).toNat (setN s a d)) else none
def mvT (vs : List Va) (O : Int) (a : List Int) (d : Int) (x : Mv) : List Int × Int × Bool :=
  if x.f = a.getD 0 0 then if x.gd.all (fun t => holdsS t a d) then match setsS vs a d x.ss (a.set 0 x.t) with
    | some out => (out, val x.ok x.on a d, within (val x.ok x.on a d) 0 (w1 O))
    | none => ([], 0, false) else ([], 0, false) else ([], 0, false)
def seOk (nv : Nat) (s : Se) : Prop := 0 ≤ s.v ∧ s.v < nv ∧ opErr nv s.ak s.an = 0 ∧ opErr nv s.bk s.bn = 0
structure MvOk (nv : Nat) (x : Mv) : Prop where
  gd : ∀ t ∈ x.gd, tsOk nv t
  ss : ∀ s ∈ x.ss, seOk nv s
  o : opErr nv x.ok x.on = 0
end Go.Proofs.YtahifpeggdcamaaDoor
