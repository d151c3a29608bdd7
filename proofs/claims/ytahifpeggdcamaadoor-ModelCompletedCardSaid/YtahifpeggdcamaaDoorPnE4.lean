/- A part of an interpreter of the model's code that is proved sound, and of laws told by it: DamL8, DamL9. -/
import Derived.Test.YtahifpeggdcamaaDoorPnE3
import Derived.Test.YtahifpeggdcamaaDoorPnD5
import Derived.Test.YtahifpeggdcamaaDoorPnC7
set_option linter.unusedVariables false
set_option linter.unusedSimpArgs false
/- The law ModelChecks, told by the interpreter. -/
namespace Go.Proofs.YtahifpeggdcamaaDoor
open Go.Dam
set_option linter.unusedVariables false
set_option linter.unusedSimpArgs false
theorem insErr_ok (k : Int → Int × Int) (hk : ∀ t, (k t).2 = 0 → t ≤ 8) : ∀ (l : List Int) (s : Int) (i : Nat), 0 ≤ s → s ≤ 9 → (insErr k s i l).2 = 0 → (∀ n ∈ l, 1 ≤ n ∧ n ≤ 8) ∧ s + (tot l : Int) ≤ 8
  | [], s, i, h0, h9, h => by
    have := hk s h
    exact ⟨by simp, by simp [tot]; omega⟩
  | n :: l, s, i, h0, h9, h => by
    simp only [insErr] at h
    by_cases h1 : within n 1 8 = true
    · rw [if_pos h1] at h
      unfold within at h1
      simp only [Bool.and_eq_true, decide_eq_true_eq] at h1
      rw [wrapI ⟨by omega, by omega⟩] at h
      have hm : minI (s + n) 9 = if s + n ≤ 9 then s + n else 9 := by
        unfold minI
        split <;> split <;> omega
      obtain ⟨g1, g2⟩ := insErr_ok k hk l (minI (s + n) 9) (i + 1) (by rw [hm]; split <;> omega) (by rw [hm]; split <;> omega) h
      rw [hm] at g2
      refine ⟨fun x hx => ?_, ?_⟩
      · rcases List.mem_cons.1 hx with rfl | hx
        · exact h1
        · exact g1 x hx
      · simp only [tot]
        split at g2 <;> omega
    · rw [if_neg h1] at h
      simp at h
theorem moErr_ok {m : Mo} (h : (moErr m).2 = 0) : (∀ n ∈ m.ins, 1 ≤ n ∧ n ≤ 8) ∧ tot m.ins ≤ 8 := by
  unfold moErr at h
  split at h
  · split at h
    · simp at h
    · obtain ⟨g1, g2⟩ := insErr_ok _ (fun t ht => by
        unfold afterIns at ht
        split at ht
        · simp at ht
        · omega) m.ins 0 0 (by omega) (by omega) h
      exact ⟨g1, by omega⟩
  · simp at h
def sgs (m : Mo) : List (Int × Int) := if (moErr m).2 = 0 then allPs 0 m.ins else []
theorem r48 {K : Nat} (m : Mo) (h : moFit K m) (h0 : (moErr m).2 = 0) : run tab K 48 [eMo m] = some (.sl 52 ((allPs 0 m.ins).map eP)) := by
  have g1 := h.ins
  obtain ⟨K, rfl⟩ := succK (show 1 ≤ K by omega)
  obtain ⟨a1, a2⟩ := moErr_ok h0
  unfold eMo
  rw [eq48]; unfold sh48 tr48
  rw [ints_len]
  have := l48a K m.ins (big h.li (by omega)) (fun n hn => by
    obtain ⟨b1, b2⟩ := a1 n hn
    have := h.dg n hn b2
    exact ⟨by omega, by omega⟩) K 0 [] (by omega) (by
      have : (8 : Nat) * 16 ≤ maxBytes := by decide
      simp only [List.length_nil, List.drop_zero, Nat.zero_add]
      omega)
  simpa using this
theorem r25 {K : Nat} (m : Mo) (h : moFit K m) (h0 : (moErr m).2 = 0) : run tab K 25 [eMo m] = some (.sl 52 ((allPs 0 m.ins).map eP)) := by
  have g1 := h.ins
  obtain ⟨K, rfl⟩ := succK (show 1 ≤ K by omega)
  obtain ⟨a1, a2⟩ := moErr_ok h0
  unfold eMo
  rw [eq25]; unfold sh25 tr25
  have := l25a K m.ins (big h.li (by omega)) (fun n hn => by
    obtain ⟨b1, b2⟩ := a1 n hn
    have := h.dg n hn b2
    exact ⟨by omega, by omega⟩) m.s m.st m.o (m.vs.map eVa) (m.ms.map eMv) K 0 [] (by omega) (by
      have : (8 : Nat) * 16 ≤ maxBytes := by decide
      simp only [List.length_nil, List.drop_zero, Nat.zero_add]
      omega)
  simpa using this
theorem r24 {K : Nat} (m : Mo) (h : moFit K m) (h1 : moFit (K + 1) m) : run tab (K + 2) 24 [eMo m] = some (.tup [.sl 52 ((sgs m).map eP), I (moErr m).2]) := by
  have e47 := r47 m h
  unfold sgs
  by_cases h0 : (moErr m).2 = 0
  · have e48 := r48 m h1 h0
    rw [if_pos h0]
    rw [h0] at e47 ⊢
    unfold eMo at *
    rw [eq24]; unfold sh24 tr24
    rw [e47]
    simp only [castI_I, bne_self_eq_false]
    rw [e48]
    simp only [castL_L]
  · rw [if_neg h0]
    unfold eMo at *
    rw [eq24]; unfold sh24 tr24
    rw [e47]
    simp only [castI_I]
    rw [show ((moErr m).2 != 0) = true by simpa using h0]
    rfl
theorem l4 (K : Nat) (l : List (Int × Int)) (hl : l.length ≤ 4611686018427387904) : ∀ (k i : Nat), l.length - i < k → lp4_18 K k (l.map eP) (l.map eP) (i : Int) = some (B true)
  | 0, i, h => by omega
  | k + 1, i, h => by
    unfold lp4_18 tr4_18
    rw [List.length_map]
    by_cases hi : i < l.length
    · rw [show decide ((i : Int) < (l.length : Int)) = true by simpa using hi]
      have e0 : cellN (eP l[i]) 0 = I l[i].1 := rfl
      have e1 : cellN (eP l[i]) 1 = I l[i].2 := rfl
      simp only [if_pos (Int.natCast_nonneg i), map_get eP hi, e0, e1, castI_I, beq_self_eq_true, Bool.and_self, Bool.not_true]
      rw [wrapN (by omega)]
      exact l4 K l hl k (i + 1) (by omega)
    · rw [show decide ((i : Int) < (l.length : Int)) = false by simpa using hi]
theorem r4 {K : Nat} (S N O T : Int) (l : List St4) (m : Mo) (hl : l.length * 32 ≤ maxBytes) (hK : l.length + 50 ≤ K) (h : moFit K m) (h1 : moFit (K + 1) m) (h2 : moFit (K + 2) m) (e13 : run tab (K + 2) 13 [] = some (B true)) : run tab (K + 3) 4 [eM S N O T l, eMo m] = some (B true) := by
  have hb := big hl (by omega)
  have e21 := r21 (K := K + 2) S N O T l hl (by omega)
  have e20 := r20 (K := K + 2) S N O T l hb (by omega)
  have e22 := r22 (K := K + 2) S N O T l hb (by omega)
  have e15 := r15 m h2
  have e23 := r23 m h2
  have e16 := r16 m h2
  have e24 := r24 m h h1
  have e25 : (moErr m).2 = 0 → _ := r25 m h2
  have hln : (sgs m).length ≤ 4611686018427387904 := by
    unfold sgs
    split
    · rename_i h0
      obtain ⟨_, a2⟩ := moErr_ok h0
      have : ∀ (l : List Int) (i : Nat), (allPs i l).length = tot l := by
        intro l
        induction l with
        | nil => intro i; rfl
        | cons n l ih => intro i; simp [allPs, tot, onePs_len, ih]
      rw [this]; omega
    · simp
  have fin := l4 (K + 2) (sgs m) hln (K + 2) 0 (by
    have := h.ins
    unfold sgs
    split
    · rename_i h0
      obtain ⟨_, a2⟩ := moErr_ok h0
      have : ∀ (l : List Int) (i : Nat), (allPs i l).length = tot l := by
        intro l
        induction l with
        | nil => intro i; rfl
        | cons n l ih => intro i; simp [allPs, tot, onePs_len, ih]
      rw [this]; omega
    · simp)
  unfold eM eMo at *
  rw [eq4]; unfold sh4 tr4
  have c0 : ∀ p : Int × Int, compN (pairI p) 0 = I p.1 := fun _ => rfl
  have c1 : ∀ p : Int × Int, compN (pairI p) 1 = I p.2 := fun _ => rfl
  have d0 : ∀ (a : List AV) (n : Int), compN (.tup [.sl 52 a, I n]) 0 = .sl 52 a := fun _ _ => rfl
  have d1 : ∀ (a : List AV) (n : Int), compN (.tup [.sl 52 a, I n]) 1 = I n := fun _ _ => rfl
  simp only [e13, castB_B, e21, e20, e22, e15, e23, e16, e24, cellN_agg, List.getD_cons_zero, List.getD_cons_succ, castI_I, castL_L, c0, c1, d0, d1, Bool.not_true, bne_self_eq_false]
  by_cases h0 : (moErr m).2 = 0
  · have e := e25 h0
    have hs : sgs m = allPs 0 m.ins := by unfold sgs; rw [if_pos h0]
    rw [hs] at fin ⊢
    simp only [h0, beq_self_eq_true, e, castL_L, bne_self_eq_false]
    exact fin
  · have hs : sgs m = [] := by unfold sgs; rw [if_neg h0]
    rw [hs] at fin ⊢
    rw [show ((moErr m).2 == 0) = false by simpa using h0]
    simp only [List.map_nil, List.length_nil, bne_self_eq_false]
    exact fin
end Go.Proofs.YtahifpeggdcamaaDoor

/- Arguments that are well formed are machines and models. -/
namespace Go.Proofs.YtahifpeggdcamaaDoor
open Go.Dam
set_option linter.unusedVariables false
set_option linter.unusedSimpArgs false
theorem wf_int {n0 : Int} {a : AV} (h : Wf tab (I n0) a) : ∃ n, a = I n := by
  cases h with
  | int k n0 n h => exact ⟨n, rfl⟩
theorem wf_bool {b0 : Bool} {a : AV} (h : Wf tab (B b0) a) : ∃ b, a = B b := by
  cases h with
  | bool b0 b => exact ⟨b, rfl⟩
theorem wf_sl {T : Nat} {l0 : List AV} {a : AV} (h : Wf tab (.sl T l0) a) : ∃ l z s b, a = .sl T l ∧ tabInfo T = some (z, s, b) ∧ l.length * b ≤ reachBytes ∧ ∀ x ∈ l, WfA tab T x := by
  cases h with
  | sl T l0 l z s b hi h1 h2 hag h =>
    refine ⟨l, z, s, b, rfl, hi, h2, fun x hx => ?_⟩
    obtain ⟨i, hil, rfl⟩ := List.getElem_of_mem hx
    have e : l.getD i .undef = l[i] := by simp [List.getD_eq_getElem?_getD, hil]
    exact ⟨z, s, b, hi, fun hA => by have := hag i hil hA; rwa [e] at this, fun j hj => by have := h i j hil hj; rwa [e] at this⟩
theorem wf_agg {t : Nat} {z : List AV} {s b : Nat} {a : AV} (h : WfA tab t a) (hi : tabInfo t = some (z, s, b)) (hag : aggC tab t = true) : ∃ la, a = .agg la ∧ la.length = s ∧ ∀ j, j < s → Wf tab (z.getD j .undef) (la.getD j .undef) := by
  obtain ⟨z', s', b', hi', h1, h2⟩ := h
  have hi'' : tabInfo t = some (z', s', b') := hi'
  rw [hi] at hi''; cases hi''
  obtain ⟨la, rfl, hl⟩ := h1 hag
  refine ⟨la, rfl, hl, fun j hj => ?_⟩
  have := h2 j hj
  rw [elCell_eq, if_pos hag] at this
  exact this
theorem wf_map {α : Type} (e : α → AV) (Q : α → Prop) : ∀ {l : List AV}, (∀ x ∈ l, ∃ s, x = e s ∧ Q s) → ∃ ss : List α, l = ss.map e ∧ ∀ s ∈ ss, Q s
  | [], _ => ⟨[], rfl, by simp⟩
  | x :: l, h => by
    obtain ⟨s, rfl, hq⟩ := h x (by simp)
    obtain ⟨ss, rfl, hs⟩ := wf_map e Q (l := l) fun y hy => h y (by simp [hy])
    exact ⟨s :: ss, rfl, fun t ht => by
      rcases List.mem_cons.1 ht with rfl | ht
      · exact hq
      · exact hs t ht⟩
theorem reach_max {n : Nat} (h : n ≤ reachBytes) : n ≤ maxBytes := Nat.le_trans h (by decide)
theorem dec97 {a : AV} (h : WfA tab 97 a) : ∃ s : St4, a = eS s ∧ True := by
  obtain ⟨la, rfl, hl, hc⟩ := wf_agg h rfl rfl
  match la, hl, hc with
  | [x0, x1, x2, x3], _, hc =>
    obtain ⟨n0, h0⟩ := wf_int (hc 0 (by omega)); obtain ⟨n1, h1⟩ := wf_int (hc 1 (by omega)); obtain ⟨n2, h2⟩ := wf_int (hc 2 (by omega)); obtain ⟨n3, h3⟩ := wf_int (hc 3 (by omega))
    simp only [List.getD_cons_zero, List.getD_cons_succ] at h0 h1 h2 h3
    subst h0 h1 h2 h3
    exact ⟨⟨n0, n1, n2, n3⟩, rfl, trivial⟩
theorem dec3 {a : AV} (h : WfA tab 3 a) : ∃ n : Int, a = I n ∧ True := by
  obtain ⟨z, s, b, hi, _, h2⟩ := h
  have hi' : tabInfo 3 = some (z, s, b) := hi
  cases hi'
  have := h2 0 (by omega)
  rw [elCell_eq] at this
  obtain ⟨n, hn⟩ := wf_int this
  exact ⟨n, hn, trivial⟩
theorem dec105 {a : AV} (h : WfA tab 105 a) : ∃ s : Va, a = eVa s ∧ True := by
  obtain ⟨la, rfl, hl, hc⟩ := wf_agg h rfl rfl
  match la, hl, hc with
  | [x0, x1, x2], _, hc =>
    obtain ⟨n0, h0⟩ := wf_int (hc 0 (by omega)); obtain ⟨n1, h1⟩ := wf_int (hc 1 (by omega)); obtain ⟨n2, h2⟩ := wf_int (hc 2 (by omega))
    simp only [List.getD_cons_zero, List.getD_cons_succ] at h0 h1 h2
    subst h0 h1 h2
    exact ⟨⟨n0, n1, n2⟩, rfl, trivial⟩
theorem dec141 {a : AV} (h : WfA tab 141 a) : ∃ s : Ts, a = eTs s ∧ True := by
  obtain ⟨la, rfl, hl, hc⟩ := wf_agg h rfl rfl
  match la, hl, hc with
  | [x0, x1, x2, x3, x4], _, hc =>
    obtain ⟨n0, h0⟩ := wf_int (hc 0 (by omega)); obtain ⟨n1, h1⟩ := wf_int (hc 1 (by omega)); obtain ⟨n2, h2⟩ := wf_int (hc 2 (by omega)); obtain ⟨n3, h3⟩ := wf_int (hc 3 (by omega)); obtain ⟨n4, h4⟩ := wf_int (hc 4 (by omega))
    simp only [List.getD_cons_zero, List.getD_cons_succ] at h0 h1 h2 h3 h4
    subst h0 h1 h2 h3 h4
    exact ⟨⟨n0, n1, n2, n3, n4⟩, rfl, trivial⟩
theorem dec139 {a : AV} (h : WfA tab 139 a) : ∃ s : Se, a = eSe s ∧ True := by
  obtain ⟨la, rfl, hl, hc⟩ := wf_agg h rfl rfl
  match la, hl, hc with
  | [x0, x1, x2, x3, x4, x5], _, hc =>
    obtain ⟨n0, h0⟩ := wf_int (hc 0 (by omega)); obtain ⟨n1, h1⟩ := wf_int (hc 1 (by omega)); obtain ⟨n2, h2⟩ := wf_int (hc 2 (by omega)); obtain ⟨n3, h3⟩ := wf_int (hc 3 (by omega)); obtain ⟨n4, h4⟩ := wf_int (hc 4 (by omega)); obtain ⟨n5, h5⟩ := wf_bool (hc 5 (by omega))
    simp only [List.getD_cons_zero, List.getD_cons_succ] at h0 h1 h2 h3 h4 h5
    subst h0 h1 h2 h3 h4 h5
    exact ⟨⟨n0, n1, n2, n3, n4, n5⟩, rfl, trivial⟩
theorem dec103 {a : AV} (h : WfA tab 103 a) : ∃ m : Mv, a = eMv m ∧ m.gd.length * 40 ≤ maxBytes ∧ m.ss.length * 48 ≤ maxBytes := by
  obtain ⟨la, rfl, hl, hc⟩ := wf_agg h rfl rfl
  match la, hl, hc with
  | [x0, x1, x2, x3, x4, x5, x6], _, hc =>
    obtain ⟨n0, h0⟩ := wf_int (hc 0 (by omega)); obtain ⟨n1, h1⟩ := wf_int (hc 1 (by omega)); obtain ⟨n2, h2⟩ := wf_int (hc 2 (by omega)); obtain ⟨n5, h5⟩ := wf_int (hc 5 (by omega)); obtain ⟨n6, h6⟩ := wf_int (hc 6 (by omega))
    obtain ⟨l3, z3, s3, b3, h3, i3, w3, d3⟩ := wf_sl (hc 3 (by omega)); obtain ⟨l4, z4, s4, b4, h4, i4, w4, d4⟩ := wf_sl (hc 4 (by omega))
    cases i3; cases i4
    obtain ⟨g3, rfl, _⟩ := wf_map eTs (fun _ => True) fun x hx => dec141 (d3 x hx)
    obtain ⟨g4, rfl, _⟩ := wf_map eSe (fun _ => True) fun x hx => dec139 (d4 x hx)
    simp only [List.getD_cons_zero, List.getD_cons_succ] at h0 h1 h2 h3 h4 h5 h6
    subst h0 h1 h2 h3 h4 h5 h6
    simp only [List.length_map] at w3 w4
    exact ⟨⟨n0, n1, n2, g3, g4, n5, n6⟩, rfl, reach_max w3, reach_max w4⟩
theorem dec30 {a : AV} (h : WfA tab 30 a) : ∃ S N O T l, a = eM S N O T l ∧ l.length * 32 ≤ maxBytes := by
  obtain ⟨la, rfl, hl, hc⟩ := wf_agg h rfl rfl
  match la, hl, hc with
  | [x0, x1, x2, x3, x4], _, hc =>
    obtain ⟨n0, h0⟩ := wf_int (hc 0 (by omega)); obtain ⟨n1, h1⟩ := wf_int (hc 1 (by omega)); obtain ⟨n2, h2⟩ := wf_int (hc 2 (by omega)); obtain ⟨n3, h3⟩ := wf_int (hc 3 (by omega))
    obtain ⟨l4, z4, s4, b4, h4, i4, w4, d4⟩ := wf_sl (hc 4 (by omega))
    cases i4
    obtain ⟨g4, rfl, _⟩ := wf_map eS (fun _ => True) fun x hx => dec97 (d4 x hx)
    simp only [List.getD_cons_zero, List.getD_cons_succ] at h0 h1 h2 h3 h4
    subst h0 h1 h2 h3 h4
    simp only [List.length_map] at w4
    exact ⟨n0, n1, n2, n3, g4, rfl, reach_max w4⟩
theorem dec26 {a : AV} (h : WfA tab 26 a) : ∃ m : Mo, a = eMo m ∧ m.ins.length * 8 ≤ maxBytes ∧ m.vs.length * 24 ≤ maxBytes ∧ m.ms.length * 88 ≤ maxBytes ∧ ∀ x ∈ m.ms, x.gd.length * 40 ≤ maxBytes ∧ x.ss.length * 48 ≤ maxBytes := by
  obtain ⟨la, rfl, hl, hc⟩ := wf_agg h rfl rfl
  match la, hl, hc with
  | [x0, x1, x2, x3, x4, x5], _, hc =>
    obtain ⟨n0, h0⟩ := wf_int (hc 0 (by omega)); obtain ⟨n1, h1⟩ := wf_int (hc 1 (by omega)); obtain ⟨n3, h3⟩ := wf_int (hc 3 (by omega))
    obtain ⟨l2, z2, s2, b2, h2, i2, w2, d2⟩ := wf_sl (hc 2 (by omega)); obtain ⟨l4, z4, s4, b4, h4, i4, w4, d4⟩ := wf_sl (hc 4 (by omega)); obtain ⟨l5, z5, s5, b5, h5, i5, w5, d5⟩ := wf_sl (hc 5 (by omega))
    cases i2; cases i4; cases i5
    obtain ⟨g2, rfl, _⟩ := wf_map I (fun _ => True) fun x hx => dec3 (d2 x hx)
    obtain ⟨g4, rfl, _⟩ := wf_map eVa (fun _ => True) fun x hx => dec105 (d4 x hx)
    obtain ⟨g5, rfl, q5⟩ := wf_map eMv (fun m => m.gd.length * 40 ≤ maxBytes ∧ m.ss.length * 48 ≤ maxBytes) fun x hx => dec103 (d5 x hx)
    simp only [List.getD_cons_zero, List.getD_cons_succ] at h0 h1 h2 h3 h4 h5
    subst h0 h1 h2 h3 h4 h5
    simp only [List.length_map] at w2 w4 w5
    exact ⟨⟨n0, n1, g2, n3, g4, g5⟩, rfl, reach_max w2, reach_max w4, reach_max w5, q5⟩
/-- Of all moves. -/
def mvSum : List Mv → Nat
  | [] => 0
  | m :: l => m.ss.length + m.gd.length + mvSum l
theorem mvSum_le : ∀ {l : List Mv} {m : Mv}, m ∈ l → m.ss.length + m.gd.length ≤ mvSum l
  | [], m, h => by simp at h
  | x :: l, m, h => by
    rcases List.mem_cons.1 h with rfl | h
    · simp only [mvSum]; omega
    · have := mvSum_le h; simp only [mvSum]; omega
def moNeed (m : Mo) : Nat := m.ins.length + m.vs.length + m.ms.length + mvSum m.ms + 30
theorem moFit_of {m : Mo} (h1 : m.ins.length * 8 ≤ maxBytes) (h2 : m.vs.length * 24 ≤ maxBytes) (h3 : m.ms.length * 88 ≤ maxBytes) (h4 : ∀ x ∈ m.ms, x.gd.length * 40 ≤ maxBytes ∧ x.ss.length * 48 ≤ maxBytes) {K : Nat} (hK : moNeed m ≤ K) : moFit K m := by
  unfold moNeed at hK
  refine ⟨by omega, by omega, by omega, fun x hx => ⟨big (h4 x hx).2 (by omega), big (h4 x hx).1 (by omega), by have := mvSum_le hx; omega⟩, h1, h2, h3, h4, fun n hn h8 => by omega⟩
end Go.Proofs.YtahifpeggdcamaaDoor
