/- A part of an interpreter of the model's code that is proved sound, and of laws told by it: DamQ1, DamQ2, DamQ3. -/
import Derived.Test.YtahifpeggdcamaaGreatDoorPqH2
set_option linter.unusedVariables false
set_option linter.unusedSimpArgs false
/- Which states answer alike: the search finds a difference exactly if they do not. -/
namespace Go.Proofs.YtahifpeggdcamaaGreatDoor
open Go.Dam
set_option linter.unusedVariables false
set_option linter.unusedSimpArgs false
end Go.Proofs.YtahifpeggdcamaaGreatDoor

/- The blocks of states that answer alike: rounds of keys, until none is new. -/
namespace Go.Proofs.YtahifpeggdcamaaGreatDoor
open Go.Dam
set_option linter.unusedVariables false
set_option linter.unusedSimpArgs false
section
variable {S N O T : Int} {l : List St4}
end
end Go.Proofs.YtahifpeggdcamaaGreatDoor

/- The states that are reached, in the order of their least words; blocks: what the model's functions and the reference's tell. -/
namespace Go.Proofs.YtahifpeggdcamaaGreatDoor
open Go.Dam
set_option linter.unusedVariables false
set_option linter.unusedSimpArgs false
theorem l108 (K : Nat) (a : Int) (u : List Int) (hu : u.length ≤ 4611686018427387904) : ∀ (k i : Nat), u.length - i < k → lp30_2 K k (ints u) a (u.length : Int) (i : Int) = some (I (idx (fun x => a == x) i (u.drop i)))
  | 0, i, h => by omega
  | k + 1, i, h => by
    unfold lp30_2 tr30_2
    by_cases hi : i < u.length
    · have ih := l108 K a u hu k (i + 1) (by omega)
      rw [← wrapN (by omega)] at ih
      rw [show decide ((i : Int) < (u.length : Int)) = true by simpa using hi, List.drop_eq_getElem_cons hi]
      simp only [if_pos (Int.natCast_nonneg i), ints_get hi, castI_I, idx]
      by_cases h0 : (a == u[i]) = true
      · simp only [h0, if_true]
      · simp only [Bool.not_eq_true] at h0
        simp only [h0, Bool.false_eq_true, if_false]
        exact ih
    · rw [show decide ((i : Int) < (u.length : Int)) = false by simpa using hi, List.drop_eq_nil_of_le (by omega)]
      rfl
def inL (a : Int) (u : List Int) : Bool := u.any fun x => a == x
theorem r95 {K : Nat} (a : Int) (u : List Int) (hu : u.length ≤ 4611686018427387904) (hK : u.length + 3 ≤ K) : run tab K 55 [.sl 3 (ints u), I a] = some (B (inL a u)) := by
  obtain ⟨K, rfl⟩ := succK (show 1 ≤ K by omega)
  obtain ⟨K, rfl⟩ := succK (show 1 ≤ K by omega)
  rw [eq55]; unfold sh55 tr55
  rw [eq30]; unfold sh30 tr30
  rw [ints_len, show (0 : Int) = ((0 : Nat) : Int) from rfl, l108 K a u hu K 0 (by omega)]
  simp only [castI_I, List.drop_zero]
  unfold inL
  rw [← idx_any]; rfl
abbrev Ac := Int × List Int
def fsts (u : List Ac) : List Int := u.map (·.1)
def ac1 (l : List St4) (x : Ac) (n : Nat) (u : List Ac) : List Ac := match stp l x.1 n with
  | none => u
  | some s => if inL s.t (fsts u) = true then u else u ++ [(s.t, x.2 ++ [(n : Int)])]
def acK (l : List St4) (x : Ac) : Nat → Nat → List Ac → List Ac
  | 0, _, u => u
  | c + 1, n, u => acK l x c (n + 1) (ac1 l x n u)
def acO (l : List St4) (N : Nat) : Nat → Nat → List Ac → List Ac
  | 0, _, u => u
  | F + 1, i, u => match u[i]? with
    | some x => acO l N F (i + 1) (acK l x N 0 u)
    | none => u
def accM (l : List St4) (N : Int) (T : Int) : List Ac := acO l N.toNat 41 0 [(T, [])]
structure AI (S : Int) (u : List Ac) : Prop where
  s : S ≤ 40
  rng : ∀ x ∈ u, 0 ≤ x.1 ∧ x.1 < S
  nd : (u.map fun x => x.1.toNat).Nodup
  wl : ∀ (i : Nat) (x : Ac), u[i]? = some x → x.2.length ≤ i
theorem AI.len {S : Int} {u : List Ac} (h : AI S u) : u.length ≤ S.toNat := by
  have := nodup_le S.toNat (u.map fun x => x.1.toNat) h.nd fun y hy => by
    obtain ⟨x, hx, rfl⟩ := List.mem_map.1 hy
    have := h.rng x hx
    show x.1.toNat < S.toNat; omega
  simpa using this
theorem fsts_len (u : List Ac) : (fsts u).length = u.length := by simp [fsts]
theorem inL_iff {a : Int} {u : List Int} : inL a u = true ↔ a ∈ u := by
  unfold inL; rw [List.any_eq_true]
  constructor
  · rintro ⟨x, h1, h2⟩; rw [eq_of_beq h2]; exact h1
  · intro h; exact ⟨a, h, by simp⟩
theorem AI.add {S : Int} {u : List Ac} (h : AI S u) {a : Int} {w : List Int} (ha : 0 ≤ a ∧ a < S) (hn : inL a (fsts u) = false) (hw : w.length ≤ u.length) : AI S (u ++ [(a, w)]) := by
  refine ⟨h.s, fun x hx => ?_, ?_, fun i x hx => ?_⟩
  · rcases List.mem_append.1 hx with hx | hx
    · exact h.rng x hx
    · rw [List.mem_singleton.1 hx]; exact ha
  · rw [List.map_append, List.nodup_append]
    refine ⟨h.nd, by simp, fun c hc d hd => ?_⟩
    obtain ⟨x, hx, rfl⟩ := List.mem_map.1 hc
    simp only [List.map_cons, List.map_nil, List.mem_singleton] at hd
    subst hd
    have h1 := h.rng x hx
    intro e
    have : x.1 = a := by omega
    have h2 : inL a (fsts u) = true := inL_iff.2 (List.mem_map.2 ⟨x, hx, this⟩)
    rw [h2] at hn; cases hn
  · rcases Nat.lt_or_ge i u.length with hi | hi
    · rw [List.getElem?_append_left hi] at hx; exact h.wl i x hx
    · rw [List.getElem?_append_right hi] at hx
      have : i - u.length = 0 := by
        rcases Nat.eq_zero_or_pos (i - u.length) with h | h
        · exact h
        · rw [List.getElem?_eq_none (by simp only [List.length_singleton]; omega)] at hx; cases hx
      rw [this] at hx
      cases hx
      exact Nat.le_trans hw hi
theorem ac1_ok {S N O T : Int} {l : List St4} (ok : MaOk S N O T l) {x : Ac} {n i : Nat} {u : List Ac} (h : AI S u) (hx : u[i]? = some x) : AI S (ac1 l x n u) ∧ ∃ v, ac1 l x n u = u ++ v := by
  unfold ac1
  split
  · exact ⟨h, [], by simp⟩
  · rename_i s h1
    by_cases hn : inL s.t (fsts u) = true
    · rw [if_pos hn]; exact ⟨h, [], by simp⟩
    · rw [if_neg hn]
      have m1 := ok.mem s (stp_some h1).1
      have hi : i < u.length := (List.getElem?_eq_some_iff.1 hx).1
      have := h.wl i x hx
      exact ⟨h.add ⟨m1.2.2.1, m1.2.2.2.1⟩ (by simpa using hn) (by simp; omega), _, rfl⟩
theorem acK_ok {S N O T : Int} {l : List St4} (ok : MaOk S N O T l) {x : Ac} {i : Nat} : ∀ {c n : Nat} {u : List Ac}, AI S u → u[i]? = some x → AI S (acK l x c n u) ∧ ∃ v, acK l x c n u = u ++ v
  | 0, n, u, h, hx => ⟨h, [], by simp [acK]⟩
  | c + 1, n, u, h, hx => by
    obtain ⟨g1, v, hv⟩ := ac1_ok ok (n := n) h hx
    have hi : i < u.length := (List.getElem?_eq_some_iff.1 hx).1
    have hx' : (ac1 l x n u)[i]? = some x := by rw [hv, List.getElem?_append_left hi]; exact hx
    obtain ⟨g2, v', hv'⟩ := acK_ok ok (c := c) (n := n + 1) g1 hx'
    exact ⟨g2, v ++ v', by show acK l x c (n + 1) _ = _; rw [hv', hv, List.append_assoc]⟩
theorem ai0 {S : Int} (h1 : S ≤ 40) {T : Int} (hT : 0 ≤ T ∧ T < S) : AI S [(T, [])] :=
  ⟨h1, fun x hx => by rw [List.mem_singleton.1 hx]; exact hT, by simp, fun i x hx => by
    cases i with
    | zero => cases hx; simp
    | succ i => simp at hx⟩
def eA (u : List Ac) : List AV := u.map fun x => .sl 3 (ints x.2)
theorem l74b (K : Nat) (hK : 2000 ≤ K) (q4) {S N O T : Int} {l : List St4} (ok : MaOk S N O T l) (i : Nat) (x : Ac) :
    ∀ (k n : Nat) (u : List Ac), N.toNat - n < k → n ≤ N.toNat → AI S u → u[i]? = some x →
    lp27_7 K q4 k (tblT l S N) (ints (fsts u)) (eA u) (i : Int) (rowT l N x.1.toNat) N (n : Int) = q4 (tblT l S N) (ints (fsts (acK l x (N.toNat - n) n u))) (eA (acK l x (N.toNat - n) n u)) (IntKind.i64.wrap ((i : Int) + 1))
  | 0, n, u, h, _, _, _ => by omega
  | k + 1, n, u, h, hn, hp, hx => by
    obtain ⟨n1, n2⟩ := ok.n
    unfold lp27_7 tr27_7
    by_cases hnn : n < N.toNat
    · have hi : i < u.length := (List.getElem?_eq_some_iff.1 hx).1
      have hxi : u[i] = x := (List.getElem?_eq_some_iff.1 hx).2
      have hr := hp.rng x (hxi ▸ List.getElem_mem hi)
      have hw := hp.wl i x hx
      have hlen := hp.len
      have hs := hp.s
      have g3 : (rowT l N x.1.toNat)[((n : Nat) : Int).toNat]? = some (ptr (stp l x.1 n)) := by
        rw [Int.toNat_natCast, rowT_get hnn, show ((x.1.toNat : Nat) : Int) = x.1 by omega]
      have gw : (eA u)[((i : Nat) : Int).toNat]? = some (.sl 3 (ints x.2)) := by
        rw [Int.toNat_natCast]; unfold eA; rw [List.getElem?_map, hx]; rfl
      have e70 := r70 (K := K) (by omega) x.2 (by omega)
      obtain ⟨p1, v, hv⟩ := ac1_ok ok (n := n) hp hx
      have hx' : (ac1 l x n u)[i]? = some x := by rw [hv, List.getElem?_append_left hi]; exact hx
      have ih := l74b K hK q4 ok i x k (n + 1) (ac1 l x n u) (by omega) (by omega) p1 hx'
      rw [← wrapN (show n ≤ 4611686018427387904 by omega)] at ih
      rw [show decide ((n : Int) < N) = true by simp; omega, show N.toNat - n = (N.toNat - (n + 1)) + 1 by omega]
      simp only [if_pos (Int.natCast_nonneg i), if_pos (Int.natCast_nonneg n), g3, castP_ptr, castNil_ptr, acK]
      rw [← ih]
      unfold ac1
      cases h1 : stp l x.1 n with
      | none => rfl
      | some s =>
        simp only [Option.isNone_some, Bool.not_false, castRef_ptr, castRef_ref, List.getD_cons_zero, List.getD_cons_succ, castI_I, r95 (K := K) s.t (fsts u) (by rw [fsts_len]; omega) (by rw [fsts_len]; omega), castB_B]
        by_cases h4 : inL s.t (fsts u) = true
        · simp only [h4, Bool.not_true, if_true]
        · simp only [Bool.not_eq_true] at h4
          simp only [h4, Bool.not_false, Bool.false_eq_true, if_false, gw, castL_L, e70]
          have q1 : ((ints (fsts u)).length + ([I s.t] : List AV).length) * 8 ≤ maxBytes := by
            have : (2000 : Nat) * 8 ≤ maxBytes := by decide
            simp only [ints_len, fsts_len, List.length_cons, List.length_nil]; omega
          have q2 : ((ints x.2).length + ([I (n : Int)] : List AV).length) * 8 ≤ maxBytes := by
            have : (2000 : Nat) * 8 ≤ maxBytes := by decide
            simp only [ints_len, List.length_cons, List.length_nil]; omega
          have q3 : ((eA u).length + ([.sl 3 (ints x.2 ++ [I (n : Int)])] : List AV).length) * 24 ≤ maxBytes := by
            have : (2000 : Nat) * 24 ≤ maxBytes := by decide
            simp only [eA, List.length_map, List.length_cons, List.length_nil]; omega
          simp only [if_pos q1, if_pos q2, if_pos q3]
          simp [eA, fsts, ints]
    · rw [show decide ((n : Int) < N) = false by simp; omega, show N.toNat - n = 0 by omega]
      rfl
theorem l74a (K : Nat) (hK : 2000 ≤ K) {S N O T : Int} {l : List St4} (ok : MaOk S N O T l) :
    ∀ (F k i : Nat) (u : List Ac), 40 - i < F → F ≤ k → i ≤ 40 → AI S u →
    lp27_4 K k (tblT l S N) (ints (fsts u)) (eA u) (i : Int) = some (.tup [.sl 3 (ints (fsts (acO l N.toNat F i u))), .sl 25 (eA (acO l N.toNat F i u))])
  | 0, k, i, u, h, _, _, _ => by omega
  | F + 1, 0, i, u, h, hk, _, _ => by omega
  | F + 1, k + 1, i, u, h, hk, h16, hp => by
    have hlen := hp.len
    have hs := hp.s
    obtain ⟨n1, n2⟩ := ok.n
    unfold lp27_4 tr27_4 acO
    rw [ints_len, fsts_len]
    by_cases hi : i < u.length
    · have hx : u[i]? = some u[i] := List.getElem?_eq_getElem hi
      have hr := hp.rng _ (List.getElem_mem hi)
      have hb := l74b K hK (lp27_4 K k) ok i u[i] K 0 u (by omega) (by omega) hp hx
      have gi : (ints (fsts u))[((i : Nat) : Int).toNat]? = some (I u[i].1) := by
        have hf : i < (fsts u).length := by rw [fsts_len]; exact hi
        rw [ints_get hf]; simp [fsts]
      have g1 : (tblT l S N)[u[i].1.toNat]? = some (.sl 82 (rowT l N u[i].1.toNat)) := tblT_get (by omega)
      rw [show decide ((i : Int) < (u.length : Int)) = true by simpa using hi, hx]
      simp only [if_pos (Int.natCast_nonneg i), gi, castI_I, if_pos hr.1, g1, castL_L]
      rw [show ((rowT l N u[i].1.toNat).length : Int) = N by unfold rowT; simp; omega]
      refine Eq.trans hb ?_
      rw [Nat.sub_zero]
      obtain ⟨p1, _⟩ := acK_ok ok (c := N.toNat) (n := 0) hp hx
      rw [wrapN (by omega)]
      exact l74a K hK ok F k (i + 1) _ (by omega) (by omega) (by omega) p1
    · rw [show decide ((i : Int) < (u.length : Int)) = false by simpa using hi, show u[i]? = none from List.getElem?_eq_none (by omega)]
theorem r74 {K : Nat} {S N O T : Int} {l : List St4} (ok : MaOk S N O T l) (hK : 2001 ≤ K) : run tab K 27 [eM S N O T l] = some (.tup [.sl 3 (ints (fsts (accM l N T))), .sl 25 (eA (accM l N T))]) := by
  obtain ⟨K, rfl⟩ := succK (show 1 ≤ K by omega)
  have e67 := r67 (K := K) (by omega) ok
  unfold eM at *
  rw [eq27]; unfold sh27 tr27
  rw [e67]
  simp only [castL_L]
  exact l74a K (by omega) ok 41 K 0 [(T, [])] (by omega) (by omega) (by omega) (ai0 ok.s.2 ok.t)
end Go.Proofs.YtahifpeggdcamaaGreatDoor
