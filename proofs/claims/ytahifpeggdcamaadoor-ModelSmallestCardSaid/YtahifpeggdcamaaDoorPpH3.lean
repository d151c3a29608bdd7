/- A part of an interpreter of the model's code that is proved sound, and of laws told by it: DamN3. -/
import Derived.Test.YtahifpeggdcamaaDoorPpH2
set_option linter.unusedVariables false
set_option linter.unusedSimpArgs false
/- The least word by which two machines differ: the plain search; the model's function and the reference's. -/
namespace Go.Proofs.YtahifpeggdcamaaDoor
open Go.Dam
set_option linter.unusedVariables false
set_option linter.unusedSimpArgs false
/-- So many numbers are below n. -/
theorem nodup_le : ∀ (n : Nat) (l : List Nat), l.Nodup → (∀ x ∈ l, x < n) → l.length ≤ n
  | 0, l, _, h => by
    cases l with
    | nil => simp
    | cons a l => have := h a (by simp); omega
  | n + 1, l, hd, h => by
    by_cases hm : n ∈ l
    · have h1 := nodup_le n (l.erase n) (hd.erase n) fun x hx => by
        have := (hd.mem_erase_iff).1 hx
        have := h x this.2
        omega
      have h2 := List.length_erase_of_mem hm
      have h3 : 0 < l.length := List.length_pos_of_mem hm
      omega
    · have := nodup_le n l hd fun x hx => by
        have := h x hx
        have : x ≠ n := fun e => hm (e ▸ hx)
        omega
      omega
abbrev Pr : Type := Int × Int × List Int
def isPr (a b : Int) (x : Pr) : Bool := x.1 == a && x.2.1 == b
def inn (a b : Int) (u : List Pr) : Bool := u.any (isPr a b)
def sr1 (l l' : List St4) (x : Pr) (n : Nat) (u : List Pr) : List Pr ⊕ (List Int × List Pr) :=
  match stp l x.1 n, stp l' x.2.1 n with
  | none, none => .inl u
  | some s, some s' => if s.o = s'.o then if inn s.t s'.t u then .inl u else .inl (u ++ [(s.t, s'.t, x.2.2 ++ [(n : Int)])]) else .inr (x.2.2 ++ [(n : Int)], u)
  | some _, none => .inr (x.2.2 ++ [(n : Int)], u)
  | none, some _ => .inr (x.2.2 ++ [(n : Int)], u)
def srK (l l' : List St4) (x : Pr) : Nat → Nat → List Pr → List Pr ⊕ (List Int × List Pr)
  | 0, _, u => .inl u
  | c + 1, n, u => match sr1 l l' x n u with
    | .inr w => .inr w
    | .inl u' => srK l l' x c (n + 1) u'
def srO (l l' : List St4) (N : Nat) : Nat → Nat → List Pr → List Pr ⊕ (List Int × List Pr)
  | 0, _, u => .inl u
  | F + 1, i, u => match u[i]? with
    | some x => match srK l l' x N 0 u with
      | .inr w => .inr w
      | .inl u' => srO l l' N F (i + 1) u'
    | none => .inl u
def code (x : Pr) : Nat := x.1.toNat * 40 + x.2.1.toNat
structure PI (S S' : Int) (u : List Pr) : Prop where
  s : S ≤ 40 ∧ S' ≤ 40
  rng : ∀ x ∈ u, 0 ≤ x.1 ∧ x.1 < S ∧ 0 ≤ x.2.1 ∧ x.2.1 < S'
  nd : (u.map code).Nodup
  wl : ∀ x ∈ u, x.2.2.length ≤ u.length
theorem PI.len {S S' : Int} {u : List Pr} (h : PI S S' u) : u.length ≤ 1600 := by
  have := nodup_le 1600 (u.map code) h.nd fun y hy => by
    obtain ⟨x, hx, rfl⟩ := List.mem_map.1 hy
    have := h.rng x hx
    have := h.s
    unfold code; omega
  simpa using this
theorem PI.add {S S' : Int} {u : List Pr} (h : PI S S' u) {a b : Int} {w : List Int} (ha : 0 ≤ a ∧ a < S) (hb : 0 ≤ b ∧ b < S') (hn : inn a b u = false) (hw : w.length ≤ u.length + 1) : PI S S' (u ++ [(a, b, w)]) := by
  refine ⟨h.s, fun x hx => ?_, ?_, fun x hx => ?_⟩
  · rcases List.mem_append.1 hx with hx | hx
    · exact h.rng x hx
    · rw [List.mem_singleton.1 hx]; exact ⟨ha.1, ha.2, hb.1, hb.2⟩
  · rw [List.map_append, List.nodup_append]
    refine ⟨h.nd, by simp, fun c hc d hd => ?_⟩
    obtain ⟨x, hx, rfl⟩ := List.mem_map.1 hc
    simp only [List.map_cons, List.map_nil, List.mem_singleton] at hd
    subst hd
    have h1 := h.rng x hx
    have h2 := h.s
    intro e
    unfold inn at hn
    rw [List.any_eq_false] at hn
    refine hn x hx ?_
    simp only [code] at e
    have h3 : x.1 = a ∧ x.2.1 = b := by omega
    unfold isPr
    rw [h3.1, h3.2]; simp
  · rw [List.length_append]
    rcases List.mem_append.1 hx with hx | hx
    · have := h.wl x hx; simp; omega
    · rw [List.mem_singleton.1 hx]; simpa using hw
theorem sr1_ok {S N O T S' O' T' : Int} {l l' : List St4} (ok : MaOk S N O T l) (ok' : MaOk S' N O' T' l') {x : Pr} {n : Nat} {u u' : List Pr} (h : PI S S' u) (hx : x ∈ u) (he : sr1 l l' x n u = .inl u') : PI S S' u' ∧ ∃ v, u' = u ++ v := by
  unfold sr1 at he
  split at he
  · cases he; exact ⟨h, [], by simp⟩
  · rename_i s s' h1 h2
    split at he
    · split at he
      · cases he; exact ⟨h, [], by simp⟩
      · rename_i hn
        cases he
        have m1 := ok.mem s (stp_some h1).1
        have m2 := ok'.mem s' (stp_some h2).1
        exact ⟨h.add ⟨m1.2.2.1, m1.2.2.2.1⟩ ⟨m2.2.2.1, m2.2.2.2.1⟩ (by simpa using hn) (by have := h.wl x hx; simp; omega), _, rfl⟩
    · cases he
  · cases he
  · cases he
theorem srK_ok {S N O T S' O' T' : Int} {l l' : List St4} (ok : MaOk S N O T l) (ok' : MaOk S' N O' T' l') {x : Pr} : ∀ {c n : Nat} {u u' : List Pr}, PI S S' u → x ∈ u → srK l l' x c n u = .inl u' → PI S S' u' ∧ ∃ v, u' = u ++ v
  | 0, n, u, u', h, hx, he => by unfold srK at he; cases he; exact ⟨h, [], by simp⟩
  | c + 1, n, u, u', h, hx, he => by
    unfold srK at he
    split at he
    · cases he
    · rename_i u1 h1
      obtain ⟨g1, v, rfl⟩ := sr1_ok ok ok' h hx h1
      obtain ⟨g2, v', rfl⟩ := srK_ok ok ok' (n := n + 1) g1 (List.mem_append_left _ hx) he
      exact ⟨g2, v ++ v', by simp⟩
def eP2 (x : Pr) : AV := .agg [I x.1, I x.2.1]
def eW (x : Pr) : AV := .sl 3 (ints x.2.2)
theorem eP20 (x : Pr) : cellN (eP2 x) 0 = I x.1 := rfl
theorem eP21 (x : Pr) : cellN (eP2 x) 1 = I x.2.1 := rfl
theorem l92 (K : Nat) (a b : Int) (u : List Pr) (hu : u.length ≤ 4611686018427387904) : ∀ (k i : Nat), u.length - i < k → lp92_2 K k (u.map eP2) (u.length : Int) (i : Int) a b = some (I (idx (isPr a b) i (u.drop i)))
  | 0, i, h => by omega
  | k + 1, i, h => by
    unfold lp92_2 tr92_2
    by_cases hi : i < u.length
    · have ih := l92 K a b u hu k (i + 1) (by omega)
      rw [← wrapN (by omega)] at ih
      rw [show decide ((i : Int) < (u.length : Int)) = true by simpa using hi, List.drop_eq_getElem_cons hi]
      simp only [if_pos (Int.natCast_nonneg i), map_get eP2 hi, eP20, eP21, castI_I, idx, Bool.and_true]
      have e : (a == u[i].1 && b == u[i].2.1) = isPr a b u[i] := by
        unfold isPr
        rw [Bool.eq_iff_iff]
        simp only [Bool.and_eq_true, beq_iff_eq]
        constructor <;> rintro ⟨h1, h2⟩ <;> exact ⟨h1.symm, h2.symm⟩
      rw [e]
      by_cases h0 : isPr a b u[i] = true
      · simp only [h0, if_true]
      · simp only [Bool.not_eq_true] at h0
        simp only [h0, Bool.false_eq_true, if_false]
        exact ih
    · rw [show decide ((i : Int) < (u.length : Int)) = false by simpa using hi, List.drop_eq_nil_of_le (by omega)]
      rfl
theorem r71 {K : Nat} (a b : Int) (u : List Pr) (hu : u.length ≤ 4611686018427387904) (hK : u.length + 3 ≤ K) : run tab K 71 [.sl 52 (u.map eP2), .agg [I a, I b]] = some (B (inn a b u)) := by
  obtain ⟨K, rfl⟩ := succK (show 1 ≤ K by omega)
  obtain ⟨K, rfl⟩ := succK (show 1 ≤ K by omega)
  rw [eq71]; unfold sh71 tr71
  rw [eq92]; unfold sh92 tr92
  rw [List.length_map, show (0 : Int) = ((0 : Nat) : Int) from rfl, l92 K a b u hu K 0 (by omega)]
  simp only [castI_I, List.drop_zero]
  unfold inn
  rw [← idx_any]; rfl
def okT (w : List Int) : AV := .tup [.sl 3 (ints w), I 0]
theorem l38b (K : Nat) (hK : 2000 ≤ K) (q7) {S N O T S' O' T' : Int} {l l' : List St4} (ok : MaOk S N O T l) (ok' : MaOk S' N O' T' l') (y8 y9 y10 y11 : Int) (y12 : List AV) (i : Nat) (x : Pr) :
    ∀ (k n : Nat) (u : List Pr), N.toNat - n < k → n ≤ N.toNat → PI S S' u → u[i]? = some x →
    lp38_11 K q7 k (tblT l S N) (tblT l' S' N) (u.map eP2) (u.map eW) (i : Int) N (n : Int) y8 y9 y10 y11 y12 x.1 x.2.1 =
      match srK l l' x (N.toNat - n) n u with
      | .inr w => some (okT w.1)
      | .inl u' => q7 (tblT l S N) (tblT l' S' N) (u'.map eP2) (u'.map eW) (IntKind.i64.wrap ((i : Int) + 1)) y8 y9 y10 y11 y12
  | 0, n, u, h, _, _, _ => by omega
  | k + 1, n, u, h, hn, hp, hx => by
    obtain ⟨n1, n2⟩ := ok.n
    unfold lp38_11 tr38_11
    by_cases hnn : n < N.toNat
    · have hi : i < u.length := (List.getElem?_eq_some_iff.1 hx).1
      have hxi : u[i] = x := (List.getElem?_eq_some_iff.1 hx).2
      have hxm : x ∈ u := hxi ▸ List.getElem_mem hi
      have hr := hp.rng x hxm
      have hw := hp.wl x hxm
      have hlen := hp.len
      have gw : (u.map eW)[((i : Nat) : Int).toNat]? = some (.sl 3 (ints x.2.2)) := by rw [map_get eW hi, hxi]; rfl
      have e70 := r70 (K := K) (by omega) x.2.2 (by omega)
      have hq : ((ints x.2.2).length + ([I (n : Int)] : List AV).length) * 8 ≤ maxBytes := by
        have : (2000 : Nat) * 8 ≤ maxBytes := by decide
        simp only [ints_len, List.length_cons, List.length_nil]; omega
      have g1 : (tblT l S N)[x.1.toNat]? = some (.sl 122 (rowT l N x.1.toNat)) := tblT_get (by omega)
      have g2 : (tblT l' S' N)[x.2.1.toNat]? = some (.sl 122 (rowT l' N x.2.1.toNat)) := tblT_get (by omega)
      have g3 : (rowT l N x.1.toNat)[((n : Nat) : Int).toNat]? = some (ptr (stp l x.1 n)) := by
        rw [Int.toNat_natCast, rowT_get hnn, show ((x.1.toNat : Nat) : Int) = x.1 by omega]
      have g4 : (rowT l' N x.2.1.toNat)[((n : Nat) : Int).toNat]? = some (ptr (stp l' x.2.1 n)) := by
        rw [Int.toNat_natCast, rowT_get hnn, show ((x.2.1.toNat : Nat) : Int) = x.2.1 by omega]
      have ih := fun (u' : List Pr) (p1 : PI S S' u') (p2 : u'[i]? = some x) => l38b K hK q7 ok ok' y8 y9 y10 y11 y12 i x k (n + 1) u' (by omega) (by omega) p1 p2
      have hok := fun u' he => sr1_ok (u' := u') ok ok' hp hxm (n := n) he
      have hkeep : ∀ v : List Pr, (u ++ v)[i]? = some x := fun v => by rw [List.getElem?_append_left hi]; exact hx
      rw [show decide ((n : Int) < N) = true by simp; omega, show N.toNat - n = (N.toNat - (n + 1)) + 1 by omega]
      simp only [if_pos (Int.natCast_nonneg i), if_pos (Int.natCast_nonneg n), gw, castL_L, e70, if_pos hq, if_pos hr.1, if_pos hr.2.2.1, g1, g2, g3, g4, castP_ptr, castNil_ptr, ints_snoc, srK, wrapN (show n ≤ 4611686018427387904 by omega)]
      unfold sr1 at hok ⊢
      cases h1 : stp l x.1 n with
      | none =>
        cases h2 : stp l' x.2.1 n with
        | none =>
          simp only [Option.isNone_none]
          exact ih u hp hx
        | some s' => rfl
      | some s =>
        cases h2 : stp l' x.2.1 n with
        | none => rfl
        | some s' =>
          rw [h1, h2] at hok
          simp only [Option.isNone_some, castRef_ptr, castRef_ref, List.getD_cons_zero, List.getD_cons_succ, castI_I]
          by_cases h3 : s.o = s'.o
          · simp only [if_pos h3] at hok ⊢
            rw [show (s.o != s'.o) = false by simpa using h3]
            simp only [r71 (K := K) s.t s'.t u (by omega) (by omega), castB_B]
            by_cases h4 : inn s.t s'.t u = true
            · simp only [h4, Bool.not_true, if_true]
              exact ih u hp hx
            · simp only [Bool.not_eq_true] at h4
              simp only [h4, Bool.false_eq_true, if_false] at hok ⊢
              have p1 := (hok _ rfl).1
              have q1 : ((u.map eP2).length + ([.agg [I s.t, I s'.t]] : List AV).length) * 16 ≤ maxBytes := by
                have : (2000 : Nat) * 16 ≤ maxBytes := by decide
                simp only [List.length_map, List.length_cons, List.length_nil]; omega
              have q2 : ((u.map eW).length + ([.sl 3 (ints (x.2.2 ++ [(n : Int)]))] : List AV).length) * 24 ≤ maxBytes := by
                have : (2000 : Nat) * 24 ≤ maxBytes := by decide
                simp only [List.length_map, List.length_cons, List.length_nil]; omega
              simp only [Bool.not_false, if_pos q1, if_pos q2]
              have := ih _ p1 (hkeep _)
              rw [← this]
              simp [eP2, eW]
          · simp only [if_neg h3]
            rw [show (s.o != s'.o) = true by simpa using h3]
            rfl
    · rw [show decide ((n : Int) < N) = false by simp; omega, show N.toNat - n = 0 by omega]
      rfl
def resD : List Pr ⊕ (List Int × List Pr) → AV
  | .inr w => okT w.1
  | .inl _ => .tup [.sl 3 [], I 23]
theorem l38a (K : Nat) (hK : 2000 ≤ K) {S N O T S' O' T' : Int} {l l' : List St4} (ok : MaOk S N O T l) (ok' : MaOk S' N O' T' l') (y6 y8 y9 : Int) (y10 : List AV) :
    ∀ (F k i : Nat) (u : List Pr), 1600 - i < F → F ≤ k → i ≤ 1600 → PI S S' u →
    lp38_7 K k (tblT l S N) (tblT l' S' N) (u.map eP2) (u.map eW) (i : Int) y6 N y8 y9 y10 = some (resD (srO l l' N.toNat F i u))
  | 0, k, i, u, h, _, _, _ => by omega
  | F + 1, 0, i, u, h, hk, _, _ => by omega
  | F + 1, k + 1, i, u, h, hk, h16, hp => by
    have hlen := hp.len
    obtain ⟨n1, n2⟩ := ok.n
    unfold lp38_7 tr38_7 srO
    rw [List.length_map]
    by_cases hi : i < u.length
    · have hx : u[i]? = some u[i] := List.getElem?_eq_getElem hi
      have hb := l38b K hK (lp38_7 K k) ok ok' y6 N y8 y9 y10 i u[i] K 0 u (by omega) (by omega) hp hx
      rw [show decide ((i : Int) < (u.length : Int)) = true by simpa using hi, hx]
      simp only [if_pos (Int.natCast_nonneg i), map_get eP2 hi, eP20, eP21, castI_I]
      refine Eq.trans hb ?_
      rw [Nat.sub_zero]
      cases hs : srK l l' u[i] N.toNat 0 u with
      | inr w => rfl
      | inl u' =>
        obtain ⟨p1, _⟩ := srK_ok ok ok' hp (List.getElem_mem hi) hs
        simp only []
        rw [wrapN (by omega)]
        exact l38a K hK ok ok' y6 y8 y9 y10 F k (i + 1) u' (by omega) (by omega) (by omega) p1
    · rw [show decide ((i : Int) < (u.length : Int)) = false by simpa using hi, show u[i]? = none from List.getElem?_eq_none (by omega)]
      rfl
/-- The search of two machines from two states. -/
def searchM (l l' : List St4) (N : Int) (s t : Int) : List Pr ⊕ (List Int × List Pr) := srO l l' N.toNat 1601 0 [(s, t, [])]
theorem pi0 {S S' s t : Int} (h1 : S ≤ 40) (h2 : S' ≤ 40) (hs : 0 ≤ s ∧ s < S) (ht : 0 ≤ t ∧ t < S') : PI S S' [(s, t, [])] :=
  ⟨⟨h1, h2⟩, fun x hx => by rw [List.mem_singleton.1 hx]; exact ⟨hs.1, hs.2, ht.1, ht.2⟩, by simp, fun x hx => by rw [List.mem_singleton.1 hx]; simp⟩
def difE (S N O T : Int) (l : List St4) (S' N' O' T' : Int) (l' : List St4) : Int := orI [(machErr S N O T l).2, (machErr S' N' O' T' l').2, if N = N' then 0 else 6]
def difT (S N O T : Int) (l : List St4) (S' N' O' T' : Int) (l' : List St4) : AV := if difE S N O T l S' N' O' T' l' = 0 then resD (searchM l l' N T T') else .tup [.sl 3 [], I (difE S N O T l S' N' O' T' l')]
theorem r38 {K : Nat} (S N O T : Int) (l : List St4) (S' N' O' T' : Int) (l' : List St4) (hl : l.length ≤ 4611686018427387904) (hl' : l'.length ≤ 4611686018427387904) (hK : l.length + l'.length + 2100 ≤ K) :
    run tab K 38 [eM S N O T l, eM S' N' O' T' l'] = some (difT S N O T l S' N' O' T' l') := by
  obtain ⟨K, rfl⟩ := succK (show 1 ≤ K by omega)
  have e1 := r66 (K := K) S N O T l hl (by omega)
  have e2 := r66 (K := K) S' N' O' T' l' hl' (by omega)
  have e61 : ∀ a b c : Int, run tab K 61 [.sl 32 [I a, I b, I c]] = some (I (orI [a, b, c])) := fun a b c => r61 [a, b, c] (by simp) (by simp; omega)
  have hN : (if (N == N') = true then (0 : Int) else 6) = if N = N' then 0 else 6 := by
    by_cases h : N = N' <;> simp [h]
  unfold difT
  by_cases h0 : difE S N O T l S' N' O' T' l' = 0
  · rw [if_pos h0]
    have hz := orI_zero h0
    have z1 : (machErr S N O T l).2 = 0 := hz _ (by simp)
    have z2 : (machErr S' N' O' T' l').2 = 0 := hz _ (by simp)
    have z3 : N = N' := by
      have := hz (if N = N' then 0 else 6) (by simp)
      by_cases h : N = N'
      · exact h
      · rw [if_neg h] at this; simp at this
    subst z3
    have ok := maOk_of z1
    have ok' := maOk_of z2
    obtain ⟨s1, s2⟩ := ok.s
    obtain ⟨s3, s4⟩ := ok'.s
    have t1 := r67 (K := K) (by omega) ok
    have t2 := r67 (K := K) (by omega) ok'
    have main := l38a K (by omega) ok ok' S O T (steps l) 1601 K 0 [(T, T', [])] (by omega) (by omega) (by omega) (pi0 (by omega) (by omega) ok.t ok'.t)
    have o0 : orI [0, 0, 0] = 0 := rfl
    rw [z1] at e1
    rw [z2] at e2
    unfold eM at *
    rw [eq38]; unfold sh38 tr38
    simp only [e1, e2, castI_I, r62 (show 1 ≤ K by omega), beq_self_eq_true, if_true, e61, o0, bne_self_eq_false, t1, t2, castL_L]
    exact main
  · rw [if_neg h0]
    unfold difE at *
    unfold eM at *
    rw [eq38]; unfold sh38 tr38
    simp only [e1, e2, castI_I, r62 (show 1 ≤ K by omega), hN, e61]
    rw [show (orI [(machErr S N O T l).2, (machErr S' N' O' T' l').2, if N = N' then 0 else 6] != 0) = true by simpa using h0]
end Go.Proofs.YtahifpeggdcamaaDoor
