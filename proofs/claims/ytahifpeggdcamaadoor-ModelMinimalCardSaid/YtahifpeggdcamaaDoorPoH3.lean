/- A part of an interpreter of the model's code that is proved sound, and of laws told by it: DamN3. -/
import Derived.Test.YtahifpeggdcamaaDoorPoH2
set_option linter.unusedVariables false
set_option linter.unusedSimpArgs false
/- The least word by which two machines differ: the plain search; the model's function and the reference's. -/
namespace Go.Proofs.YtahifpeggdcamaaDoor
open Go.Dam
set_option linter.unusedVariables false
set_option linter.unusedSimpArgs false
/-- So many numbers are below n. -/
theorem nodup_le : ∀ (n : Nat) (l : List Nat), l.Nodup → (∀ x ∈ l, x < n) → l.length ≤ n
  | 0, l, _, h => by
    cases l with
    | nil => simp
    | cons a l => have := h a (by simp); omega
  | n + 1, l, hd, h => by
    by_cases hm : n ∈ l
    · have h1 := nodup_le n (l.erase n) (hd.erase n) fun x hx => by
        have := (hd.mem_erase_iff).1 hx
        have := h x this.2
        omega
      have h2 := List.length_erase_of_mem hm
      have h3 : 0 < l.length := List.length_pos_of_mem hm
      omega
    · have := nodup_le n l hd fun x hx => by
        have := h x hx
        have : x ≠ n := fun e => hm (e ▸ hx)
        omega
      omega
abbrev Pr : Type := Int × Int × List Int
def isPr (a b : Int) (x : Pr) : Bool := x.1 == a && x.2.1 == b
def inn (a b : Int) (u : List Pr) : Bool := u.any (isPr a b)
def sr1 (l l' : List St4) (x : Pr) (n : Nat) (u : List Pr) : List Pr ⊕ (List Int × List Pr) :=
  match stp l x.1 n, stp l' x.2.1 n with
  | none, none => .inl u
  | some s, some s' => if s.o = s'.o then if inn s.t s'.t u then .inl u else .inl (u ++ [(s.t, s'.t, x.2.2 ++ [(n : Int)])]) else .inr (x.2.2 ++ [(n : Int)], u)
  | some _, none => .inr (x.2.2 ++ [(n : Int)], u)
  | none, some _ => .inr (x.2.2 ++ [(n : Int)], u)
def srK (l l' : List St4) (x : Pr) : Nat → Nat → List Pr → List Pr ⊕ (List Int × List Pr)
  | 0, _, u => .inl u
  | c + 1, n, u => match sr1 l l' x n u with
    | .inr w => .inr w
    | .inl u' => srK l l' x c (n + 1) u'
def srO (l l' : List St4) (N : Nat) : Nat → Nat → List Pr → List Pr ⊕ (List Int × List Pr)
  | 0, _, u => .inl u
  | F + 1, i, u => match u[i]? with
    | some x => match srK l l' x N 0 u with
      | .inr w => .inr w
      | .inl u' => srO l l' N F (i + 1) u'
    | none => .inl u
def code (x : Pr) : Nat := x.1.toNat * 40 + x.2.1.toNat
structure PI (S S' : Int) (u : List Pr) : Prop where
  s : S ≤ 40 ∧ S' ≤ 40
  rng : ∀ x ∈ u, 0 ≤ x.1 ∧ x.1 < S ∧ 0 ≤ x.2.1 ∧ x.2.1 < S'
  nd : (u.map code).Nodup
  wl : ∀ x ∈ u, x.2.2.length ≤ u.length
theorem PI.len {S S' : Int} {u : List Pr} (h : PI S S' u) : u.length ≤ 1600 := by
  have := nodup_le 1600 (u.map code) h.nd fun y hy => by
    obtain ⟨x, hx, rfl⟩ := List.mem_map.1 hy
    have := h.rng x hx
    have := h.s
    unfold code; omega
  simpa using this
theorem PI.add {S S' : Int} {u : List Pr} (h : PI S S' u) {a b : Int} {w : List Int} (ha : 0 ≤ a ∧ a < S) (hb : 0 ≤ b ∧ b < S') (hn : inn a b u = false) (hw : w.length ≤ u.length + 1) : PI S S' (u ++ [(a, b, w)]) := by
  refine ⟨h.s, fun x hx => ?_, ?_, fun x hx => ?_⟩
  · rcases List.mem_append.1 hx with hx | hx
    · exact h.rng x hx
    · rw [List.mem_singleton.1 hx]; exact ⟨ha.1, ha.2, hb.1, hb.2⟩
  · rw [List.map_append, List.nodup_append]
    refine ⟨h.nd, by simp, fun c hc d hd => ?_⟩
    obtain ⟨x, hx, rfl⟩ := List.mem_map.1 hc
    simp only [List.map_cons, List.map_nil, List.mem_singleton] at hd
    subst hd
    have h1 := h.rng x hx
    have h2 := h.s
    intro e
    unfold inn at hn
    rw [List.any_eq_false] at hn
    refine hn x hx ?_
    simp only [code] at e
    have h3 : x.1 = a ∧ x.2.1 = b := by omega
    unfold isPr
    rw [h3.1, h3.2]; simp
  · rw [List.length_append]
    rcases List.mem_append.1 hx with hx | hx
    · have := h.wl x hx; simp; omega
    · rw [List.mem_singleton.1 hx]; simpa using hw
theorem sr1_ok {S N O T S' O' T' : Int} {l l' : List St4} (ok : MaOk S N O T l) (ok' : MaOk S' N O' T' l') {x : Pr} {n : Nat} {u u' : List Pr} (h : PI S S' u) (hx : x ∈ u) (he : sr1 l l' x n u = .inl u') : PI S S' u' ∧ ∃ v, u' = u ++ v := by
  unfold sr1 at he
  split at he
  · cases he; exact ⟨h, [], by simp⟩
  · rename_i s s' h1 h2
    split at he
    · split at he
      · cases he; exact ⟨h, [], by simp⟩
      · rename_i hn
        cases he
        have m1 := ok.mem s (stp_some h1).1
        have m2 := ok'.mem s' (stp_some h2).1
        exact ⟨h.add ⟨m1.2.2.1, m1.2.2.2.1⟩ ⟨m2.2.2.1, m2.2.2.2.1⟩ (by simpa using hn) (by have := h.wl x hx; simp; omega), _, rfl⟩
    · cases he
  · cases he
  · cases he
theorem srK_ok {S N O T S' O' T' : Int} {l l' : List St4} (ok : MaOk S N O T l) (ok' : MaOk S' N O' T' l') {x : Pr} : ∀ {c n : Nat} {u u' : List Pr}, PI S S' u → x ∈ u → srK l l' x c n u = .inl u' → PI S S' u' ∧ ∃ v, u' = u ++ v
  | 0, n, u, u', h, hx, he => by unfold srK at he; cases he; exact ⟨h, [], by simp⟩
  | c + 1, n, u, u', h, hx, he => by
    unfold srK at he
    split at he
    · cases he
    · rename_i u1 h1
      obtain ⟨g1, v, rfl⟩ := sr1_ok ok ok' h hx h1
      obtain ⟨g2, v', rfl⟩ := srK_ok ok ok' (n := n + 1) g1 (List.mem_append_left _ hx) he
      exact ⟨g2, v ++ v', by simp⟩
def eP3 (x : Pr) : AV := .agg [I x.1, I x.2.1, .sl 3 (ints x.2.2)]
theorem eP30 (x : Pr) : cellN (eP3 x) 0 = I x.1 := rfl
theorem eP31 (x : Pr) : cellN (eP3 x) 1 = I x.2.1 := rfl
theorem eP32 (x : Pr) : cellN (eP3 x) 2 = .sl 3 (ints x.2.2) := rfl
theorem l93 (K : Nat) (a b : Int) (w : List AV) (u : List Pr) (hu : u.length ≤ 4611686018427387904) : ∀ (k i : Nat), u.length - i < k → lp93_2 K k (u.map eP3) (i : Int) a b w = some (B (inn a b (u.drop i)))
  | 0, i, h => by omega
  | k + 1, i, h => by
    unfold lp93_2 tr93_2
    rw [List.length_map]
    by_cases hi : i < u.length
    · have ih := l93 K a b w u hu k (i + 1) (by omega)
      rw [← wrapN (by omega)] at ih
      rw [show decide ((i : Int) < (u.length : Int)) = true by simpa using hi, List.drop_eq_getElem_cons hi]
      simp only [if_pos (Int.natCast_nonneg i), map_get eP3 hi, eP30, eP31, castI_I, inn, List.any_cons, isPr]
      by_cases h1 : (u[i].1 == a) = true
      · simp only [h1, Bool.true_and]
        by_cases h2 : (u[i].2.1 == b) = true
        · simp only [h2, Bool.true_or]
        · simp only [Bool.not_eq_true] at h2
          simp only [h2, Bool.false_or]
          exact ih
      · simp only [Bool.not_eq_true] at h1
        simp only [h1, Bool.false_and, Bool.false_or]
        exact ih
    · rw [show decide ((i : Int) < (u.length : Int)) = false by simpa using hi, List.drop_eq_nil_of_le (by omega)]
      rfl
theorem r93 {K : Nat} (a b : Int) (w : List AV) (u : List Pr) (hu : u.length ≤ 4611686018427387904) (hK : u.length + 2 ≤ K) : run tab K 93 [.sl 130 (u.map eP3), .agg [I a, I b, .sl 3 w]] = some (B (inn a b u)) := by
  obtain ⟨K, rfl⟩ := succK (show 1 ≤ K by omega)
  rw [eq93]; unfold sh93 tr93
  exact l93 K a b w u hu K 0 (by omega)
/-- The search of two machines from two states. -/
def searchM (l l' : List St4) (N : Int) (s t : Int) : List Pr ⊕ (List Int × List Pr) := srO l l' N.toNat 1601 0 [(s, t, [])]
theorem pi0 {S S' s t : Int} (h1 : S ≤ 40) (h2 : S' ≤ 40) (hs : 0 ≤ s ∧ s < S) (ht : 0 ≤ t ∧ t < S') : PI S S' [(s, t, [])] :=
  ⟨⟨h1, h2⟩, fun x hx => by rw [List.mem_singleton.1 hx]; exact ⟨hs.1, hs.2, ht.1, ht.2⟩, by simp, fun x hx => by rw [List.mem_singleton.1 hx]; simp⟩
def resS : List Pr ⊕ (List Int × List Pr) → AV
  | .inr w => .tup [.sl 3 (ints w.1), B true, .sl 130 (w.2.map eP3)]
  | .inl u => .tup [.sl 3 [], B false, .sl 130 (u.map eP3)]
theorem l72b (K : Nat) (hK : 2000 ≤ K) (q3) {S N O T S' O' T' : Int} {l l' : List St4} (ok : MaOk S N O T l) (ok' : MaOk S' N O' T' l') (i : Nat) (x : Pr) :
    ∀ (k n : Nat) (u : List Pr), N.toNat - n < k → n ≤ N.toNat → PI S S' u → u[i]? = some x →
    lp72_6 K q3 k (u.map eP3) (i : Int) (n : Int) S N O T (steps l) S' N O' T' (steps l') =
      match srK l l' x (N.toNat - n) n u with
      | .inr w => some (resS (.inr w))
      | .inl u' => q3 (u'.map eP3) (IntKind.i64.wrap ((i : Int) + 1)) S N O T (steps l) S' N O' T' (steps l')
  | 0, n, u, h, _, _, _ => by omega
  | k + 1, n, u, h, hn, hp, hx => by
    obtain ⟨n1, n2⟩ := ok.n
    have hl := ok.len
    have hl' := ok'.len
    unfold lp72_6 tr72_6
    by_cases hnn : n < N.toNat
    · have hi : i < u.length := (List.getElem?_eq_some_iff.1 hx).1
      have hxi : u[i] = x := (List.getElem?_eq_some_iff.1 hx).2
      have hxm : x ∈ u := hxi ▸ List.getElem_mem hi
      have hr := hp.rng x hxm
      have hw := hp.wl x hxm
      have hlen := hp.len
      have gx : (u.map eP3)[((i : Nat) : Int).toNat]? = some (eP3 x) := by rw [map_get eP3 hi, hxi]
      have e27 := r27 (K := K) (ints x.2.2) (by
        rw [ints_len]
        have : (2000 : Nat) * 8 ≤ maxBytes := by decide
        omega) (by omega)
      have hq : ((ints x.2.2).length + ([I (n : Int)] : List AV).length) * 8 ≤ maxBytes := by
        have : (2000 : Nat) * 8 ≤ maxBytes := by decide
        simp only [ints_len, List.length_cons, List.length_nil]; omega
      have e1 := r68 (K := K) S N O T x.1 n l (by omega) (by omega)
      have e2 := r68 (K := K) S' N O' T' x.2.1 n l' (by omega) (by omega)
      unfold eM at e1 e2
      have ih := fun (u' : List Pr) (p1 : PI S S' u') (p2 : u'[i]? = some x) => l72b K hK q3 ok ok' i x k (n + 1) u' (by omega) (by omega) p1 p2
      have hok := fun u' he => sr1_ok (u' := u') ok ok' hp hxm (n := n) he
      have hkeep : ∀ v : List Pr, (u ++ v)[i]? = some x := fun v => by rw [List.getElem?_append_left hi]; exact hx
      rw [show decide ((n : Int) < N) = true by simp; omega, show N.toNat - n = (N.toNat - (n + 1)) + 1 by omega]
      simp only [if_pos (Int.natCast_nonneg i), gx, eP30, eP31, eP32, castI_I, castL_L, e27, if_pos hq, e1, e2, ints_snoc, srK, wrapN (show n ≤ 4611686018427387904 by omega)]
      unfold sr1 at hok ⊢
      cases h1 : stp l x.1 n with
      | none =>
        rw [stepAt_none h1]
        cases h2 : stp l' x.2.1 n with
        | none =>
          rw [stepAt_none h2]
          simp only [beq_self_eq_true]
          exact ih u hp hx
        | some s' =>
          obtain ⟨b, hb, b1, b2⟩ := stepAt_some 0 h2
          have hbb : stepAt l' x.2.1 n = (b : Int) := by unfold stepAt; rw [b1]; simp
          rw [hbb, show ((b : Int) == -1) = false by simp]
          rfl
      | some s =>
        obtain ⟨a, ha, a1, a2⟩ := stepAt_some 0 h1
        have haa : stepAt l x.1 n = (a : Int) := by unfold stepAt; rw [a1]; simp
        have ea : ((a : Int) == -1) = false := by simp
        cases h2 : stp l' x.2.1 n with
        | none =>
          rw [haa, stepAt_none h2, ea]
          rfl
        | some s' =>
          obtain ⟨b, hb, b1, b2⟩ := stepAt_some 0 h2
          have hbb : stepAt l' x.2.1 n = (b : Int) := by unfold stepAt; rw [b1]; simp
          have eb : ((b : Int) == -1) = false := by simp
          rw [h1, h2] at hok
          rw [haa, hbb, ea, eb]
          simp only [if_pos (Int.natCast_nonneg a), if_pos (Int.natCast_nonneg b), steps_get ha, steps_get hb, a2, b2, eS2, eS3, castI_I]
          by_cases h3 : s.o = s'.o
          · simp only [if_pos h3] at hok ⊢
            rw [show (s.o != s'.o) = false by simpa using h3]
            simp only [r93 (K := K) s.t s'.t _ u (by omega) (by omega), castB_B]
            by_cases h4 : inn s.t s'.t u = true
            · simp only [h4, Bool.not_true, if_true]
              exact ih u hp hx
            · simp only [Bool.not_eq_true] at h4
              simp only [h4, Bool.false_eq_true, if_false] at hok ⊢
              have p1 := (hok _ rfl).1
              have q1 : ((u.map eP3).length + ([.agg [I s.t, I s'.t, .sl 3 (ints (x.2.2 ++ [(n : Int)]))]] : List AV).length) * 40 ≤ maxBytes := by
                have : (2000 : Nat) * 40 ≤ maxBytes := by decide
                simp only [List.length_map, List.length_cons, List.length_nil]; omega
              simp only [Bool.not_false, if_pos q1]
              have := ih _ p1 (hkeep _)
              rw [← this]
              simp [eP3]
          · simp only [if_neg h3]
            rw [show (s.o != s'.o) = true by simpa using h3]
            rfl
    · rw [show decide ((n : Int) < N) = false by simp; omega, show N.toNat - n = 0 by omega]
      rfl
theorem l72a (K : Nat) (hK : 2000 ≤ K) {S N O T S' O' T' : Int} {l l' : List St4} (ok : MaOk S N O T l) (ok' : MaOk S' N O' T' l') :
    ∀ (F k i : Nat) (u : List Pr), 1600 - i < F → F ≤ k → i ≤ 1600 → PI S S' u →
    lp72_3 K k (u.map eP3) (i : Int) S N O T (steps l) S' N O' T' (steps l') = some (resS (srO l l' N.toNat F i u))
  | 0, k, i, u, h, _, _, _ => by omega
  | F + 1, 0, i, u, h, hk, _, _ => by omega
  | F + 1, k + 1, i, u, h, hk, h16, hp => by
    have hlen := hp.len
    obtain ⟨n1, n2⟩ := ok.n
    unfold lp72_3 tr72_3 srO
    rw [List.length_map]
    by_cases hi : i < u.length
    · have hx : u[i]? = some u[i] := List.getElem?_eq_getElem hi
      have hb := l72b K hK (lp72_3 K k) ok ok' i u[i] K 0 u (by omega) (by omega) hp hx
      rw [show decide ((i : Int) < (u.length : Int)) = true by simpa using hi, hx]
      refine Eq.trans hb ?_
      rw [Nat.sub_zero]
      simp only []
      cases hs : srK l l' u[i] N.toNat 0 u with
      | inr w => rfl
      | inl u' =>
        obtain ⟨p1, _⟩ := srK_ok ok ok' hp (List.getElem_mem hi) hs
        simp only []
        rw [wrapN (by omega)]
        exact l72a K hK ok ok' F k (i + 1) u' (by omega) (by omega) (by omega) p1
    · rw [show decide ((i : Int) < (u.length : Int)) = false by simpa using hi, show u[i]? = none from List.getElem?_eq_none (by omega)]
      rfl
theorem r72 {K : Nat} {S N O T S' O' T' : Int} {l l' : List St4} (ok : MaOk S N O T l) (ok' : MaOk S' N O' T' l') {s t : Int} (hs : 0 ≤ s ∧ s < S) (ht : 0 ≤ t ∧ t < S') (hK : 2001 ≤ K) :
    run tab K 72 [eM S N O T l, eM S' N O' T' l', .agg [I s, I t, .sl 3 []]] = some (resS (searchM l l' N s t)) := by
  obtain ⟨K, rfl⟩ := succK (show 1 ≤ K by omega)
  obtain ⟨s1, s2⟩ := ok.s
  obtain ⟨s3, s4⟩ := ok'.s
  unfold eM
  rw [eq72]; unfold sh72 tr72
  exact l72a K (by omega) ok ok' 1601 K 0 [(s, t, [])] (by omega) (by omega) (by omega) (pi0 (by omega) (by omega) hs ht)
def resP : List Pr ⊕ (List Int × List Pr) → AV
  | .inr w => .tup [.sl 3 (ints w.1), B true]
  | .inl u => .tup [.sl 3 [], B false]
theorem r39 {K : Nat} {S N O T S' O' T' : Int} {l l' : List St4} (ok : MaOk S N O T l) (ok' : MaOk S' N O' T' l') {s t : Int} (hs : 0 ≤ s ∧ s < S) (ht : 0 ≤ t ∧ t < S') (hK : 2002 ≤ K) :
    run tab K 39 [eM S N O T l, eM S' N O' T' l', I s, I t] = some (resP (searchM l l' N s t)) := by
  obtain ⟨K, rfl⟩ := succK (show 1 ≤ K by omega)
  have := r72 (K := K) ok ok' hs ht (by omega)
  unfold eM at *
  rw [eq39]; unfold sh39 tr39
  rw [this]
  cases searchM l l' N s t <;> simp only [resS, resP, comp30, comp31, comp32, castL_L, castB_B]
end Go.Proofs.YtahifpeggdcamaaDoor
