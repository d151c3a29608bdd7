/- A part of an interpreter of the model's code that is proved sound, and of laws told by it: DamA1, DamA2. -/
import Derived.Test.YtahifpeggdcamaaGreatDoorPqJ1
import Derived.Test.YtahifpeggdcamaaGreatDoorPqG1
set_option linter.unusedVariables false
set_option linter.unusedSimpArgs false
/- The least words of the states that are reached: what the reference's function tells. -/
namespace Go.Proofs.YtahifpeggdcamaaGreatDoor
open Go.Dam
set_option linter.unusedVariables false
set_option linter.unusedSimpArgs false
theorem cellN_agg (l : List AV) (j : Nat) : cellN (.agg l) j = l.getD j .undef := rfl
theorem r31s {K : Nat} (x : List Int) (hx : x.length + 2 ≤ K) (hx' : x.length ≤ 4611686018427387904) : run tab K 10 [.sl 3 (ints x), .sl 3 (ints x)] = some (B true) := by
  rw [r31 x x hx' hx' hx]; simp
theorem comp20 (a b : AV) : compN (.tup [a, b]) 0 = a := rfl
theorem comp21 (a b : AV) : compN (.tup [a, b]) 1 = b := rfl
theorem comp30 (a b c : AV) : compN (.tup [a, b, c]) 0 = a := rfl
theorem comp31 (a b c : AV) : compN (.tup [a, b, c]) 1 = b := rfl
theorem comp32 (a b c : AV) : compN (.tup [a, b, c]) 2 = c := rfl
def wordOf (u : List Ac) (s : Int) : List Int := ((u.find? fun x => x.1 == s).map (·.2)).getD []
def wordsA (S : Int) (u : List Ac) : List AV := (List.range S.toNat).map fun (s : Nat) => .sl 3 (ints (wordOf u s))
def isA (S : Int) (u : List Ac) : List AV := (List.range S.toNat).map fun (s : Nat) => B (inL s (fsts u))
theorem wordsA_get {S : Int} {u : List Ac} {s : Int} (h : 0 ≤ s ∧ s < S) : (wordsA S u)[s.toNat]? = some (.sl 3 (ints (wordOf u s))) := by
  unfold wordsA
  rw [List.getElem?_map, List.getElem?_range (by omega)]
  simp only [Option.map_some]
  rw [Int.toNat_of_nonneg h.1]
theorem isA_get {S : Int} {u : List Ac} {s : Int} (h : 0 ≤ s ∧ s < S) : (isA S u)[s.toNat]? = some (B (inL s (fsts u))) := by
  unfold isA
  rw [List.getElem?_map, List.getElem?_range (by omega)]
  simp only [Option.map_some]
  rw [Int.toNat_of_nonneg h.1]
theorem inL_app (a : Int) (u : List Ac) (b : Int) (w : List Int) : inL a (fsts (u ++ [(b, w)])) = (inL a (fsts u) || (a == b)) := by
  unfold inL fsts
  rw [List.map_append, List.any_append]
  simp
theorem wordOf_app {a : Int} {u : List Ac} {b : Int} {w : List Int} (h : inL b (fsts u) = false) : wordOf (u ++ [(b, w)]) a = if a = b then w else wordOf u a := by
  unfold wordOf
  rw [List.find?_append]
  by_cases e : a = b
  · subst e
    have : u.find? (fun x => x.1 == a) = none := by
      rw [List.find?_eq_none]
      intro x hx hxa
      have : inL a (fsts u) = true := inL_iff.2 (List.mem_map.2 ⟨x, hx, eq_of_beq hxa⟩)
      rw [this] at h; cases h
    rw [this, if_pos rfl]
    simp
  · rw [if_neg e]
    have : ((b : Int) == a) = false := by simpa using fun x => e x.symm
    simp [this]
theorem isA_set {S : Int} {u : List Ac} {b : Int} {w : List Int} (hb : 0 ≤ b ∧ b < S) : (isA S u).set b.toNat (B true) = isA S (u ++ [(b, w)]) := by
  apply List.ext_getElem?
  intro i
  unfold isA
  by_cases hi : i < S.toNat
  · rw [List.getElem?_set]
    by_cases e : b.toNat = i
    · subst e
      rw [if_pos rfl, if_pos (by simp; omega), List.getElem?_map, List.getElem?_range hi]
      simp only [Option.map_some]
      rw [inL_app, Int.toNat_of_nonneg hb.1]; simp
    · rw [if_neg e, List.getElem?_map, List.getElem?_map, List.getElem?_range hi]
      simp only [Option.map_some]
      rw [inL_app, show (((i : Nat) : Int) == b) = false by simp; omega, Bool.or_false]
  · rw [List.getElem?_eq_none (by simp; omega), List.getElem?_eq_none (by simp; omega)]
theorem wordsA_set {S : Int} {u : List Ac} {b : Int} {w : List Int} (hb : 0 ≤ b ∧ b < S) (hn : inL b (fsts u) = false) : (wordsA S u).set b.toNat (.sl 3 (ints w)) = wordsA S (u ++ [(b, w)]) := by
  apply List.ext_getElem?
  intro i
  unfold wordsA
  by_cases hi : i < S.toNat
  · rw [List.getElem?_set]
    by_cases e : b.toNat = i
    · subst e
      rw [if_pos rfl, if_pos (by simp; omega), List.getElem?_map, List.getElem?_range hi]
      simp only [Option.map_some]
      rw [wordOf_app hn, Int.toNat_of_nonneg hb.1, if_pos rfl]
    · rw [if_neg e, List.getElem?_map, List.getElem?_map, List.getElem?_range hi]
      simp only [Option.map_some]
      rw [wordOf_app hn, if_neg (by omega)]
  · rw [List.getElem?_eq_none (by simp; omega), List.getElem?_eq_none (by simp; omega)]
theorem fst_inj {S : Int} {u : List Ac} (h : AI S u) {i j : Nat} {x y : Ac} (hi : u[i]? = some x) (hj : u[j]? = some y) (e : x.1 = y.1) : i = j := by
  have nd := h.nd
  obtain ⟨h1, rfl⟩ := List.getElem?_eq_some_iff.1 hi
  obtain ⟨h2, rfl⟩ := List.getElem?_eq_some_iff.1 hj
  have := (List.getElem_inj (h₀ := by simpa using h1) (h₁ := by simpa using h2) nd).1 (by simp [e])
  exact this
theorem wordOf_at {S : Int} {u : List Ac} (h : AI S u) {i : Nat} {x : Ac} (hi : u[i]? = some x) : wordOf u x.1 = x.2 := by
  unfold wordOf
  cases hf : u.find? (fun y => y.1 == x.1) with
  | none =>
    rw [List.find?_eq_none] at hf
    have := hf x (List.mem_of_getElem? hi)
    simp at this
  | some y =>
    have h1 : y.1 = x.1 := eq_of_beq (List.find?_some (p := fun (y : Ac) => y.1 == x.1) hf)
    obtain ⟨j, hj⟩ := List.getElem?_of_mem (List.mem_of_find?_eq_some hf)
    have := fst_inj h hj hi h1
    subst this
    rw [hi] at hj; cases hj; rfl
theorem l9b (K : Nat) (hK : 2000 ≤ K) (q5) {S N O T : Int} {l : List St4} (ok : MaOk S N O T l) (i : Nat) (x : Ac) :
    ∀ (k n : Nat) (u : List Ac), N.toNat - n < k → n ≤ N.toNat → AI S u → u[i]? = some x →
    lp9_8 K q5 k (wordsA S u) (isA S u) (ints (fsts u)) (i : Int) (n : Int) S N O T (steps l) = q5 (wordsA S (acK l x (N.toNat - n) n u)) (isA S (acK l x (N.toNat - n) n u)) (ints (fsts (acK l x (N.toNat - n) n u))) (IntKind.i64.wrap ((i : Int) + 1)) S N O T (steps l)
  | 0, n, u, h, _, _, _ => by omega
  | k + 1, n, u, h, hn, hp, hx => by
    obtain ⟨n1, n2⟩ := ok.n
    unfold lp9_8 tr9_8
    by_cases hnn : n < N.toNat
    · have hi : i < u.length := (List.getElem?_eq_some_iff.1 hx).1
      have hxi : u[i] = x := (List.getElem?_eq_some_iff.1 hx).2
      have hxr := hp.rng x (hxi ▸ List.getElem_mem hi)
      have hlen := hp.len
      have hs := hp.s
      have hll := ok.len
      have hwl := hp.wl i x hx
      have gi : (ints (fsts u))[((i : Nat) : Int).toNat]? = some (I x.1) := by
        have hf : i < (fsts u).length := by rw [fsts_len]; exact hi
        rw [ints_get hf]; simp [fsts, hxi]
      obtain ⟨p1, v, hv⟩ := ac1_ok ok (n := n) hp hx
      have hx' : (ac1 l x n u)[i]? = some x := by rw [hv, List.getElem?_append_left hi]; exact hx
      have ih := l9b K hK q5 ok i x k (n + 1) (ac1 l x n u) (by omega) (by omega) p1 hx'
      rw [← wrapN (show n ≤ 4611686018427387904 by omega)] at ih
      have e68 := r68 (K := K) S N O T x.1 n l (by omega) (by omega)
      unfold eM at e68
      rw [show decide ((n : Int) < N) = true by simp; omega, show N.toNat - n = (N.toNat - (n + 1)) + 1 by omega]
      simp only [if_pos (Int.natCast_nonneg i), gi, castI_I, e68, acK]
      rw [← ih]
      unfold ac1
      cases h1 : stp l x.1 n with
      | none =>
        rw [stepAt_none h1]
        rfl
      | some s =>
        obtain ⟨a, ha, a1, a2⟩ := stepAt_some 0 h1
        have haa : stepAt l x.1 n = (a : Int) := by unfold stepAt; rw [a1]; simp
        have ea : ((a : Int) != -1) = true := by simp
        have ga : (steps l)[((a : Nat) : Int).toNat]? = some (.agg [I s.f, I s.i, I s.o, I s.t]) := by
          rw [Int.toNat_natCast]; unfold steps; rw [List.getElem?_map, List.getElem?_eq_getElem ha, a2]; rfl
        have m1 := ok.mem s (stp_some h1).1
        have hst : 0 ≤ s.t ∧ s.t < S := ⟨m1.2.2.1, m1.2.2.2.1⟩
        have c3 : ∀ R (F : Int → Option R), castI .i64 (cellN (.agg [I s.f, I s.i, I s.o, I s.t]) 3) F = F s.t := fun _ _ => rfl
        rw [haa, ea]
        simp only [if_pos (Int.natCast_nonneg a), ga, c3, if_pos hst.1, isA_get hst, castB_B]
        by_cases h4 : inL s.t (fsts u) = true
        · simp only [h4, Bool.not_true, if_true]
        · simp only [Bool.not_eq_true] at h4
          have hwd := wordOf_at hp hx
          have e27 := r27 (K := K) (ints x.2) (by rw [ints_len]; unfold maxBytes; omega) (by omega)
          have q1 : ((ints (fsts u)).length + ([I s.t] : List AV).length) * 8 ≤ maxBytes := by
            have : (2000 : Nat) * 8 ≤ maxBytes := by decide
            simp only [ints_len, fsts_len, List.length_cons, List.length_nil]; omega
          have q2 : ((ints x.2).length + ([I (n : Int)] : List AV).length) * 8 ≤ maxBytes := by
            have : (2000 : Nat) * 8 ≤ maxBytes := by decide
            simp only [ints_len, List.length_cons, List.length_nil]; omega
          have q3 : s.t.toNat < (isA S u).length := by unfold isA; simp; omega
          have q4 : s.t.toNat < (wordsA S u).length := by unfold wordsA; simp; omega
          simp only [h4, Bool.not_false, Bool.false_eq_true, if_false, if_pos q3, if_pos hxr.1, wordsA_get hxr, hwd, castL_L, e27, if_pos q2, wordsA_get hst, if_pos q4, if_pos q1]
          rw [isA_set (w := x.2 ++ [(n : Int)]) hst, show ints x.2 ++ [I (n : Int)] = ints (x.2 ++ [(n : Int)]) by simp [ints], wordsA_set hst h4, show ints (fsts u) ++ [I s.t] = ints (fsts (u ++ [(s.t, x.2 ++ [(n : Int)])])) by simp [ints, fsts]]
    · rw [show decide ((n : Int) < N) = false by simp; omega, show N.toNat - n = 0 by omega]
      rfl
theorem l9a (K : Nat) (hK : 2000 ≤ K) {S N O T : Int} {l : List St4} (ok : MaOk S N O T l) :
    ∀ (F k i : Nat) (u : List Ac), 40 - i < F → F ≤ k → i ≤ 40 → AI S u →
    lp9_5 K k (wordsA S u) (isA S u) (ints (fsts u)) (i : Int) S N O T (steps l) = some (.tup [.sl 25 (wordsA S (acO l N.toNat F i u)), .sl 4 (isA S (acO l N.toNat F i u))])
  | 0, k, i, u, h, _, _, _ => by omega
  | F + 1, 0, i, u, h, hk, _, _ => by omega
  | F + 1, k + 1, i, u, h, hk, h16, hp => by
    have hlen := hp.len
    have hs := hp.s
    obtain ⟨n1, n2⟩ := ok.n
    unfold lp9_5 tr9_5 acO
    rw [ints_len, fsts_len]
    by_cases hi : i < u.length
    · have hx : u[i]? = some u[i] := List.getElem?_eq_getElem hi
      have hb := l9b K hK (lp9_5 K k) ok i u[i] K 0 u (by omega) (by omega) hp hx
      rw [show decide ((i : Int) < (u.length : Int)) = true by simpa using hi, hx]
      refine Eq.trans hb ?_
      rw [Nat.sub_zero]
      obtain ⟨p1, _⟩ := acK_ok ok (c := N.toNat) (n := 0) hp hx
      rw [wrapN (by omega)]
      exact l9a K hK ok F k (i + 1) _ (by omega) (by omega) (by omega) p1
    · rw [show decide ((i : Int) < (u.length : Int)) = false by simpa using hi, show u[i]? = none from List.getElem?_eq_none (by omega)]
theorem isA_start {S T : Int} (hT : 0 ≤ T ∧ T < S) : (List.replicate S.toNat (B false)).set T.toNat (B true) = isA S [(T, [])] := by
  have h0 : List.replicate S.toNat (B false) = isA S [] := by
    apply List.ext_getElem?
    intro i
    unfold isA
    by_cases hi : i < S.toNat
    · rw [List.getElem?_replicate, if_pos hi, List.getElem?_map, List.getElem?_range hi]
      rfl
    · rw [List.getElem?_eq_none (by simp; omega), List.getElem?_eq_none (by simp; omega)]
  rw [h0]
  exact isA_set (u := []) (w := []) hT
theorem wordsA_start {S T : Int} : List.replicate S.toNat (.sl 3 [] : AV) = wordsA S [(T, [])] := by
  apply List.ext_getElem?
  intro i
  unfold wordsA
  by_cases hi : i < S.toNat
  · rw [List.getElem?_replicate, if_pos hi, List.getElem?_map, List.getElem?_range hi]
    simp only [Option.map_some]
    have : wordOf [(T, [])] ((i : Nat) : Int) = [] := by
      unfold wordOf
      by_cases e : T = (i : Int) <;> simp [e, List.find?_cons]
    rw [this]; rfl
  · rw [List.getElem?_eq_none (by simp; omega), List.getElem?_eq_none (by simp; omega)]
theorem r9 {K : Nat} {S N O T : Int} {l : List St4} (ok : MaOk S N O T l) (hK : 2001 ≤ K) : run tab K 9 [eM S N O T l] = some (.tup [.sl 25 (wordsA S (accM l N T)), .sl 4 (isA S (accM l N T))]) := by
  obtain ⟨K, rfl⟩ := succK (show 1 ≤ K by omega)
  obtain ⟨s1, s2⟩ := ok.s
  have hT := ok.t
  have b1 : S = S ∧ 0 ≤ S ∧ S.toNat * 24 ≤ maxBytes := ⟨rfl, by omega, by unfold maxBytes; omega⟩
  have b2 : S = S ∧ 0 ≤ S ∧ S.toNat * 1 ≤ maxBytes := ⟨rfl, by omega, by unfold maxBytes; omega⟩
  have g : (List.replicate S.toNat (B false))[T.toNat]? = some (B false) := by rw [List.getElem?_replicate, if_pos (by omega)]
  have main := l9a K (by omega) ok 41 K 0 [(T, [])] (by omega) (by omega) (by omega) (ai0 ok.s.2 ok.t)
  unfold eM
  rw [eq9]; unfold sh9 tr9
  rw [if_pos (decide_eq_true b1), if_pos (decide_eq_true b2), if_pos b1, if_pos b2]
  simp only [if_pos hT.1, g, if_pos (show T.toNat < (List.replicate S.toNat (B false)).length by simp; omega), isA_start hT]
  rw [wordsA_start (T := T)]
  exact main
end Go.Proofs.YtahifpeggdcamaaGreatDoor

/- The states that are reached, ascending, with their least words: what the model's function tells; the two lists are the same. -/
namespace Go.Proofs.YtahifpeggdcamaaGreatDoor
open Go.Dam
set_option linter.unusedVariables false
set_option linter.unusedSimpArgs false
theorem ints_i64 (l : List Int) : (ints l).all isI64 = true := by
  rw [List.all_eq_true]
  intro x hx
  obtain ⟨n, _, rfl⟩ := List.mem_map.1 hx
  rfl
theorem dec_ints : ∀ l : List Int, decInts (ints l) = l
  | [] => rfl
  | n :: l => by
    show n :: decInts (ints l) = n :: l
    rw [dec_ints l]
theorem r29v {K : Nat} (h : 1 ≤ K) (l : List Int) (hl : l.length * 8 ≤ 140737488351232) : run tab K 29 [.sl 3 (ints l)] = some (.fn 59 [.ref [.sl 3 (ints l)]]) := by
  obtain ⟨K, rfl⟩ := succK h
  rw [show run tab (K + 1) 29 [.sl 3 (ints l)] = extValues 59 3 [.sl 3 (ints l)] from rfl]
  unfold extValues
  simp only []
  rw [ints_i64, ints_len, show Nat.beq 3 3 = true from rfl, Nat.ble_eq_true_of_le (show l.length * 8 ≤ 140737488355328 by omega)]
  rfl
theorem r28s {K : Nat} (h : 1 ≤ K) (l : List Int) (hl : l.length * 8 ≤ 140737488351232) : run tab K 28 [.fn 59 [.ref [.sl 3 (ints l)]]] = some (.sl 3 (ints (sortI l))) := by
  obtain ⟨K, rfl⟩ := succK h
  rw [show run tab (K + 1) 28 [.fn 59 [.ref [.sl 3 (ints l)]]] = extSorted 59 3 [.fn 59 [.ref [.sl 3 (ints l)]]] from rfl]
  unfold extSorted
  simp only []
  rw [ints_i64, ints_len, dec_ints, show Nat.beq 3 3 = true from rfl, show Nat.beq 59 59 = true from rfl, Nat.ble_eq_true_of_le hl]
  rfl
theorem r30 {K : Nat} (a : Int) (u : List Int) (hu : u.length ≤ 4611686018427387904) (hK : u.length + 2 ≤ K) : run tab K 30 [.sl 3 (ints u), I a] = some (I (idx (fun x => a == x) 0 u)) := by
  obtain ⟨K, rfl⟩ := succK (show 1 ≤ K by omega)
  rw [eq30]; unfold sh30 tr30
  rw [ints_len, show (0 : Int) = ((0 : Nat) : Int) from rfl, l108 K a u hu K 0 (by omega), List.drop_zero]
theorem sortI_mem {x : Int} {l : List Int} : x ∈ sortI l ↔ x ∈ l := by unfold sortI; exact List.mem_mergeSort
theorem sortI_len (l : List Int) : (sortI l).length = l.length := by unfold sortI; simp
theorem sortI_up {l : List Int} (h : l.Nodup) : (sortI l).Pairwise (· < ·) := by
  have h1 : (sortI l).Pairwise (fun a b => decide (a ≤ b) = true) := List.pairwise_mergeSort (le := fun a b => decide (a ≤ b)) (fun a b c h1 h2 => by simp at *; omega) (fun a b => by simp; omega) l
  have h2 : (sortI l).Nodup := (List.mergeSort_perm l _).nodup_iff.2 h
  rw [List.Nodup] at h2
  exact (h1.and h2).imp fun ⟨a, b⟩ => by
    have := of_decide_eq_true a
    omega
theorem asc_ext : ∀ {a b : List Int}, a.Pairwise (· < ·) → b.Pairwise (· < ·) → (∀ x, x ∈ a ↔ x ∈ b) → a = b
  | [], [], _, _, _ => rfl
  | [], y :: b, _, _, h => by have := (h y).2 List.mem_cons_self; cases this
  | x :: a, [], _, _, h => by have := (h x).1 List.mem_cons_self; cases this
  | x :: a, y :: b, ha, hb, h => by
    rw [List.pairwise_cons] at ha hb
    have hxy : x = y := by
      rcases List.mem_cons.1 ((h x).1 List.mem_cons_self) with e | e
      · exact e
      · rcases List.mem_cons.1 ((h y).2 List.mem_cons_self) with e2 | e2
        · exact e2.symm
        · have := ha.1 y e2; have := hb.1 x e; omega
    subst hxy
    rw [asc_ext ha.2 hb.2 fun z => ?_]
    constructor
    · intro hz
      rcases List.mem_cons.1 ((h z).1 (List.mem_cons_of_mem _ hz)) with e | e
      · subst e; have := ha.1 z hz; omega
      · exact e
    · intro hz
      rcases List.mem_cons.1 ((h z).2 (List.mem_cons_of_mem _ hz)) with e | e
      · subst e; have := hb.1 z hz; omega
      · exact e
/-- The reached states from i on. -/
def stF (u : List Ac) : Nat → Nat → List Int
  | 0, _ => []
  | c + 1, i => (if inL (i : Int) (fsts u) = true then [(i : Int)] else []) ++ stF u c (i + 1)
theorem stF_mem {u : List Ac} {x : Int} : ∀ {c i : Nat}, x ∈ stF u c i ↔ (i : Int) ≤ x ∧ x < (i + c : Nat) ∧ inL x (fsts u) = true
  | 0, i => by simp [stF]; omega
  | c + 1, i => by
    unfold stF
    rw [List.mem_append, stF_mem]
    by_cases h : inL (i : Int) (fsts u) = true
    · rw [if_pos h, List.mem_singleton]
      constructor
      · rintro (rfl | ⟨h1, h2, h3⟩)
        · exact ⟨by omega, by omega, h⟩
        · exact ⟨by omega, by omega, h3⟩
      · rintro ⟨h1, h2, h3⟩
        by_cases e : x = i
        · exact .inl e
        · exact .inr ⟨by omega, by omega, h3⟩
    · rw [if_neg h]
      constructor
      · rintro (e | ⟨h1, h2, h3⟩)
        · cases e
        · exact ⟨by omega, by omega, h3⟩
      · rintro ⟨h1, h2, h3⟩
        by_cases e : x = i
        · subst e; exact absurd h3 h
        · exact .inr ⟨by omega, by omega, h3⟩
theorem stF_up (u : List Ac) : ∀ (c i : Nat), (stF u c i).Pairwise (· < ·)
  | 0, i => List.Pairwise.nil
  | c + 1, i => by
    unfold stF
    refine List.pairwise_append.2 ⟨by split <;> simp, stF_up u c (i + 1), fun a ha b hb => ?_⟩
    have := (stF_mem.1 hb).1
    split at ha
    · rw [List.mem_singleton.1 ha]; omega
    · cases ha
theorem sorted_stF {S : Int} {u : List Ac} (h : AI S u) : sortI (fsts u) = stF u S.toNat 0 := by
  have nd : (fsts u).Nodup := by
    have := h.nd
    unfold fsts
    rw [List.Nodup, List.pairwise_map] at this ⊢
    exact this.imp fun h e => h (by rw [e])
  refine asc_ext (sortI_up nd) (stF_up u _ _) fun x => ?_
  rw [sortI_mem, stF_mem]
  constructor
  · intro hx
    obtain ⟨y, hy, rfl⟩ := List.mem_map.1 hx
    have := h.rng y hy
    exact ⟨by omega, by omega, inL_iff.2 hx⟩
  · rintro ⟨_, _, h3⟩
    exact inL_iff.1 h3
def accT (u : List Ac) (s : Int) : AV := .sl 3 (ints (wordOf u s))
theorem l7 (K : Nat) (hK : 2000 ≤ K) {S : Int} {u : List Ac} (hp : AI S u) (srt : List Int) (hs : ∀ s ∈ srt, s ∈ fsts u) (hsl : srt.length ≤ 1000) :
    ∀ (k i : Nat) (acc : List AV), srt.length - i < k → acc.length ≤ i → lp7_8 K k (ints (fsts u)) (eA u) acc (ints srt) (ints srt) (srt.length : Int) (i : Int) = some (.tup [.sl 3 (ints srt), .sl 25 (acc ++ (srt.drop i).map (accT u)), I 0])
  | 0, i, acc, h, _ => by omega
  | k + 1, i, acc, h, ha => by
    have hlen := hp.len
    have hS := hp.s
    unfold lp7_8 tr7_8
    by_cases hi : i < srt.length
    · have hm := hs _ (List.getElem_mem hi)
      obtain ⟨y, hy, hys⟩ := List.mem_map.1 hm
      have e30 := r30 (K := K) srt[i] (fsts u) (by rw [fsts_len]; omega) (by rw [fsts_len]; omega)
      rcases idx_cases (fun x => srt[i] == x) (fsts u) 0 with ⟨_, h2⟩ | ⟨j, hj, h1, h2⟩
      · rw [List.all_eq_true] at h2
        have := h2 _ hm
        simp at this
      · rw [h1, Nat.zero_add] at e30
        rw [fsts_len] at hj
        have hje := eq_of_beq h2
        have hj1 : u[j].1 = srt[i] := by rw [hje]; simp [fsts]
        have hw := wordOf_at hp (List.getElem?_eq_getElem hj)
        rw [hj1] at hw
        have ge : (eA u)[((j : Nat) : Int).toNat]? = some (.sl 3 (ints u[j].2)) := by
          rw [Int.toNat_natCast]; unfold eA; rw [List.getElem?_map, List.getElem?_eq_getElem hj]; rfl
        have q : (acc.length + ([.sl 3 (ints u[j].2)] : List AV).length) * 24 ≤ maxBytes := by
          have : (2000 : Nat) * 24 ≤ maxBytes := by decide
          simp only [List.length_cons, List.length_nil]; omega
        have ih := l7 K hK hp srt hs hsl k (i + 1) (acc ++ [.sl 3 (ints u[j].2)]) (by omega) (by simp; omega)
        rw [← wrapN (by omega)] at ih
        rw [show decide ((i : Int) < (srt.length : Int)) = true by simpa using hi, List.drop_eq_getElem_cons hi]
        simp only [if_pos (Int.natCast_nonneg i), ints_get hi, castI_I, e30, if_pos (Int.natCast_nonneg j), ge, castL_L, if_pos q]
        refine ih.trans ?_
        rw [List.map_cons, List.append_assoc, show accT u srt[i] = .sl 3 (ints u[j].2) by unfold accT; rw [hw]]
        rfl
    · rw [show decide ((i : Int) < (srt.length : Int)) = false by simpa using hi, List.drop_eq_nil_of_le (by omega)]
      simp
theorem castP_fn {R : Type} (g : Nat) (l : List AV) (F : AV → Option R) : castP (.fn g l) F = F (.fn g l) := rfl
def acsT (S N O T : Int) (l : List St4) : AV := if (machErr S N O T l).2 = 0 then .tup [.sl 3 (ints (stF (accM l N T) S.toNat 0)), .sl 25 ((stF (accM l N T) S.toNat 0).map (accT (accM l N T))), I 0] else .tup [.sl 3 [], .sl 25 [], I (machErr S N O T l).2]
theorem acc_ai {S N O T : Int} {l : List St4} (ok : MaOk S N O T l) : ∀ {F i : Nat} {u : List Ac}, AI S u → AI S (acO l N.toNat F i u)
  | 0, i, u, h => h
  | F + 1, i, u, h => by
    unfold acO
    cases hx : u[i]? with
    | none => exact h
    | some x => exact acc_ai ok (acK_ok ok h hx).1
theorem r7 {K : Nat} (S N O T : Int) (l : List St4) (hl : l.length ≤ 4611686018427387904) (hK : l.length + 2100 ≤ K) : run tab K 7 [eM S N O T l] = some (acsT S N O T l) := by
  obtain ⟨K, rfl⟩ := succK (show 1 ≤ K by omega)
  have e66 := r66 (K := K) S N O T l hl (by omega)
  unfold acsT
  by_cases h0 : (machErr S N O T l).2 = 0
  · have ok := maOk_of h0
    have hp : AI S (accM l N T) := acc_ai ok (ai0 ok.s.2 ok.t)
    have hlen := hp.len
    have hS := hp.s
    have hfl : (fsts (accM l N T)).length ≤ 40 := by rw [fsts_len]; omega
    have e74 := r74 (K := K) ok (by omega)
    have e29 := r29v (K := K) (by omega) (fsts (accM l N T)) (by omega)
    have e28 := r28s (K := K) (by omega) (fsts (accM l N T)) (by omega)
    rw [sorted_stF hp] at e28
    have hsl : (stF (accM l N T) S.toNat 0).length ≤ 1000 := by rw [← sorted_stF hp, sortI_len]; omega
    have main := l7 K (by omega) hp (stF (accM l N T) S.toNat 0) (fun s hs => inL_iff.1 (stF_mem.1 hs).2.2) hsl K 0 [] (by omega) (by simp)
    rw [if_pos h0]
    unfold eM at *
    rw [eq7]; unfold sh7 tr7
    simp only [e66, castI_I, h0, bne_self_eq_false, e74, comp20, comp21, castL_L, e29, castP_fn, e28, ints_len]
    rw [List.drop_zero, List.nil_append] at main
    exact main
  · rw [if_neg h0]
    have hne : ((machErr S N O T l).2 != 0) = true := by simpa using h0
    unfold eM at *
    rw [eq7]; unfold sh7 tr7
    simp only [e66, castI_I, hne]
end Go.Proofs.YtahifpeggdcamaaGreatDoor
