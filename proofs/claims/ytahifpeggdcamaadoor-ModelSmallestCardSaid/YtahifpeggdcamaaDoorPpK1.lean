/- A part of an interpreter of the model's code that is proved sound, and of laws told by it: DamR3, DamR4. -/
import Derived.Test.YtahifpeggdcamaaDoorPpJ8
set_option linter.unusedVariables false
set_option linter.unusedSimpArgs false
/- The minimal machine is right; each state of it answers as the states it stands for; it is its own minimal machine; no two states of it answer alike. -/
namespace Go.Proofs.YtahifpeggdcamaaDoor
open Go.Dam
set_option linter.unusedVariables false
set_option linter.unusedSimpArgs false
theorem ixK_some {al : Int → Int → Bool} {c : List Int} {s : Int} {j : Nat} (h : ixK al c s = some j) : ∃ hj : j < c.length, al c[j] s = true := by
  unfold ixK at h
  rw [List.findIdx?_eq_some_iff_getElem] at h
  obtain ⟨hj, h2, _⟩ := h
  exact ⟨hj, h2⟩
theorem keptF_pw (al : Int → Int → Bool) : ∀ (r kept : List Int), kept.Pairwise (fun a b => al a b = false) → (keptF al r kept).Pairwise (fun a b => al a b = false)
  | [], kept, h => h
  | s :: r, kept, h => by
    unfold keptF
    cases hk : ixK al kept s with
    | some j => exact keptF_pw al r kept h
    | none =>
      refine keptF_pw al r _ (List.pairwise_append.2 ⟨h, by simp, fun a ha b hb => ?_⟩)
      rw [List.mem_singleton.1 hb]
      unfold ixK at hk
      rw [List.findIdx?_eq_none_iff] at hk
      exact hk a ha
theorem pw_ix {al : Int → Int → Bool} (hr : ∀ s, al s s = true) {c : List Int} (h : c.Pairwise (fun a b => al a b = false)) {i : Nat} (hi : i < c.length) : ixK al c c[i] = some i := by
  unfold ixK
  rw [List.findIdx?_eq_some_iff_getElem]
  refine ⟨hi, hr _, fun j hj => ?_⟩
  have := List.pairwise_iff_getElem.1 h j i (by omega) hi hj
  simp [this]
theorem rowK_mem {al : Int → Int → Bool} {l : List St4} {kept : List Int} {i : Nat} {p : Int} {x : St4} : ∀ {c n : Nat}, x ∈ rowK al l kept i p c n ↔ ∃ k, n ≤ k ∧ k < n + c ∧ x ∈ stpK al l kept i p k
  | 0, n => by simp only [rowK, List.not_mem_nil, false_iff]; rintro ⟨k, h1, h2, _⟩; omega
  | c + 1, n => by
    unfold rowK
    rw [List.mem_append, rowK_mem]
    constructor
    · rintro (h | ⟨k, h1, h2, h3⟩)
      · exact ⟨n, by omega, by omega, h⟩
      · exact ⟨k, by omega, by omega, h3⟩
    · rintro ⟨k, h1, h2, h3⟩
      by_cases e : k = n
      · subst e; exact .inl h3
      · exact .inr ⟨k, by omega, by omega, h3⟩
theorem colK_mem {al : Int → Int → Bool} {l : List St4} {N : Nat} {kept : List Int} {x : St4} : ∀ {r : List Int} {i : Nat}, x ∈ colK al l N kept r i ↔ ∃ j p, r[j]? = some p ∧ x ∈ rowK al l kept (i + j) p N 0
  | [], i => by simp [colK]
  | p :: r, i => by
    unfold colK
    rw [List.mem_append, colK_mem]
    constructor
    · rintro (h | ⟨j, q, h1, h2⟩)
      · exact ⟨0, p, rfl, h⟩
      · exact ⟨j + 1, q, by simpa using h1, by rw [show i + (j + 1) = i + 1 + j by omega]; exact h2⟩
    · rintro ⟨j, q, h1, h2⟩
      cases j with
      | zero => cases h1; exact .inl h2
      | succ j => exact .inr ⟨j, q, by simpa using h1, by rw [show i + 1 + j = i + (j + 1) by omega]; exact h2⟩
theorem stpK_mem {al : Int → Int → Bool} {l : List St4} {kept : List Int} {i : Nat} {p : Int} {n : Nat} {x : St4} : x ∈ stpK al l kept i p n ↔ ∃ y, stp l p n = some y ∧ x = ⟨i, n, y.o, ixV al kept y.t⟩ := by
  unfold stpK
  cases h : stp l p n with
  | none => simp
  | some y => simp
theorem rowK_key {al : Int → Int → Bool} {l : List St4} {kept : List Int} {i : Nat} {p : Int} {c n : Nat} {x : St4} (h : x ∈ rowK al l kept i p c n) : x.f = i ∧ (n : Int) ≤ x.i ∧ x.i < (n + c : Nat) := by
  obtain ⟨k, h1, h2, h3⟩ := rowK_mem.1 h
  obtain ⟨y, _, rfl⟩ := stpK_mem.1 h3
  exact ⟨rfl, by show (n : Int) ≤ (k : Int); omega, by show (k : Int) < _; omega⟩
theorem rowK_up (al : Int → Int → Bool) (l : List St4) (kept : List Int) (i : Nat) (p : Int) : ∀ c n, (rowK al l kept i p c n).Pairwise ltS
  | 0, n => List.Pairwise.nil
  | c + 1, n => by
    unfold rowK
    refine List.pairwise_append.2 ⟨?_, rowK_up al l kept i p c (n + 1), fun a ha b hb => ?_⟩
    · unfold stpK; split <;> simp
    · obtain ⟨y, _, rfl⟩ := stpK_mem.1 ha
      obtain ⟨h1, h2, _⟩ := rowK_key hb
      unfold ltS
      simp only []
      omega
theorem colK_key {al : Int → Int → Bool} {l : List St4} {N : Nat} {kept r : List Int} {i : Nat} {x : St4} (h : x ∈ colK al l N kept r i) : (i : Int) ≤ x.f := by
  obtain ⟨j, p, _, h2⟩ := colK_mem.1 h
  have := (rowK_key h2).1
  omega
theorem colK_up (al : Int → Int → Bool) (l : List St4) (N : Nat) (kept : List Int) : ∀ (r : List Int) (i : Nat), (colK al l N kept r i).Pairwise ltS
  | [], i => List.Pairwise.nil
  | p :: r, i => by
    unfold colK
    refine List.pairwise_append.2 ⟨rowK_up al l kept i p N 0, colK_up al l N kept r (i + 1), fun a ha b hb => ?_⟩
    have h1 := (rowK_key ha).1
    have h2 := colK_key hb
    unfold ltS
    omega
section
variable {S N O T : Int} {l : List St4}
theorem kept_pw (l : List St4) (S N T : Int) : (keptM l S N T).Pairwise (fun a b => alM l S.toNat N.toNat a b = false) := keptF_pw _ _ _ List.Pairwise.nil
theorem kept_head (ok : MaOk S N O T l) : ∃ v, keptM l S N T = T :: v := by
  obtain ⟨⟨r, hr⟩, _⟩ := ord_facts ok
  unfold keptM
  rw [hr]
  obtain ⟨v, hv, _⟩ := keptF_app (alM l S.toNat N.toNat) r [T]
  exact ⟨v, hv⟩
theorem kept_rng (ok : MaOk S N O T l) : ∀ p ∈ keptM l S N T, 0 ≤ p ∧ p < S := fun p hp => (ord_facts ok).2.1 p ((kept_facts ok).1 p hp)
theorem kept_le (ok : MaOk S N O T l) : ((keptM l S N T).length : Int) ≤ S := by
  have h := nodup_le S.toNat ((keptM l S N T).map Int.toNat) (by
    rw [List.Nodup, List.pairwise_map]
    refine (List.pairwise_iff_getElem.2 fun i j hi hj hij e => ?_)
    have h1 := List.pairwise_iff_getElem.1 (kept_pw l S N T) i j hi hj hij
    have r1 := kept_rng ok _ (List.getElem_mem hi)
    have r2 := kept_rng ok _ (List.getElem_mem hj)
    have : (keptM l S N T)[i] = (keptM l S N T)[j] := by omega
    rw [this, alM_self] at h1; cases h1) fun x hx => by
    obtain ⟨p, hp, rfl⟩ := List.mem_map.1 hx
    have := kept_rng ok p hp
    show p.toNat < S.toNat; omega
  rw [List.length_map] at h
  have := ok.s
  omega
theorem kept_ix (ok : MaOk S N O T l) {s : Int} (hs : s ∈ ordM l N T) : ∃ j, ixK (alM l S.toNat N.toNat) (keptM l S N T) s = some j ∧ j < (keptM l S N T).length := by
  obtain ⟨j, hj⟩ := keptF_ix (alM_self l S.toNat N.toNat) (ordM l N T) [] s hs
  exact ⟨j, hj, (ixK_some hj).1⟩
theorem min_mem (ok : MaOk S N O T l) {x : St4} : x ∈ stepsM l S N T ↔ ∃ i : Nat, ∃ hi : i < (keptM l S N T).length, ∃ n : Nat, n < N.toNat ∧ ∃ y, stp l (keptM l S N T)[i] n = some y ∧ x = ⟨i, n, y.o, ixV (alM l S.toNat N.toNat) (keptM l S N T) y.t⟩ := by
  unfold stepsM
  rw [colK_mem]
  constructor
  · rintro ⟨j, p, h1, h2⟩
    obtain ⟨k, _, h3, h4⟩ := rowK_mem.1 h2
    obtain ⟨y, h5, h6⟩ := stpK_mem.1 h4
    obtain ⟨hj, rfl⟩ := List.getElem?_eq_some_iff.1 h1
    exact ⟨j, hj, k, by omega, y, h5, by rw [h6, Nat.zero_add]⟩
  · rintro ⟨i, hi, n, hn, y, h1, h2⟩
    exact ⟨i, _, List.getElem?_eq_getElem hi, rowK_mem.2 ⟨n, by omega, by omega, stpK_mem.2 ⟨y, h1, by rw [h2, Nat.zero_add]⟩⟩⟩
theorem min_ok (ok : MaOk S N O T l) : MaOk (keptM l S N T).length N O 0 (stepsM l S N T) := by
  obtain ⟨k1, k2, _, _⟩ := kept_facts ok
  obtain ⟨_, _, _, _, o4⟩ := ord_facts ok
  obtain ⟨v, hv⟩ := kept_head ok
  have hpos : 1 ≤ (keptM l S N T).length := by rw [hv]; simp
  have hlen := stepsM_len ok
  have hn := ok.n
  refine ⟨by omega, ok.n, ok.o, by omega, ?_, hlen, fun x hx => ?_, colK_up _ _ _ _ _ _⟩
  · have h := colK_len (alM l S.toNat N.toNat) l N.toNat (keptM l S N T) (keptM l S N T) 0
    have e : (((keptM l S N T).length * N.toNat : Nat) : Int) = ((keptM l S N T).length : Int) * N := by
      rw [Int.natCast_mul, Int.toNat_of_nonneg (by omega)]
    unfold stepsM; omega
  · obtain ⟨i, hi, n, hn, y, h1, rfl⟩ := (min_mem ok).1 hx
    have m := ok.mem y (stp_some h1).1
    obtain ⟨j, hj, hj2⟩ := kept_ix ok (o4 _ (k1 _ (List.getElem_mem hi)) n hn y h1)
    simp only [ixV, hj]
    omega
theorem min_stp (ok : MaOk S N O T l) {i n : Nat} (hi : i < (keptM l S N T).length) (hn : n < N.toNat) : stp (stepsM l S N T) i n = (stp l (keptM l S N T)[i] n).map fun y => ⟨i, n, y.o, ixV (alM l S.toNat N.toNat) (keptM l S N T) y.t⟩ := by
  have okm := min_ok ok
  cases h : stp l (keptM l S N T)[i] n with
  | some y => exact stp_of okm.up ((min_mem ok).2 ⟨i, hi, n, hn, y, h, rfl⟩)
  | none =>
    cases h2 : stp (stepsM l S N T) i n with
    | none => rfl
    | some x =>
      exfalso
      obtain ⟨h3, h4, h5⟩ := stp_some h2
      obtain ⟨i', hi', n', hn', y, h6, rfl⟩ := (min_mem ok).1 h3
      simp only [] at h4 h5
      have e1 : i' = i := by omega
      have e2 : n' = n := by omega
      subst e1; subst e2
      rw [h] at h6; cases h6
/-- Each state that is reached answers as the one it is counted to. -/
theorem min_alike (ok : MaOk S N O T l) {p : Int} (hp : p ∈ ordM l N T) {j : Nat} (hj : ixK (alM l S.toNat N.toNat) (keptM l S N T) p = some j) : Alike l (stepsM l S N T) N.toNat p j := by
  obtain ⟨k1, k2, _, _⟩ := kept_facts ok
  obtain ⟨_, o1, _, _, o4⟩ := ord_facts ok
  refine ⟨fun a b => a ∈ ordM l N T ∧ ∃ j : Nat, ixK (alM l S.toNat N.toNat) (keptM l S N T) a = some j ∧ b = j, ?_, hp, j, hj, rfl⟩
  rintro a b ⟨ha, j, hj, rfl⟩ n hn
  obtain ⟨hjl, hja⟩ := ixK_some hj
  have hk := List.getElem_mem hjl
  have hal := (al_iff ok (o1 _ (k1 _ hk)) (o1 _ ha)).1 hja
  have hst := min_stp ok hjl hn
  rcases hal.goes hn with ⟨h1, h2⟩ | ⟨s, s', h1, h2, h3, h4⟩
  · exact .inl ⟨h2, by rw [hst, h1]; rfl⟩
  · refine .inr ⟨s', ⟨j, n, s.o, ixV (alM l S.toNat N.toNat) (keptM l S N T) s.t⟩, h2, by rw [hst, h1]; rfl, h3.symm, o4 a ha n hn s' h2, ?_⟩
    have m1 := ok.mem s (stp_some h1).1
    have m2 := ok.mem s' (stp_some h2).1
    have h5 := (al_iff ok ⟨m1.2.2.1, m1.2.2.2.1⟩ ⟨m2.2.2.1, m2.2.2.2.1⟩).2 h4
    have e := (alM_eqv l S.toNat N.toNat).ix h5 (keptM l S N T)
    obtain ⟨q, hq, _⟩ := kept_ix ok (o4 a ha n hn s' h2)
    refine ⟨q, hq, ?_⟩
    simp only [ixV, e, hq]
theorem min_start (ok : MaOk S N O T l) : Alike l (stepsM l S N T) N.toNat T 0 := by
  obtain ⟨v, hv⟩ := kept_head ok
  obtain ⟨⟨r, hr⟩, _⟩ := ord_facts ok
  exact min_alike ok (j := 0) (by rw [hr]; exact List.mem_cons_self) (by rw [hv]; exact ixK_yes (alM_self l S.toNat N.toNat T))
/-- Made minimal again it is the same. -/
theorem min_again (ok : MaOk S N O T l) : (keptM (stepsM l S N T) (keptM l S N T).length N 0).length = (keptM l S N T).length ∧ stepsM (stepsM l S N T) (keptM l S N T).length N 0 = stepsM l S N T := by
  obtain ⟨h1, h2⟩ := min_unique ok (min_ok ok) (min_start ok)
  exact ⟨h1.symm, h2.symm⟩
/-- No two states of it answer alike. -/
theorem min_unlike (ok : MaOk S N O T l) {i j : Nat} (hi : i < (keptM l S N T).length) (hj : j < (keptM l S N T).length) (h : Alike (stepsM l S N T) (stepsM l S N T) N.toNat i j) : i = j := by
  obtain ⟨k1, k2, _, _⟩ := kept_facts ok
  obtain ⟨_, o1, _, _, o4⟩ := ord_facts ok
  have hr := alM_self l S.toNat N.toNat
  have a1 := min_alike ok (k1 _ (List.getElem_mem hi)) (pw_ix hr (kept_pw l S N T) hi)
  have a2 := min_alike ok (k1 _ (List.getElem_mem hj)) (pw_ix hr (kept_pw l S N T) hj)
  have a3 := (al_iff ok (o1 _ (k1 _ (List.getElem_mem hi))) (o1 _ (k1 _ (List.getElem_mem hj)))).2 ((a1.trans h).trans a2.symm)
  have e := (alM_eqv l S.toNat N.toNat).ix a3 (keptM l S N T)
  rw [pw_ix hr (kept_pw l S N T) hi, pw_ix hr (kept_pw l S N T) hj] at e
  exact Option.some.inj e
end
end Go.Proofs.YtahifpeggdcamaaDoor

/- The word that the search finds for two states of one small machine is short, of right inputs, and answered unlike. -/
namespace Go.Proofs.YtahifpeggdcamaaDoor
open Go.Dam
set_option linter.unusedVariables false
set_option linter.unusedSimpArgs false
/-- A word that is taken whole: its outputs and where it leads. -/
def ful (l : List St4) : Int → List Int → Option (List Int × Int)
  | f, [] => some ([], f)
  | f, n :: w => match stp l f n with
    | some s => (ful l s.t w).map fun (r : List Int × Int) => (s.o :: r.1, r.2)
    | none => none
theorem ful_snoc {l : List St4} {p n : Int} {s : St4} (hs : stp l p n = some s) : ∀ {w : List Int} {f : Int} {o : List Int}, ful l f w = some (o, p) → ful l f (w ++ [n]) = some (o ++ [s.o], s.t)
  | [], f, o, h => by
    unfold ful at h; cases h
    show (match stp l p n with | some s => (ful l s.t []).map fun (r : List Int × Int) => (s.o :: r.1, r.2) | none => none) = _
    rw [hs]; rfl
  | m :: w, f, o, h => by
    unfold ful at h
    show (match stp l f m with | some s => (ful l s.t (w ++ [n])).map fun (r : List Int × Int) => (s.o :: r.1, r.2) | none => none) = _
    cases h1 : stp l f m with
    | none => rw [h1] at h; cases h
    | some y =>
      rw [h1] at h
      simp only [] at h ⊢
      obtain ⟨⟨o', q⟩, h2, h3⟩ := Option.map_eq_some_iff.1 h
      cases h3
      rw [ful_snoc hs h2]; rfl
def last1 (x : Option St4) : List Int := match x with
  | some s => [s.o]
  | none => []
theorem ans_ful {l : List St4} {p n : Int} : ∀ {w : List Int} {f : Int} {o : List Int}, ful l f w = some (o, p) → (ansS l f (w ++ [n])).1 = o ++ last1 (stp l p n)
  | [], f, o, h => by
    unfold ful at h; cases h
    cases hs : stp l p n with
    | none => simp [ansS, hs, last1]
    | some s => simp [ansS, hs, last1]
  | m :: w, f, o, h => by
    unfold ful at h
    cases h1 : stp l f m with
    | none => rw [h1] at h; cases h
    | some y =>
      rw [h1] at h
      simp only [] at h
      obtain ⟨⟨o', q⟩, h2, h3⟩ := Option.map_eq_some_iff.1 h
      cases h3
      have := ans_ful (n := n) h2
      simp only [List.cons_append, ansS, h1, this]
def off (x : Pr) : Bool := x.1 != x.2.1
/-- What the search of one machine keeps. -/
structure QI (l : List St4) (N : Nat) (a b : Int) (u : List Pr) : Prop where
  in_ : ∀ x ∈ u, ∀ n ∈ x.2.2, 0 ≤ n ∧ n < N
  run : ∀ x ∈ u, ∃ o, ful l a x.2.2 = some (o, x.1) ∧ ful l b x.2.2 = some (o, x.2.1)
  wl : ∀ (i : Nat) (x : Pr), u[i]? = some x → off x = true → x.2.2.length + 1 ≤ ((u.take (i + 1)).filter off).length
def Good (l : List St4) (N : Nat) (a b : Int) (w : List Int) : Prop := w.length ≤ 56 ∧ (∀ n ∈ w, 0 ≤ n ∧ n < (N : Int)) ∧ (ansS l a w).1 ≠ (ansS l b w).1
def cod (x : Pr) : Nat := if x.2.1 < x.1 then x.1.toNat * 7 + x.2.1.toNat else x.1.toNat * 7 + (x.2.1.toNat - 1)
theorem off_le {S : Int} (hS : S ≤ 8) {u : List Pr} (h : PI S S u) : (u.filter off).length ≤ 56 := by
  have hr : ∀ x ∈ u.filter off, 0 ≤ x.1 ∧ x.1 < 8 ∧ 0 ≤ x.2.1 ∧ x.2.1 < 8 ∧ x.1 ≠ x.2.1 := fun x hx => by
    obtain ⟨h1, h2⟩ := List.mem_filter.1 hx
    have := h.rng x h1
    unfold off at h2
    simp only [bne_iff_ne, ne_eq] at h2
    exact ⟨by omega, by omega, by omega, by omega, h2⟩
  have := nodup_le 56 ((u.filter off).map cod) (by
    rw [List.Nodup, List.pairwise_map]
    have h1 := h.nd
    rw [List.Nodup, List.pairwise_map] at h1
    refine List.Pairwise.imp_of_mem (fun {x y} hx hy hxy e => hxy ?_) (h1.sublist List.filter_sublist)
    have r1 := hr x hx
    have r2 := hr y hy
    unfold code
    unfold cod at e
    split at e <;> split at e <;> omega) fun y hy => by
    obtain ⟨x, hx, rfl⟩ := List.mem_map.1 hy
    have := hr x hx
    unfold cod
    split <;> omega
  rwa [List.length_map] at this
theorem QI.wl' {l : List St4} {N : Nat} {a b : Int} {u : List Pr} (h : QI l N a b u) {x : Pr} {i : Nat} (hx : u[i]? = some x) (ho : off x = true) : x.2.2.length + 1 ≤ (u.filter off).length :=
  Nat.le_trans (h.wl i x hx ho) ((List.take_sublist (i + 1) u).filter off).length_le
theorem QI.add {l : List St4} {N : Nat} {a b : Int} {u : List Pr} (h : QI l N a b u) {x : Pr} {i : Nat} (hx : u[i]? = some x) {n : Nat} (hn : n < N) {s s' : St4} (h1 : stp l x.1 n = some s) (h2 : stp l x.2.1 n = some s') (he : s.o = s'.o) :
    QI l N a b (u ++ [(s.t, s'.t, x.2.2 ++ [(n : Int)])]) := by
  have hxm := List.mem_of_getElem? hx
  refine ⟨fun y hy => ?_, fun y hy => ?_, fun j y hy ho => ?_⟩
  · rcases List.mem_append.1 hy with hy | hy
    · exact h.in_ y hy
    · rw [List.mem_singleton.1 hy]
      intro m hm
      rcases List.mem_append.1 hm with hm | hm
      · exact h.in_ x hxm m hm
      · rw [List.mem_singleton.1 hm]; omega
  · rcases List.mem_append.1 hy with hy | hy
    · exact h.run y hy
    · rw [List.mem_singleton.1 hy]
      obtain ⟨o, r1, r2⟩ := h.run x hxm
      exact ⟨o ++ [s.o], ful_snoc h1 r1, by rw [he]; exact ful_snoc h2 r2⟩
  · rcases Nat.lt_or_ge j u.length with hj | hj
    · rw [List.getElem?_append_left hj] at hy
      rw [List.take_append_of_le_length (by omega)]
      exact h.wl j y hy ho
    · rw [List.getElem?_append_right hj] at hy
      have hj0 : j - u.length = 0 := by
        rcases Nat.eq_zero_or_pos (j - u.length) with e | e
        · exact e
        · rw [List.getElem?_eq_none (by simp only [List.length_singleton]; omega)] at hy; cases hy
      rw [hj0] at hy
      cases hy
      have hox : off x = true := by
        unfold off at ho ⊢
        simp only [bne_iff_ne, ne_eq] at ho ⊢
        intro e
        rw [e, h2] at h1
        cases h1
        exact ho rfl
      have := h.wl' hx hox
      rw [List.take_of_length_le (by simp; omega), List.filter_append]
      simp only [List.filter_cons, ho, if_true, List.filter_nil, List.length_append, List.length_singleton]
      omega
section
variable {S N O T : Int} {l : List St4} {a b : Int}
theorem good_of (hS : S ≤ 8) {u : List Pr} (hp : PI S S u) (h : QI l N.toNat a b u) {x : Pr} {i : Nat} (hx : u[i]? = some x) {n : Nat} (hn : n < N.toNat) (hne : last1 (stp l x.1 n) ≠ last1 (stp l x.2.1 n)) : Good l N.toNat a b (x.2.2 ++ [(n : Int)]) := by
  have hxm := List.mem_of_getElem? hx
  have ho : off x = true := by
    unfold off
    simp only [bne_iff_ne, ne_eq]
    intro e
    rw [e] at hne
    exact hne rfl
  have h1 := h.wl' hx ho
  have h2 := off_le hS hp
  refine ⟨by simp; omega, fun m hm => ?_, ?_⟩
  · rcases List.mem_append.1 hm with hm | hm
    · exact h.in_ x hxm m hm
    · rw [List.mem_singleton.1 hm]; omega
  · obtain ⟨o, r1, r2⟩ := h.run x hxm
    rw [ans_ful r1, ans_ful r2]
    intro e
    exact hne (List.append_cancel_left e)
theorem sr1_q (hS : S ≤ 8) {x : Pr} {i n : Nat} {u : List Pr} (hp : PI S S u) (h : QI l N.toNat a b u) (hx : u[i]? = some x) (hn : n < N.toNat) :
    (∀ w, sr1 l l x n u = .inr w → Good l N.toNat a b w.1) ∧ ∀ u', sr1 l l x n u = .inl u' → QI l N.toNat a b u' := by
  unfold sr1
  cases h1 : stp l x.1 n with
  | none =>
    cases h2 : stp l x.2.1 n with
    | none => exact ⟨fun w hw => (by cases hw), fun u' hu => by cases hu; exact h⟩
    | some s' => exact ⟨fun w hw => by cases hw; exact good_of hS hp h hx hn (by rw [h1, h2]; simp [last1]), fun u' hu => by cases hu⟩
  | some s =>
    cases h2 : stp l x.2.1 n with
    | none => exact ⟨fun w hw => by cases hw; exact good_of hS hp h hx hn (by rw [h1, h2]; simp [last1]), fun u' hu => by cases hu⟩
    | some s' =>
      simp only []
      by_cases ho : s.o = s'.o
      · rw [if_pos ho]
        by_cases hin : inn s.t s'.t u = true
        · rw [if_pos hin]; exact ⟨fun w hw => (by cases hw), fun u' hu => by cases hu; exact h⟩
        · rw [if_neg hin]; exact ⟨fun w hw => (by cases hw), fun u' hu => by cases hu; exact h.add hx hn h1 h2 ho⟩
      · rw [if_neg ho]
        exact ⟨fun w hw => by cases hw; exact good_of hS hp h hx hn (by rw [h1, h2]; simpa [last1] using ho), fun u' hu => by cases hu⟩
theorem srK_q (ok : MaOk S N O T l) (hS : S ≤ 8) {x : Pr} {i : Nat} : ∀ {c n : Nat} {u : List Pr}, n + c ≤ N.toNat → PI S S u → QI l N.toNat a b u → u[i]? = some x →
    (∀ w, srK l l x c n u = .inr w → Good l N.toNat a b w.1) ∧ ∀ u', srK l l x c n u = .inl u' → QI l N.toNat a b u'
  | 0, n, u, _, hp, h, hx => ⟨fun w hw => (by unfold srK at hw; cases hw), fun u' hu => by unfold srK at hu; cases hu; exact h⟩
  | c + 1, n, u, hn, hp, h, hx => by
    obtain ⟨g1, g2⟩ := sr1_q (n := n) hS hp h hx (by omega)
    unfold srK
    cases h1 : sr1 l l x n u with
    | inr w => exact ⟨fun w' hw => by cases hw; exact g1 w h1, fun u' hu => by cases hu⟩
    | inl u1 =>
      obtain ⟨p1, v, rfl⟩ := sr1_ok ok ok hp (List.mem_of_getElem? hx) h1
      exact srK_q ok hS (c := c) (n := n + 1) (by omega) p1 (g2 _ h1) (by rw [List.getElem?_append_left (List.getElem?_eq_some_iff.1 hx).1]; exact hx)
theorem srO_q (ok : MaOk S N O T l) (hS : S ≤ 8) : ∀ {F i : Nat} {u : List Pr} {w}, PI S S u → QI l N.toNat a b u → srO l l N.toNat F i u = .inr w → Good l N.toNat a b w.1
  | 0, i, u, w, _, _, h => by unfold srO at h; cases h
  | F + 1, i, u, w, hp, hq, h => by
    unfold srO at h
    cases hx : u[i]? with
    | none => rw [hx] at h; cases h
    | some x =>
      rw [hx] at h
      simp only [] at h
      obtain ⟨g1, g2⟩ := srK_q ok hS (c := N.toNat) (n := 0) (by omega) hp hq hx
      cases h1 : srK l l x N.toNat 0 u with
      | inr w' => rw [h1] at h; cases h; exact g1 _ h1
      | inl u1 =>
        rw [h1] at h
        obtain ⟨p1, _⟩ := srK_ok ok ok hp (List.mem_of_getElem? hx) h1
        exact srO_q ok hS p1 (g2 _ h1) h
/-- States that are not alike have a short word that tells them apart. -/
theorem search_good (ok : MaOk S N O T l) (hS : S ≤ 8) (ha : 0 ≤ a ∧ a < S) (hb : 0 ≤ b ∧ b < S) (hne : a ≠ b) (hu : ¬ Alike l l N.toNat a b) : ∃ w, searchM l l N a b = .inr w ∧ Good l N.toNat a b w.1 := by
  cases h : searchM l l N a b with
  | inl u => exact absurd ((search_iff ok ok ha hb).2 ⟨u, h⟩) hu
  | inr w =>
    refine ⟨w, rfl, srO_q ok hS (pi0 (by omega) (by omega) ha hb) ⟨?_, ?_, ?_⟩ h⟩
    · intro x hx; rw [List.mem_singleton.1 hx]; simp
    · intro x hx; rw [List.mem_singleton.1 hx]; exact ⟨[], rfl, rfl⟩
    · intro i x hx ho
      cases i with
      | zero => cases hx; simp [List.filter_cons, ho]
      | succ i => simp at hx
end
end Go.Proofs.YtahifpeggdcamaaDoor
