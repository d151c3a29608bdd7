/- A part of an interpreter of the model's code that is proved sound, and of laws told by it: DamQ8, DamR1, DamR2. -/
import Derived.Test.YtahifpeggdcamaaDoorPpJ7
set_option linter.unusedVariables false
set_option linter.unusedSimpArgs false
/- The law ModelMinimal. -/
namespace Go.Proofs.YtahifpeggdcamaaDoor
open Go.Dam
set_option linter.unusedVariables false
set_option linter.unusedSimpArgs false
theorem colK_len (al : Int → Int → Bool) (l : List St4) (N : Nat) (kept : List Int) : ∀ (r : List Int) (i : Nat), (colK al l N kept r i).length ≤ r.length * N
  | [], i => by simp [colK]
  | p :: r, i => by
    unfold colK
    have h1 := rowK_len al l kept i p N 0
    have h2 := colK_len al l N kept r (i + 1)
    rw [List.length_append, List.length_cons, Nat.add_mul]; omega
theorem stepsM_len {S N O T : Int} {l : List St4} (ok : MaOk S N O T l) : (stepsM l S N T).length ≤ 320 := by
  obtain ⟨_, k2, _, _⟩ := kept_facts ok
  obtain ⟨n1, n2⟩ := ok.n
  have h := colK_len (alM l S.toNat N.toNat) l N.toNat (keptM l S N T) (keptM l S N T) 0
  have : (keptM l S N T).length * N.toNat ≤ 40 * 8 := Nat.mul_le_mul k2 (by omega)
  unfold stepsM; omega
end Go.Proofs.YtahifpeggdcamaaDoor

/- Minimal machines: the first of each block come in an order that the answers alone decide; machines that answer alike have one minimal machine. -/
namespace Go.Proofs.YtahifpeggdcamaaDoor
open Go.Dam
set_option linter.unusedVariables false
set_option linter.unusedSimpArgs false
def cb1 (l : List St4) (al : Int → Int → Bool) (p : Int) (n : Nat) (c : List Int) : List Int := match stp l p n with
  | none => c
  | some s => match ixK al c s.t with
    | some _ => c
    | none => c ++ [s.t]
def cbK (l : List St4) (al : Int → Int → Bool) (p : Int) : Nat → Nat → List Int → List Int
  | 0, _, c => c
  | k + 1, n, c => cbK l al p k (n + 1) (cb1 l al p n c)
def cbO (l : List St4) (al : Int → Int → Bool) (N : Nat) : Nat → Nat → List Int → List Int
  | 0, _, c => c
  | F + 1, j, c => match c[j]? with
    | some p => cbO l al N F (j + 1) (cbK l al p N 0 c)
    | none => c
def kap (al : Int → Int → Bool) (u : List Int) : List Int := keptF al u []
theorem keptF_append (al : Int → Int → Bool) : ∀ (r r2 kept : List Int), keptF al (r ++ r2) kept = keptF al r2 (keptF al r kept)
  | [], r2, kept => rfl
  | s :: r, r2, kept => by
    show (match ixK al kept s with | some _ => keptF al (r ++ r2) kept | none => keptF al (r ++ r2) (kept ++ [s])) = keptF al r2 (match ixK al kept s with | some _ => keptF al r kept | none => keptF al r (kept ++ [s]))
    cases ixK al kept s with
    | some j => exact keptF_append al r r2 kept
    | none => exact keptF_append al r r2 (kept ++ [s])
theorem kap_snoc (al : Int → Int → Bool) (u : List Int) (s : Int) : kap al (u ++ [s]) = match ixK al (kap al u) s with | some _ => kap al u | none => kap al u ++ [s] := by
  unfold kap
  rw [keptF_append]; rfl
theorem kap_has {al : Int → Int → Bool} (hr : ∀ s, al s s = true) {u : List Int} {s : Int} (h : s ∈ u) : ∃ j, ixK al (kap al u) s = some j := keptF_ix hr u [] s h
/-- A relation that is one of equals: alike are alike to the same. -/
structure Eqv (al : Int → Int → Bool) : Prop where
  refl : ∀ s, al s s = true
  cong : ∀ a b, al a b = true → ∀ k, al k a = al k b
theorem Eqv.ix {al : Int → Int → Bool} (e : Eqv al) {a b : Int} (h : al a b = true) (c : List Int) : ixK al c a = ixK al c b := by
  unfold ixK
  congr 1
  funext k
  exact e.cong a b h k
theorem alM_eqv (l : List St4) (S N : Nat) : Eqv (alM l S N) := ⟨alM_self l S N, fun a b h k => by
  unfold alM at *
  rw [decide_eq_true_iff] at h
  rw [h]⟩
theorem ac1_kap {al : Int → Int → Bool} (hr : ∀ s, al s s = true) {l : List St4} {x : Ac} {n : Nat} {u : List Ac} : kap al (fsts (ac1 l x n u)) = cb1 l al x.1 n (kap al (fsts u)) := by
  unfold ac1 cb1
  cases h1 : stp l x.1 n with
  | none => rfl
  | some s =>
    simp only []
    by_cases hn : inL s.t (fsts u) = true
    · rw [if_pos hn]
      obtain ⟨j, hj⟩ := kap_has hr (inL_iff.1 hn)
      rw [hj]
    · rw [if_neg hn, fsts_app]
      exact kap_snoc al (fsts u) s.t
theorem acK_kap {al : Int → Int → Bool} (hr : ∀ s, al s s = true) {l : List St4} {x : Ac} : ∀ {c n : Nat} {u : List Ac}, kap al (fsts (acK l x c n u)) = cbK l al x.1 c n (kap al (fsts u))
  | 0, n, u => rfl
  | c + 1, n, u => by
    show kap al (fsts (acK l x c (n + 1) (ac1 l x n u))) = cbK l al x.1 c (n + 1) (cb1 l al x.1 n (kap al (fsts u)))
    rw [acK_kap hr, ac1_kap hr]
/-- Where all that is led to is there, nothing is new. -/
theorem cbK_same {l : List St4} {al : Int → Int → Bool} {p : Int} {c : List Int} : ∀ {k n : Nat}, (∀ m, n ≤ m → m < n + k → ∀ s, stp l p m = some s → ∃ j, ixK al c s.t = some j) → cbK l al p k n c = c
  | 0, n, _ => rfl
  | k + 1, n, h => by
    have e : cb1 l al p n c = c := by
      unfold cb1
      cases h1 : stp l p n with
      | none => rfl
      | some s =>
        obtain ⟨j, hj⟩ := h n (Nat.le_refl _) (by omega) s h1
        simp only [hj]
    show cbK l al p k (n + 1) (cb1 l al p n c) = c
    rw [e]
    exact cbK_same fun m h1 h2 => h m (by omega) (by omega)
section
variable {S N O T : Int} {l : List St4}
theorem al_iff (ok : MaOk S N O T l) {a b : Int} (ha : 0 ≤ a ∧ a < S) (hb : 0 ≤ b ∧ b < S) : alM l S.toNat N.toNat a b = true ↔ Alike l l N.toNat a b := by
  have h2 := blocks_iff ok (i := a.toNat) (j := b.toNat) (by omega) (by omega)
  rw [Int.toNat_of_nonneg ha.1, Int.toNat_of_nonneg hb.1] at h2
  rw [← h2]
  obtain ⟨c, hbl⟩ := blocks_len ok
  obtain ⟨x, _, hx⟩ := hbl.lt a.toNat (by omega)
  obtain ⟨y, _, hy⟩ := hbl.lt b.toNat (by omega)
  unfold alM
  rw [decide_eq_true_iff, getD_of hx, getD_of hy, hx, hy]
  simp
theorem acO_kap (ok : MaOk S N O T l) : ∀ {F i F' : Nat} {u : List Ac}, 40 - i < F → AI S u → (∀ j x, j < i → u[j]? = some x → ∀ n, n < N.toNat → Clo l u x.1 n) → i ≤ u.length →
    40 - (kap (alM l S.toNat N.toNat) (fsts (u.take i))).length < F' →
    kap (alM l S.toNat N.toNat) (fsts (acO l N.toNat F i u)) = cbO l (alM l S.toNat N.toNat) N.toNat F' (kap (alM l S.toNat N.toNat) (fsts (u.take i))).length (kap (alM l S.toNat N.toNat) (fsts u))
  | 0, i, F', u, h, _, _, _, _ => by omega
  | F + 1, i, F', u, h, hp, hcl, hil, hF => by
    have hlen := hp.len
    have hs := hp.s
    have E := alM_eqv l S.toNat N.toNat
    unfold acO
    by_cases hi : i < u.length
    · have hx : u[i]? = some u[i] := List.getElem?_eq_getElem hi
      simp only [hx]
      have hur := hp.rng u[i] (List.getElem_mem hi)
      obtain ⟨p1, _⟩ := acK_ok ok (c := N.toNat) (n := 0) hp hx
      obtain ⟨⟨v, hv⟩, g⟩ := acK_cl (l := l) (x := u[i]) (c := N.toNat) (n := 0) (u := u)
      have hcl' : ∀ j y, j < i + 1 → (acK l u[i] N.toNat 0 u)[j]? = some y → ∀ n, n < N.toNat → Clo l (acK l u[i] N.toNat 0 u) y.1 n := fun j y hj hy n hn => by
        rw [hv] at hy
        rw [List.getElem?_append_left (by omega)] at hy
        by_cases e : j = i
        · subst e
          rw [hx] at hy; cases hy
          exact g n (by omega) (by omega)
        · rw [hv]; exact (hcl j y (by omega) hy n hn).app v
      have htake : (acK l u[i] N.toNat 0 u).take (i + 1) = u.take i ++ [u[i]] := by
        rw [hv, List.take_append_of_le_length (by omega), List.take_succ_eq_append_getElem hi]
      have hk := acK_kap E.refl (l := l) (x := u[i]) (c := N.toNat) (n := 0) (u := u)
      have hsn := kap_snoc (alM l S.toNat N.toNat) (fsts (u.take i)) u[i].1
      have hfs : fsts (u.take i ++ [u[i]]) = fsts (u.take i) ++ [u[i].1] := by rw [fsts_app]; rfl
      obtain ⟨r, hr, _⟩ := keptF_app (alM l S.toNat N.toNat) (fsts (u.drop (i + 1))) (kap (alM l S.toNat N.toNat) (fsts (u.take i) ++ [u[i].1]))
      have hall : kap (alM l S.toNat N.toNat) (fsts u) = kap (alM l S.toNat N.toNat) (fsts (u.take i) ++ [u[i].1]) ++ r := by
        rw [← hr]
        show keptF _ _ _ = keptF _ _ (keptF _ _ _)
        rw [← keptF_append, ← hfs, ← fsts_app]
        congr 2
        rw [List.append_assoc, List.singleton_append, ← List.drop_eq_getElem_cons hi, List.take_append_drop]
      rcases Option.eq_none_or_eq_some (ixK (alM l S.toNat N.toNat) (kap (alM l S.toNat N.toNat) (fsts (u.take i))) u[i].1) with hf | ⟨j, hf⟩
      · -- a first of its block
        rw [hf] at hsn
        simp only [] at hsn
        have hl1 : (kap (alM l S.toNat N.toNat) (fsts (u.take i) ++ [u[i].1])).length = (kap (alM l S.toNat N.toNat) (fsts (u.take i))).length + 1 := by rw [hsn]; simp
        have hkl : (kap (alM l S.toNat N.toNat) (fsts (u.take i))).length ≤ i := by
          have := keptF_len (alM l S.toNat N.toNat) (fsts (u.take i)) []
          rw [fsts_len, List.length_take] at this
          unfold kap; simp at this; omega
        obtain ⟨F', rfl⟩ : ∃ g, F' = g + 1 := ⟨F' - 1, by omega⟩
        have ih := acO_kap ok (F := F) (i := i + 1) (F' := F') (u := acK l u[i] N.toNat 0 u) (by omega) p1 hcl' (by rw [hv]; simp; omega) (by
          rw [htake, hfs, hl1]
          omega)
        rw [htake, hfs, hl1, hk] at ih
        rw [ih]
        have hget : (kap (alM l S.toNat N.toNat) (fsts u))[(kap (alM l S.toNat N.toNat) (fsts (u.take i))).length]? = some u[i].1 := by
          rw [hall, List.getElem?_append_left (by omega), hsn]
          simp
        show _ = cbO l (alM l S.toNat N.toNat) N.toNat (F' + 1) _ _
        conv => rhs; unfold cbO
        simp only [hget]
      · -- its block is there already
        rw [hf] at hsn
        simp only [] at hsn
        have hsame : kap (alM l S.toNat N.toNat) (fsts (acK l u[i] N.toNat 0 u)) = kap (alM l S.toNat N.toNat) (fsts u) := by
          rw [hk]
          refine cbK_same fun m _ hm s hst => ?_
          -- an earlier one that is alike
          have hfk : ∃ y ∈ fsts (u.take i), alM l S.toNat N.toNat y u[i].1 = true := by
            unfold ixK at hf
            rw [List.findIdx?_eq_some_iff_getElem] at hf
            obtain ⟨hj, hj2, _⟩ := hf
            obtain ⟨v0, e1, e2⟩ := keptF_app (alM l S.toNat N.toNat) (fsts (u.take i)) []
            have e3 : kap (alM l S.toNat N.toNat) (fsts (u.take i)) = v0 := by unfold kap; rw [e1, List.nil_append]
            have e4 : ∀ x ∈ kap (alM l S.toNat N.toNat) (fsts (u.take i)), x ∈ v0 := fun x hx => by rw [e3] at hx; exact hx
            exact ⟨_, e2 _ (e4 _ (List.getElem_mem hj)), hj2⟩
          obtain ⟨y, hy, hya⟩ := hfk
          obtain ⟨z, hz, rfl⟩ := List.mem_map.1 hy
          obtain ⟨q, hq, rfl⟩ := List.getElem_of_mem hz
          have hqi : q < i := by rw [List.length_take] at hq; omega
          rw [List.getElem_take] at hya
          have hqr := hp.rng u[q] (List.getElem_mem (by omega))
          have hal := (al_iff ok hqr hur).1 hya
          rcases hal.goes (by omega : m < N.toNat) with ⟨_, h2⟩ | ⟨s1, s2, h1, h2, _, h4⟩
          · rw [h2] at hst; cases hst
          · rw [h2] at hst
            have es : s2 = s := Option.some.inj hst
            subst es
            have hin := hcl q u[q] hqi (List.getElem?_eq_getElem (by omega)) m (by omega) s1 h1
            have m1 := ok.mem s1 (stp_some h1).1
            have m2 := ok.mem s2 (stp_some h2).1
            have h5 := (al_iff ok ⟨m1.2.2.1, m1.2.2.2.1⟩ ⟨m2.2.2.1, m2.2.2.2.1⟩).2 h4
            rw [← E.ix h5]
            exact kap_has E.refl hin
        have ih := acO_kap ok (F := F) (i := i + 1) (F' := F') (u := acK l u[i] N.toNat 0 u) (by omega) p1 hcl' (by rw [hv]; simp; omega) (by
          rw [htake, hfs, hsn]; exact hF)
        rw [htake, hfs, hsn, hsame] at ih
        exact ih
    · have hx : u[i]? = none := List.getElem?_eq_none (by omega)
      simp only [hx]
      have : u.take i = u := List.take_of_length_le (by omega)
      rw [this]
      obtain ⟨F', rfl⟩ : ∃ g, F' = g + 1 := ⟨F' - 1, by omega⟩
      unfold cbO
      rw [List.getElem?_eq_none (Nat.le_refl _)]
theorem kept_cb (ok : MaOk S N O T l) : keptM l S N T = cbO l (alM l S.toNat N.toNat) N.toNat 41 0 [T] := by
  have h := acO_kap ok (F := 41) (i := 0) (F' := 41) (u := [(T, [])]) (by omega) (ai0 ok.s.2 ok.t) (fun j x hj => by omega) (by simp) (by omega)
  exact h
end
end Go.Proofs.YtahifpeggdcamaaDoor

/- Machines that answer alike have one minimal machine. -/
namespace Go.Proofs.YtahifpeggdcamaaDoor
open Go.Dam
set_option linter.unusedVariables false
set_option linter.unusedSimpArgs false
theorem ixK_par {al al' : Int → Int → Bool} {s s' : Int} : ∀ (c c' : List Int), c.length = c'.length → (∀ (j : Nat) (p q : Int), c[j]? = some p → c'[j]? = some q → al p s = al' q s') → ixK al c s = ixK al' c' s'
  | [], [], _, _ => rfl
  | [], q :: c', h, _ => by simp at h
  | p :: c, [], h, _ => by simp at h
  | p :: c, q :: c', h, hp => by
    have h0 := hp 0 p q rfl rfl
    have ih := ixK_par c c' (by simpa using h) fun j a b ha hb => hp (j + 1) a b (by simpa using ha) (by simpa using hb)
    cases hs : al p s with
    | true => rw [ixK_yes hs, ixK_yes (h0 ▸ hs)]
    | false => rw [ixK_no hs, ixK_no (h0 ▸ hs), ih]
/-- Two lists of states that answer alike, one by one. -/
structure Par (l l' : List St4) (S S' : Int) (N : Nat) (c c' : List Int) : Prop where
  len : c.length = c'.length
  rng : ∀ p ∈ c, 0 ≤ p ∧ p < S
  rng' : ∀ p ∈ c', 0 ≤ p ∧ p < S'
  al : ∀ (j : Nat) (p q : Int), c[j]? = some p → c'[j]? = some q → Alike l l' N p q
section
variable {S N O T S' O' T' : Int} {l l' : List St4}
theorem Par.ix (ok : MaOk S N O T l) (ok' : MaOk S' N O' T' l') {c c' : List Int} (h : Par l l' S S' N.toNat c c') {s s' : Int} (hs : 0 ≤ s ∧ s < S) (hs' : 0 ≤ s' ∧ s' < S') (ha : Alike l l' N.toNat s s') :
    ixK (alM l S.toNat N.toNat) c s = ixK (alM l' S'.toNat N.toNat) c' s' := by
  refine ixK_par c c' h.len fun j p q hp hq => ?_
  have hpr := h.rng p (List.mem_of_getElem? hp)
  have hqr := h.rng' q (List.mem_of_getElem? hq)
  have hpq := h.al j p q hp hq
  rw [Bool.eq_iff_iff, al_iff ok hpr hs, al_iff ok' hqr hs']
  constructor
  · intro h1; exact (hpq.symm.trans h1).trans ha
  · intro h1; exact (hpq.trans h1).trans ha.symm
theorem cb1_par (ok : MaOk S N O T l) (ok' : MaOk S' N O' T' l') {c c' : List Int} (h : Par l l' S S' N.toNat c c') {p q : Int} (hpq : Alike l l' N.toNat p q) {n : Nat} (hn : n < N.toNat) :
    Par l l' S S' N.toNat (cb1 l (alM l S.toNat N.toNat) p n c) (cb1 l' (alM l' S'.toNat N.toNat) q n c') := by
  unfold cb1
  rcases hpq.goes hn with ⟨h1, h2⟩ | ⟨s, s', h1, h2, _, h4⟩
  · rw [h1, h2]; exact h
  · rw [h1, h2]
    have m1 := ok.mem s (stp_some h1).1
    have m2 := ok'.mem s' (stp_some h2).1
    have hs : 0 ≤ s.t ∧ s.t < S := ⟨m1.2.2.1, m1.2.2.2.1⟩
    have hs' : 0 ≤ s'.t ∧ s'.t < S' := ⟨m2.2.2.1, m2.2.2.2.1⟩
    simp only []
    rw [h.ix ok ok' hs hs' h4]
    cases ixK (alM l' S'.toNat N.toNat) c' s'.t with
    | some j => exact h
    | none =>
      refine ⟨by simp [h.len], fun x hx => ?_, fun x hx => ?_, fun j a b ha hb => ?_⟩
      · rcases List.mem_append.1 hx with hx | hx
        · exact h.rng x hx
        · rw [List.mem_singleton.1 hx]; exact hs
      · rcases List.mem_append.1 hx with hx | hx
        · exact h.rng' x hx
        · rw [List.mem_singleton.1 hx]; exact hs'
      · rcases Nat.lt_or_ge j c.length with hj | hj
        · rw [List.getElem?_append_left hj] at ha
          rw [List.getElem?_append_left (by rw [← h.len]; exact hj)] at hb
          exact h.al j a b ha hb
        · rw [List.getElem?_append_right hj] at ha
          rw [List.getElem?_append_right (by rw [← h.len]; exact hj), ← h.len] at hb
          cases hjj : j - c.length with
          | zero => rw [hjj] at ha hb; cases ha; cases hb; exact h4
          | succ k => rw [hjj] at ha; simp at ha
theorem cbK_par (ok : MaOk S N O T l) (ok' : MaOk S' N O' T' l') {p q : Int} (hpq : Alike l l' N.toNat p q) : ∀ {k n : Nat} {c c' : List Int}, n + k ≤ N.toNat → Par l l' S S' N.toNat c c' →
    Par l l' S S' N.toNat (cbK l (alM l S.toNat N.toNat) p k n c) (cbK l' (alM l' S'.toNat N.toNat) q k n c')
  | 0, n, c, c', _, h => h
  | k + 1, n, c, c', hn, h => cbK_par ok ok' hpq (k := k) (n := n + 1) (by omega) (cb1_par ok ok' h hpq (n := n) (by omega))
theorem cbO_par (ok : MaOk S N O T l) (ok' : MaOk S' N O' T' l') : ∀ {F j : Nat} {c c' : List Int}, Par l l' S S' N.toNat c c' →
    Par l l' S S' N.toNat (cbO l (alM l S.toNat N.toNat) N.toNat F j c) (cbO l' (alM l' S'.toNat N.toNat) N.toNat F j c')
  | 0, j, c, c', h => h
  | F + 1, j, c, c', h => by
    unfold cbO
    rcases Nat.lt_or_ge j c.length with hj | hj
    · have h1 : c[j]? = some c[j] := List.getElem?_eq_getElem hj
      have h2 : c'[j]? = some (c'[j]'(by rw [← h.len]; exact hj)) := List.getElem?_eq_getElem _
      simp only [h1, h2]
      exact cbO_par ok ok' (cbK_par ok ok' (h.al j _ _ h1 h2) (by omega) h)
    · have h1 : c[j]? = none := List.getElem?_eq_none hj
      have h2 : c'[j]? = none := List.getElem?_eq_none (by rw [← h.len]; exact hj)
      simp only [h1, h2]
      exact h
theorem kept_par (ok : MaOk S N O T l) (ok' : MaOk S' N O' T' l') (h : Alike l l' N.toNat T T') : Par l l' S S' N.toNat (keptM l S N T) (keptM l' S' N T') := by
  rw [kept_cb ok, kept_cb ok']
  refine cbO_par ok ok' ⟨rfl, fun p hp => ?_, fun p hp => ?_, fun j p q hp hq => ?_⟩
  · rw [List.mem_singleton.1 hp]; exact ok.t
  · rw [List.mem_singleton.1 hp]; exact ok'.t
  · cases j with
    | zero => cases hp; cases hq; exact h
    | succ j => simp at hp
theorem stpK_par (ok : MaOk S N O T l) (ok' : MaOk S' N O' T' l') {c c' : List Int} (h : Par l l' S S' N.toNat c c') {i : Nat} {p q : Int} (hpq : Alike l l' N.toNat p q) {n : Nat} (hn : n < N.toNat) :
    stpK (alM l S.toNat N.toNat) l c i p n = stpK (alM l' S'.toNat N.toNat) l' c' i q n := by
  unfold stpK
  rcases hpq.goes hn with ⟨h1, h2⟩ | ⟨s, s', h1, h2, h3, h4⟩
  · rw [h1, h2]
  · rw [h1, h2]
    have m1 := ok.mem s (stp_some h1).1
    have m2 := ok'.mem s' (stp_some h2).1
    have := h.ix ok ok' ⟨m1.2.2.1, m1.2.2.2.1⟩ ⟨m2.2.2.1, m2.2.2.2.1⟩ h4
    simp only [ixV, this, h3]
theorem rowK_par (ok : MaOk S N O T l) (ok' : MaOk S' N O' T' l') {c c' : List Int} (h : Par l l' S S' N.toNat c c') {i : Nat} {p q : Int} (hpq : Alike l l' N.toNat p q) : ∀ {k n : Nat}, n + k ≤ N.toNat →
    rowK (alM l S.toNat N.toNat) l c i p k n = rowK (alM l' S'.toNat N.toNat) l' c' i q k n
  | 0, n, _ => rfl
  | k + 1, n, hn => by
    show stpK _ l c i p n ++ rowK _ l c i p k (n + 1) = stpK _ l' c' i q n ++ rowK _ l' c' i q k (n + 1)
    rw [stpK_par ok ok' h hpq (by omega), rowK_par ok ok' h hpq (k := k) (n := n + 1) (by omega)]
theorem colK_par (ok : MaOk S N O T l) (ok' : MaOk S' N O' T' l') {c c' : List Int} (h : Par l l' S S' N.toNat c c') : ∀ {r r' : List Int} {i : Nat}, r.length = r'.length → (∀ (j : Nat) (p q : Int), r[j]? = some p → r'[j]? = some q → Alike l l' N.toNat p q) →
    colK (alM l S.toNat N.toNat) l N.toNat c r i = colK (alM l' S'.toNat N.toNat) l' N.toNat c' r' i
  | [], [], i, _, _ => rfl
  | [], q :: r', i, hl, _ => by simp at hl
  | p :: r, [], i, hl, _ => by simp at hl
  | p :: r, q :: r', i, hl, ha => by
    show rowK _ l c i p N.toNat 0 ++ colK _ l N.toNat c r (i + 1) = rowK _ l' c' i q N.toNat 0 ++ colK _ l' N.toNat c' r' (i + 1)
    rw [rowK_par ok ok' h (ha 0 p q rfl rfl) (by omega), colK_par ok ok' h (r := r) (r' := r') (by simpa using hl) fun j a b x y => ha (j + 1) a b (by simpa using x) (by simpa using y)]
/-- Machines that answer alike have one minimal machine. -/
theorem min_unique (ok : MaOk S N O T l) (ok' : MaOk S' N O' T' l') (h : Alike l l' N.toNat T T') : (keptM l S N T).length = (keptM l' S' N T').length ∧ stepsM l S N T = stepsM l' S' N T' := by
  have hp := kept_par ok ok' h
  exact ⟨hp.len, colK_par ok ok' hp hp.len hp.al⟩
end
end Go.Proofs.YtahifpeggdcamaaDoor
