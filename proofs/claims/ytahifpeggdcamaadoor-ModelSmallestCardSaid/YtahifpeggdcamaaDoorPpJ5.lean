/- A part of an interpreter of the model's code that is proved sound, and of laws told by it: DamQ5. -/
import Derived.Test.YtahifpeggdcamaaDoorPpJ4
set_option linter.unusedVariables false
set_option linter.unusedSimpArgs false
/- Minimal machines, plainly: of the reached states the first of each block. -/
namespace Go.Proofs.YtahifpeggdcamaaDoor
open Go.Dam
set_option linter.unusedVariables false
set_option linter.unusedSimpArgs false
def Clo (l : List St4) (u : List Ac) (p : Int) (n : Nat) : Prop := ∀ s, stp l p n = some s → s.t ∈ fsts u
theorem fsts_app (u v : List Ac) : fsts (u ++ v) = fsts u ++ fsts v := by simp [fsts]
theorem Clo.app {l : List St4} {u : List Ac} {p : Int} {n : Nat} (h : Clo l u p n) (v : List Ac) : Clo l (u ++ v) p n := fun s hs => by
  rw [fsts_app]; exact List.mem_append_left _ (h s hs)
theorem ac1_cl {l : List St4} {x : Ac} {n : Nat} {u : List Ac} : (∃ v, ac1 l x n u = u ++ v) ∧ Clo l (ac1 l x n u) x.1 n := by
  unfold ac1 Clo
  cases h1 : stp l x.1 n with
  | none => exact ⟨⟨[], by simp⟩, fun s hs => by cases hs⟩
  | some s =>
    simp only []
    by_cases hn : inL s.t (fsts u) = true
    · rw [if_pos hn]; exact ⟨⟨[], by simp⟩, fun s' hs => by cases hs; exact inL_iff.1 hn⟩
    · rw [if_neg hn]; exact ⟨⟨_, rfl⟩, fun s' hs => by cases hs; rw [fsts_app]; exact List.mem_append_right _ (by simp [fsts])⟩
theorem acK_cl {l : List St4} {x : Ac} : ∀ {c n : Nat} {u : List Ac}, (∃ v, acK l x c n u = u ++ v) ∧ ∀ k, n ≤ k → k < n + c → Clo l (acK l x c n u) x.1 k
  | 0, n, u => ⟨⟨[], by simp [acK]⟩, fun k h1 h2 => by omega⟩
  | c + 1, n, u => by
    obtain ⟨⟨v, hv⟩, g2⟩ := ac1_cl (l := l) (x := x) (n := n) (u := u)
    obtain ⟨⟨v', hv'⟩, g4⟩ := acK_cl (l := l) (x := x) (c := c) (n := n + 1) (u := ac1 l x n u)
    have e : acK l x (c + 1) n u = acK l x c (n + 1) (ac1 l x n u) := rfl
    rw [e]
    refine ⟨⟨v ++ v', by rw [hv', hv, List.append_assoc]⟩, fun k k1 k2 => ?_⟩
    by_cases ek : k = n
    · subst ek; rw [hv']; exact g2.app v'
    · exact g4 k (by omega) (by omega)
theorem acO_cl {S N O T : Int} {l : List St4} (ok : MaOk S N O T l) : ∀ {F i : Nat} {u : List Ac}, 40 - i < F → AI S u → (∀ j x, j < i → u[j]? = some x → ∀ n, n < N.toNat → Clo l u x.1 n) →
    (∃ v, acO l N.toNat F i u = u ++ v) ∧ AI S (acO l N.toNat F i u) ∧ ∀ x ∈ acO l N.toNat F i u, ∀ n, n < N.toNat → Clo l (acO l N.toNat F i u) x.1 n
  | 0, i, u, h, _, _ => by omega
  | F + 1, i, u, h, hp, hcl => by
    have hlen := hp.len
    have hs := hp.s
    unfold acO
    by_cases hi : i < u.length
    · have hx : u[i]? = some u[i] := List.getElem?_eq_getElem hi
      simp only [hx]
      obtain ⟨p1, _⟩ := acK_ok ok (c := N.toNat) (n := 0) hp hx
      obtain ⟨⟨v, hv⟩, g⟩ := acK_cl (l := l) (x := u[i]) (c := N.toNat) (n := 0) (u := u)
      obtain ⟨⟨v', hv'⟩, q1, q2⟩ := acO_cl ok (F := F) (i := i + 1) (by omega) p1 fun j y hj hy n hn => by
        rw [hv] at hy
        rw [List.getElem?_append_left (by omega)] at hy
        by_cases e : j = i
        · subst e
          rw [hx] at hy; cases hy
          exact g n (by omega) (by omega)
        · rw [hv]; exact (hcl j y (by omega) hy n hn).app v
      exact ⟨⟨v ++ v', by rw [hv', hv, List.append_assoc]⟩, q1, q2⟩
    · have hx : u[i]? = none := List.getElem?_eq_none (by omega)
      simp only [hx]
      refine ⟨⟨[], by simp⟩, hp, fun x hxm n hn => ?_⟩
      obtain ⟨j, hj, rfl⟩ := List.getElem_of_mem hxm
      exact hcl j _ (by omega) (List.getElem?_eq_getElem hj) n hn
def ordM (l : List St4) (N T : Int) : List Int := fsts (accM l N T)
section
variable {S N O T : Int} {l : List St4}
theorem ord_facts (ok : MaOk S N O T l) : (∃ r, ordM l N T = T :: r) ∧ (∀ s ∈ ordM l N T, 0 ≤ s ∧ s < S) ∧ (ordM l N T).length ≤ 40 ∧ (ordM l N T).Nodup ∧ ∀ p ∈ ordM l N T, ∀ n, n < N.toNat → ∀ s, stp l p n = some s → s.t ∈ ordM l N T := by
  obtain ⟨⟨v, hv⟩, h1, h2⟩ := acO_cl ok (F := 41) (i := 0) (by omega) (ai0 ok.s.2 ok.t) fun j x hj => by omega
  refine ⟨⟨fsts v, ?_⟩, fun s hs => ?_, ?_, ?_, fun p hp n hn s hst => ?_⟩
  · unfold ordM accM; rw [hv, fsts_app]; rfl
  · obtain ⟨x, hx, rfl⟩ := List.mem_map.1 hs
    exact h1.rng x hx
  · unfold ordM; rw [fsts_len]
    have := h1.len; have := h1.s
    unfold accM; omega
  · have := h1.nd
    unfold ordM fsts accM
    rw [List.Nodup, List.pairwise_map] at this ⊢
    exact this.imp fun h e => h (by rw [e])
  · obtain ⟨x, hx, rfl⟩ := List.mem_map.1 hp
    exact h2 x hx n hn s hst
end
def ixK (al : Int → Int → Bool) (kept : List Int) (s : Int) : Option Nat := kept.findIdx? fun k => al k s
def keptF (al : Int → Int → Bool) : List Int → List Int → List Int
  | [], kept => kept
  | s :: r, kept => match ixK al kept s with
    | some _ => keptF al r kept
    | none => keptF al r (kept ++ [s])
theorem ixK_yes {al : Int → Int → Bool} {k s : Int} {r : List Int} (h : al k s = true) : ixK al (k :: r) s = some 0 := by
  unfold ixK
  rw [List.findIdx?_cons]
  exact if_pos h
theorem ixK_no {al : Int → Int → Bool} {k s : Int} {r : List Int} (h : al k s = false) : ixK al (k :: r) s = (ixK al r s).map (· + 1) := by
  unfold ixK
  rw [List.findIdx?_cons]
  exact if_neg (by rw [h]; simp)
def ixV (al : Int → Int → Bool) (kept : List Int) (s : Int) : Int := match ixK al kept s with
  | some j => (j : Int)
  | none => 0
theorem ixK_app {al : Int → Int → Bool} {kept : List Int} {s : Int} {j : Nat} (h : ixK al kept s = some j) (v : List Int) : ixK al (kept ++ v) s = some j := by
  unfold ixK at *
  rw [List.findIdx?_append, h]; rfl
theorem ixK_new {al : Int → Int → Bool} {kept : List Int} {s : Int} (h : ixK al kept s = none) (hs : al s s = true) : ixK al (kept ++ [s]) s = some kept.length := by
  unfold ixK at *
  rw [List.findIdx?_append, h]
  simp [List.findIdx?_cons, hs]
theorem keptF_app (al : Int → Int → Bool) : ∀ (r kept : List Int), ∃ v, keptF al r kept = kept ++ v ∧ ∀ x ∈ v, x ∈ r
  | [], kept => ⟨[], by simp [keptF], by simp⟩
  | s :: r, kept => by
    unfold keptF
    cases h : ixK al kept s with
    | some j =>
      obtain ⟨v, h1, h2⟩ := keptF_app al r kept
      exact ⟨v, h1, fun x hx => List.mem_cons_of_mem _ (h2 x hx)⟩
    | none =>
      obtain ⟨v, h1, h2⟩ := keptF_app al r (kept ++ [s])
      refine ⟨[s] ++ v, by rw [h1, List.append_assoc], fun x hx => ?_⟩
      rcases List.mem_append.1 hx with hx | hx
      · rw [List.mem_singleton.1 hx]; exact List.mem_cons_self
      · exact List.mem_cons_of_mem _ (h2 x hx)
theorem keptF_ix {al : Int → Int → Bool} (hr : ∀ s, al s s = true) : ∀ (r kept : List Int), ∀ s ∈ r, ∃ j, ixK al (keptF al r kept) s = some j
  | [], kept, s, h => by cases h
  | a :: r, kept, s, h => by
    unfold keptF
    cases hk : ixK al kept a with
    | some j =>
      rcases List.mem_cons.1 h with rfl | h
      · obtain ⟨v, h1, _⟩ := keptF_app al r kept
        simp only []
        rw [h1]; exact ⟨j, ixK_app hk v⟩
      · exact keptF_ix hr r kept s h
    | none =>
      rcases List.mem_cons.1 h with rfl | h
      · obtain ⟨v, h1, _⟩ := keptF_app al r (kept ++ [s])
        simp only []
        rw [h1]; exact ⟨_, ixK_app (ixK_new hk (hr s)) v⟩
      · exact keptF_ix hr r (kept ++ [a]) s h
/-- The states' numbers in the minimal machine, one after the other. -/
def toF (al : Int → Int → Bool) (kept : List Int) : List Int → List Int → List Int
  | [], a => a
  | s :: r, a => toF al kept r (a.set s.toNat (ixV al kept s))
theorem toF_len (al : Int → Int → Bool) (kept : List Int) : ∀ (r a : List Int), (toF al kept r a).length = a.length
  | [], a => rfl
  | s :: r, a => by unfold toF; rw [toF_len al kept r]; simp
theorem toF_old (al : Int → Int → Bool) (kept : List Int) : ∀ (r a : List Int) (j : Nat), (∀ s ∈ r, s.toNat ≠ j) → (toF al kept r a)[j]? = a[j]?
  | [], a, j, _ => rfl
  | s :: r, a, j, h => by
    unfold toF
    rw [toF_old al kept r _ j fun x hx => h x (List.mem_cons_of_mem _ hx), List.getElem?_set_ne (h s List.mem_cons_self)]
theorem toF_get (al : Int → Int → Bool) (kept : List Int) : ∀ (r a : List Int) (s : Int), (∀ x ∈ r, 0 ≤ x) → r.Nodup → s ∈ r → s.toNat < a.length → (toF al kept r a)[s.toNat]? = some (ixV al kept s)
  | [], a, s, _, _, h, _ => by cases h
  | x :: r, a, s, hp, hnd, h, hl => by
    unfold toF
    rw [List.nodup_cons] at hnd
    by_cases e : s ∈ r
    · exact toF_get al kept r _ s (fun y hy => hp y (List.mem_cons_of_mem _ hy)) hnd.2 e (by simpa using hl)
    · have : s = x := by
        rcases List.mem_cons.1 h with h | h
        · exact h
        · exact absurd h e
      subst this
      rw [toF_old al kept r _ _ fun y hy he => by
        have h1 := hp y (List.mem_cons_of_mem _ hy)
        have h2 := hp s List.mem_cons_self
        have : y = s := by omega
        subst this; exact e hy]
      rw [List.getElem?_set_self hl]
/-- The steps of the minimal machine. -/
def stpK (al : Int → Int → Bool) (l : List St4) (kept : List Int) (i : Nat) (p : Int) (n : Nat) : List St4 := match stp l p n with
  | some y => [⟨i, n, y.o, ixV al kept y.t⟩]
  | none => []
def rowK (al : Int → Int → Bool) (l : List St4) (kept : List Int) (i : Nat) (p : Int) : Nat → Nat → List St4
  | 0, _ => []
  | c + 1, n => stpK al l kept i p n ++ rowK al l kept i p c (n + 1)
def colK (al : Int → Int → Bool) (l : List St4) (N : Nat) (kept : List Int) : List Int → Nat → List St4
  | [], _ => []
  | p :: r, i => rowK al l kept i p N 0 ++ colK al l N kept r (i + 1)
def alM (l : List St4) (S N : Nat) (k s : Int) : Bool := decide ((blocksM l S N).getD k.toNat 0 = (blocksM l S N).getD s.toNat 0)
def keptM (l : List St4) (S N T : Int) : List Int := keptF (alM l S.toNat N.toNat) (ordM l N T) []
def toM (l : List St4) (S N T : Int) : List Int := toF (alM l S.toNat N.toNat) (keptM l S N T) (ordM l N T) (List.replicate S.toNat (-1))
def stepsM (l : List St4) (S N T : Int) : List St4 := colK (alM l S.toNat N.toNat) l N.toNat (keptM l S N T) (keptM l S N T) 0
theorem alM_self (l : List St4) (S N : Nat) (s : Int) : alM l S N s s = true := by simp [alM]
theorem rowK_len (al : Int → Int → Bool) (l : List St4) (kept : List Int) (i : Nat) (p : Int) : ∀ c n, (rowK al l kept i p c n).length ≤ c
  | 0, n => Nat.le_refl _
  | c + 1, n => by
    unfold rowK
    have := rowK_len al l kept i p c (n + 1)
    have h : (stpK al l kept i p n).length ≤ 1 := by unfold stpK; split <;> simp
    rw [List.length_append]; omega
def mapK (b : Int → Int) : List Int → Nat → List AV
  | [], _ => []
  | k :: r, i => .agg [I (b k), I (i : Int)] :: mapK b r (i + 1)
theorem mapK_snoc (b : Int → Int) (s : Int) : ∀ (r : List Int) (i : Nat), mapK b (r ++ [s]) i = mapK b r i ++ [.agg [I (b s), I ((i + r.length : Nat) : Int)]]
  | [], i => rfl
  | k :: r, i => by
    show AV.agg _ :: mapK b (r ++ [s]) (i + 1) = _
    rw [mapK_snoc b s r (i + 1)]
    show _ = AV.agg _ :: (mapK b r (i + 1) ++ _)
    rw [show i + 1 + r.length = i + (k :: r).length by simp; omega]
theorem mget_mapK (b : Int → Int) (s : Int) : ∀ (r : List Int) (i : Nat), mget (I (b s)) (mapK b r i) = (ixK (fun k s => decide (b k = b s)) r s).map fun j => I ((i + j : Nat) : Int)
  | [], i => rfl
  | k :: r, i => by
    have hc0 : cellN (.agg [I (b k), I (i : Int)]) 0 = I (b k) := rfl
    have hc1 : cellN (.agg [I (b k), I (i : Int)]) 1 = I (i : Int) := rfl
    have hk : keyEq (I (b s)) (I (b k)) = (b s == b k) := rfl
    unfold mapK mget
    rw [hc0, hc1, hk]
    by_cases h : b k = b s
    · rw [ixK_yes (al := fun k s => decide (b k = b s)) (decide_eq_true h), show (b s == b k) = true by simp [h]]; rfl
    · rw [ixK_no (al := fun k s => decide (b k = b s)) (decide_eq_false h), show (b s == b k) = false by simp; exact fun e => h e.symm]
      simp only []
      rw [mget_mapK b s r (i + 1), Option.map_map]
      congr 1
      funext j
      simp only [Function.comp]
      congr 2; omega
theorem mset_mapK (b : Int → Int) (s : Int) (v : Int) : ∀ (r : List Int) (i : Nat), ixK (fun k s => decide (b k = b s)) r s = none → mset (I (b s)) (I v) (mapK b r i) = mapK b r i ++ [.agg [I (b s), I v]]
  | [], i, _ => rfl
  | k :: r, i, h => by
    have hc0 : cellN (.agg [I (b k), I (i : Int)]) 0 = I (b k) := rfl
    have hk : keyEq (I (b s)) (I (b k)) = (b s == b k) := rfl
    unfold mapK mset
    rw [hc0, hk]
    by_cases hb : b k = b s
    · rw [ixK_yes (al := fun k s => decide (b k = b s)) (decide_eq_true hb)] at h; cases h
    · rw [ixK_no (al := fun k s => decide (b k = b s)) (decide_eq_false hb), Option.map_eq_none_iff] at h
      rw [show (b s == b k) = false by simp; exact fun e => hb e.symm]
      simp only []
      rw [mset_mapK b s v r (i + 1) h]; rfl
end Go.Proofs.YtahifpeggdcamaaDoor
