/- A part of an interpreter of the model's code that is proved sound, and of laws told by it: DamQ1. -/
import Derived.Test.YtahifpeggdcamaaDoorPpH4
set_option linter.unusedVariables false
set_option linter.unusedSimpArgs false
/- Which states answer alike: the search finds a difference exactly if they do not. -/
namespace Go.Proofs.YtahifpeggdcamaaDoor
open Go.Dam
set_option linter.unusedVariables false
set_option linter.unusedSimpArgs false
/-- Two states go on alike by an input, R again. -/
def Goes (l l' : List St4) (R : Int → Int → Prop) (p q : Int) (n : Nat) : Prop :=
  (stp l p n = none ∧ stp l' q n = none) ∨ ∃ s s', stp l p n = some s ∧ stp l' q n = some s' ∧ s.o = s'.o ∧ R s.t s'.t
def Bisim (l l' : List St4) (N : Nat) (R : Int → Int → Prop) : Prop := ∀ p q, R p q → ∀ n, n < N → Goes l l' R p q n
def Alike (l l' : List St4) (N : Nat) (p q : Int) : Prop := ∃ R, Bisim l l' N R ∧ R p q
theorem Goes.mono {l l' : List St4} {R R' : Int → Int → Prop} (h : ∀ p q, R p q → R' p q) {p q : Int} {n : Nat} (hg : Goes l l' R p q n) : Goes l l' R' p q n := by
  rcases hg with hg | ⟨s, s', h1, h2, h3, h4⟩
  · exact .inl hg
  · exact .inr ⟨s, s', h1, h2, h3, h _ _ h4⟩
theorem Alike.goes {l l' : List St4} {N : Nat} {p q : Int} (h : Alike l l' N p q) {n : Nat} (hn : n < N) : Goes l l' (Alike l l' N) p q n := by
  obtain ⟨R, hb, hr⟩ := h
  exact (hb p q hr n hn).mono fun p q hpq => ⟨R, hb, hpq⟩
theorem Alike.symm {l l' : List St4} {N : Nat} {p q : Int} (h : Alike l l' N p q) : Alike l' l N q p := by
  obtain ⟨R, hb, hr⟩ := h
  refine ⟨fun a b => R b a, fun a b hab n hn => ?_, hr⟩
  rcases hb b a hab n hn with ⟨h1, h2⟩ | ⟨s, s', h1, h2, h3, h4⟩
  · exact .inl ⟨h2, h1⟩
  · exact .inr ⟨s', s, h2, h1, h3.symm, h4⟩
theorem Alike.trans {l l' l'' : List St4} {N : Nat} {p q r : Int} (h : Alike l l' N p q) (k : Alike l' l'' N q r) : Alike l l'' N p r := by
  obtain ⟨R, hb, hr⟩ := h
  obtain ⟨R', hb', hr'⟩ := k
  refine ⟨fun a c => ∃ b, R a b ∧ R' b c, fun a c hac n hn => ?_, ⟨q, hr, hr'⟩⟩
  obtain ⟨b, h1, h2⟩ := hac
  rcases hb a b h1 n hn with ⟨g1, g2⟩ | ⟨s, s', g1, g2, g3, g4⟩
  · rcases hb' b c h2 n hn with ⟨k1, k2⟩ | ⟨t, t', k1, k2, k3, k4⟩
    · exact .inl ⟨g1, k2⟩
    · rw [g2] at k1; cases k1
  · rcases hb' b c h2 n hn with ⟨k1, k2⟩ | ⟨t, t', k1, k2, k3, k4⟩
    · rw [g2] at k1; cases k1
    · rw [g2] at k1; cases k1
      exact .inr ⟨s, t', g1, k2, g3.trans k3, s'.t, g4, k4⟩
theorem inn_iff {a b : Int} {u : List Pr} : inn a b u = true ↔ ∃ x ∈ u, x.1 = a ∧ x.2.1 = b := by
  unfold inn
  rw [List.any_eq_true]
  constructor
  · rintro ⟨x, h1, h2⟩
    unfold isPr at h2
    simp only [Bool.and_eq_true, beq_iff_eq] at h2
    exact ⟨x, h1, h2.1, h2.2⟩
  · rintro ⟨x, h1, h2, h3⟩
    exact ⟨x, h1, by unfold isPr; simp [h2, h3]⟩
theorem inn_app {a b : Int} {u v : List Pr} (h : inn a b u = true) : inn a b (u ++ v) = true := by
  rw [inn_iff] at h ⊢
  obtain ⟨x, h1, h2⟩ := h
  exact ⟨x, List.mem_append_left _ h1, h2⟩
def Cl (l l' : List St4) (u : List Pr) (x : Pr) (n : Nat) : Prop := Goes l l' (fun a b => inn a b u = true) x.1 x.2.1 n
theorem Cl.app {l l' : List St4} {u : List Pr} {x : Pr} {n : Nat} (h : Cl l l' u x n) (v : List Pr) : Cl l l' (u ++ v) x n := Goes.mono (fun _ _ => inn_app) h
theorem sr1_cl {l l' : List St4} {x : Pr} {n : Nat} {u u' : List Pr} (h : sr1 l l' x n u = .inl u') : (∃ v, u' = u ++ v) ∧ Cl l l' u' x n := by
  unfold sr1 at h
  split at h
  · rename_i h1 h2; cases h; exact ⟨⟨[], by simp⟩, .inl ⟨h1, h2⟩⟩
  · rename_i s s' h1 h2
    split at h
    · rename_i ho
      split at h
      · rename_i hin; cases h; exact ⟨⟨[], by simp⟩, .inr ⟨s, s', h1, h2, ho, hin⟩⟩
      · cases h
        refine ⟨⟨_, rfl⟩, .inr ⟨s, s', h1, h2, ho, ?_⟩⟩
        exact inn_iff.2 ⟨_, List.mem_append_right _ (List.mem_singleton.2 rfl), rfl, rfl⟩
    · cases h
  · cases h
  · cases h
theorem srK_cl {l l' : List St4} {x : Pr} : ∀ {c n : Nat} {u u' : List Pr}, srK l l' x c n u = .inl u' → (∃ v, u' = u ++ v) ∧ ∀ k, n ≤ k → k < n + c → Cl l l' u' x k
  | 0, n, u, u', h => by unfold srK at h; cases h; exact ⟨⟨[], by simp⟩, fun k h1 h2 => by omega⟩
  | c + 1, n, u, u', h => by
    unfold srK at h
    split at h
    · cases h
    · rename_i u1 h1
      obtain ⟨⟨v, rfl⟩, g2⟩ := sr1_cl h1
      obtain ⟨⟨v', rfl⟩, g4⟩ := srK_cl h
      refine ⟨⟨v ++ v', by simp⟩, fun k k1 k2 => ?_⟩
      by_cases e : k = n
      · subst e; exact g2.app v'
      · exact g4 k (by omega) (by omega)
theorem srO_cl {S N O T S' O' T' : Int} {l l' : List St4} (ok : MaOk S N O T l) (ok' : MaOk S' N O' T' l') : ∀ {F i : Nat} {u u' : List Pr}, 1600 - i < F → PI S S' u → (∀ j x, j < i → u[j]? = some x → ∀ n, n < N.toNat → Cl l l' u x n) → srO l l' N.toNat F i u = .inl u' →
    (∃ v, u' = u ++ v) ∧ ∀ x ∈ u', ∀ n, n < N.toNat → Cl l l' u' x n
  | 0, i, u, u', hF, _, _, _ => by omega
  | F + 1, i, u, u', hF, hp, hcl, h => by
    unfold srO at h
    split at h
    · rename_i x hx
      split at h
      · cases h
      · rename_i u1 h1
        obtain ⟨p1, _⟩ := srK_ok ok ok' hp (List.mem_of_getElem? hx) h1
        obtain ⟨⟨v, rfl⟩, g2⟩ := srK_cl h1
        have hi : i < u.length := (List.getElem?_eq_some_iff.1 hx).1
        have hlen := p1.len
        obtain ⟨⟨v', rfl⟩, g4⟩ := srO_cl ok ok' (i := i + 1) (by simp at hlen; omega) p1 (fun j y hj hy n hn => by
          rw [List.getElem?_append_left (by omega)] at hy
          by_cases e : j = i
          · subst e
            rw [hx] at hy; cases hy
            exact g2 n (by omega) (by omega)
          · exact (hcl j y (by omega) hy n hn).app v) h
        exact ⟨⟨v ++ v', by simp⟩, g4⟩
    · rename_i hx
      cases h
      have hlen : u.length ≤ i := by simpa using hx
      refine ⟨⟨[], by simp⟩, fun x hxm n hn => ?_⟩
      obtain ⟨j, hj, rfl⟩ := List.getElem_of_mem hxm
      exact hcl j _ (by omega) (List.getElem?_eq_getElem hj) n hn
theorem search_alike {S N O T S' O' T' : Int} {l l' : List St4} (ok : MaOk S N O T l) (ok' : MaOk S' N O' T' l') {s t : Int} (hs : 0 ≤ s ∧ s < S) (ht : 0 ≤ t ∧ t < S') {u : List Pr} (h : searchM l l' N s t = .inl u) : Alike l l' N.toNat s t := by
  obtain ⟨s1, s2⟩ := ok.s
  obtain ⟨s3, s4⟩ := ok'.s
  obtain ⟨⟨v, rfl⟩, g⟩ := srO_cl ok ok' (by omega) (pi0 (by omega) (by omega) hs ht) (fun j x hj => by omega) h
  refine ⟨fun a b => inn a b ([(s, t, [])] ++ v) = true, fun a b hab n hn => ?_, ?_⟩
  · obtain ⟨x, hx, rfl, rfl⟩ := inn_iff.1 hab
    exact g x hx n hn
  · exact inn_iff.2 ⟨(s, t, []), by simp, rfl, rfl⟩
theorem sr1_al {l l' : List St4} {N : Nat} {x : Pr} {n : Nat} {u : List Pr} (hn : n < N) (hx : Alike l l' N x.1 x.2.1) : ∃ u', sr1 l l' x n u = .inl u' ∧ ∀ y ∈ u', y ∈ u ∨ Alike l l' N y.1 y.2.1 := by
  unfold sr1
  rcases hx.goes hn with ⟨h1, h2⟩ | ⟨s, s', h1, h2, h3, h4⟩
  · rw [h1, h2]; exact ⟨u, rfl, fun y hy => .inl hy⟩
  · rw [h1, h2]
    simp only [if_pos h3]
    by_cases hin : inn s.t s'.t u = true
    · rw [if_pos hin]; exact ⟨u, rfl, fun y hy => .inl hy⟩
    · rw [if_neg hin]
      refine ⟨_, rfl, fun y hy => ?_⟩
      rcases List.mem_append.1 hy with hy | hy
      · exact .inl hy
      · rw [List.mem_singleton.1 hy]; exact .inr h4
theorem srK_al {l l' : List St4} {N : Nat} {x : Pr} (hx : Alike l l' N x.1 x.2.1) : ∀ {c n : Nat} {u : List Pr}, n + c ≤ N → (∀ y ∈ u, Alike l l' N y.1 y.2.1) → ∃ u', srK l l' x c n u = .inl u' ∧ ∀ y ∈ u', Alike l l' N y.1 y.2.1
  | 0, n, u, _, h => ⟨u, rfl, h⟩
  | c + 1, n, u, hn, h => by
    obtain ⟨u1, h1, h2⟩ := sr1_al (u := u) (show n < N by omega) hx
    unfold srK
    rw [h1]
    exact srK_al hx (by omega) fun y hy => (h2 y hy).elim (h y) id
theorem srO_al {l l' : List St4} {N : Nat} : ∀ {F i : Nat} {u : List Pr}, (∀ y ∈ u, Alike l l' N y.1 y.2.1) → ∃ u', srO l l' N F i u = .inl u'
  | 0, i, u, h => ⟨u, rfl⟩
  | F + 1, i, u, h => by
    unfold srO
    cases hx : u[i]? with
    | none => exact ⟨u, rfl⟩
    | some x =>
      obtain ⟨u1, h1, h2⟩ := srK_al (h x (List.mem_of_getElem? hx)) (c := N) (n := 0) (by omega) h
      simp only [h1]
      exact srO_al h2
theorem search_iff {S N O T S' O' T' : Int} {l l' : List St4} (ok : MaOk S N O T l) (ok' : MaOk S' N O' T' l') {s t : Int} (hs : 0 ≤ s ∧ s < S) (ht : 0 ≤ t ∧ t < S') : Alike l l' N.toNat s t ↔ ∃ u, searchM l l' N s t = .inl u :=
  ⟨fun h => srO_al fun y hy => by rw [List.mem_singleton.1 hy]; exact h, fun ⟨u, h⟩ => search_alike ok ok' hs ht h⟩
end Go.Proofs.YtahifpeggdcamaaDoor
