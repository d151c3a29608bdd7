/- A part of an interpreter of the model's code that is proved sound, and of laws told by it: DamN5. -/
import Derived.Test.YtahifpeggdcamaaDoorPnI1
set_option linter.unusedVariables false
set_option linter.unusedSimpArgs false
/- Completed machines are right machines; the search goes on them as before. -/
namespace Go.Proofs.YtahifpeggdcamaaDoor
open Go.Dam
set_option linter.unusedVariables false
set_option linter.unusedSimpArgs false
theorem cellS_key {l : List St4} {O : Int} {f j : Nat} : (cellS l O f j).f = f ∧ (cellS l O f j).i = j := by
  unfold cellS
  cases hs : stp l f j with
  | none => exact ⟨rfl, rfl⟩
  | some s => exact (stp_some hs).2
theorem rowS_mem {l : List St4} {O : Int} {f : Nat} : ∀ {c j : Nat} {s : St4}, s ∈ rowS l O f c j ↔ ∃ k, j ≤ k ∧ k < j + c ∧ s = cellS l O f k
  | 0, j, s => by simp [rowS]; omega
  | c + 1, j, s => by
    simp only [rowS, List.mem_cons, rowS_mem (c := c) (j := j + 1)]
    constructor
    · rintro (rfl | ⟨k, h1, h2, rfl⟩)
      · exact ⟨j, by omega, by omega, rfl⟩
      · exact ⟨k, by omega, by omega, rfl⟩
    · rintro ⟨k, h1, h2, rfl⟩
      by_cases e : k = j
      · subst e; exact .inl rfl
      · exact .inr ⟨k, by omega, by omega, rfl⟩
theorem colS_mem {l : List St4} {O : Int} {N : Nat} : ∀ {c i : Nat} {s : St4}, s ∈ colS l O N c i ↔ ∃ f k, i ≤ f ∧ f < i + c ∧ k < N ∧ s = cellS l O f k
  | 0, i, s => by simp [colS]; intros; omega
  | c + 1, i, s => by
    simp only [colS, List.mem_append, rowS_mem, colS_mem (c := c) (i := i + 1)]
    constructor
    · rintro (⟨k, h1, h2, rfl⟩ | ⟨f, k, h1, h2, h3, rfl⟩)
      · exact ⟨i, k, by omega, by omega, by omega, rfl⟩
      · exact ⟨f, k, by omega, by omega, h3, rfl⟩
    · rintro ⟨f, k, h1, h2, h3, rfl⟩
      by_cases e : f = i
      · subst e; exact .inl ⟨k, by omega, by omega, rfl⟩
      · exact .inr ⟨f, k, by omega, by omega, h3, rfl⟩
theorem rowS_up (l : List St4) (O : Int) (f : Nat) : ∀ c j, (rowS l O f c j).Pairwise ltS
  | 0, j => List.Pairwise.nil
  | c + 1, j => by
    unfold rowS
    refine List.pairwise_cons.2 ⟨fun s hs => ?_, rowS_up l O f c (j + 1)⟩
    obtain ⟨k, h1, h2, rfl⟩ := rowS_mem.1 hs
    have a := cellS_key (l := l) (O := O) (f := f) (j := j)
    have b := cellS_key (l := l) (O := O) (f := f) (j := k)
    unfold ltS; omega
theorem colS_up (l : List St4) (O : Int) (N : Nat) : ∀ c i, (colS l O N c i).Pairwise ltS
  | 0, i => List.Pairwise.nil
  | c + 1, i => by
    unfold colS
    refine List.pairwise_append.2 ⟨rowS_up l O i N 0, colS_up l O N c (i + 1), fun s hs t ht => ?_⟩
    obtain ⟨k, h1, h2, rfl⟩ := rowS_mem.1 hs
    obtain ⟨f, k', h3, h4, h5, rfl⟩ := colS_mem.1 ht
    have a := cellS_key (l := l) (O := O) (f := i) (j := k)
    have b := cellS_key (l := l) (O := O) (f := f) (j := k')
    unfold ltS; omega
theorem compl_ok {S N O T : Int} {l : List St4} (ok : MaOk S N O T l) (hO : O < 8) : MaOk S N (O + 1) T (complS l S N O) := by
  obtain ⟨s1, s2⟩ := ok.s
  obtain ⟨n1, n2⟩ := ok.n
  obtain ⟨o1, o2⟩ := ok.o
  have hcl := complS_len l S N O
  have hm : S.toNat * N.toNat ≤ 40 * 8 := Nat.mul_le_mul (by omega) (by omega)
  have hcast : ((S.toNat * N.toNat : Nat) : Int) = S * N := by
    rw [Int.natCast_mul, show ((S.toNat : Nat) : Int) = S by omega, show ((N.toNat : Nat) : Int) = N by omega]
  refine ⟨ok.s, ok.n, by omega, ok.t, by rw [hcl, hcast]; exact Int.le_refl _, by omega, fun x hx => ?_, colS_up l O N.toNat S.toNat 0⟩
  obtain ⟨f, k, h1, h2, h3, rfl⟩ := colS_mem.1 hx
  obtain ⟨a, b⟩ := cellS_key (l := l) (O := O) (f := f) (j := k)
  have hr : 0 ≤ (cellS l O f k).t ∧ (cellS l O f k).t < S ∧ 0 ≤ (cellS l O f k).o ∧ (cellS l O f k).o < O + 1 := by
    unfold cellS
    cases hs : stp l f k with
    | none => simp only; omega
    | some s =>
      have := ok.mem s (stp_some hs).1
      simp only; omega
  omega
theorem compl_stp {S N O T : Int} {l : List St4} (ok : MaOk S N O T l) (hO : O < 8) {f n : Nat} (hf : f < S.toNat) (hn : n < N.toNat) : stp (complS l S N O) f n = some (cellS l O f n) := by
  have h := stp_of (compl_ok ok hO).up (s := cellS l O f n) (colS_mem.2 ⟨f, n, by omega, by omega, hn, rfl⟩)
  obtain ⟨a, b⟩ := cellS_key (l := l) (O := O) (f := f) (j := n)
  rw [a, b] at h
  exact h
theorem compl_sr1 {S N O T S' T' : Int} {l l' : List St4} (ok : MaOk S N O T l) (ok' : MaOk S' N O T' l') (hO : O < 8) {x : Pr} {n : Nat} {u : List Pr} (h : PI S S' u) (hx : x ∈ u) (hn : n < N.toNat) :
    sr1 (complS l S N O) (complS l' S' N O) x n u = sr1 l l' x n u := by
  obtain ⟨a, b, w⟩ := x
  have hr := h.rng _ hx
  simp only at hr
  obtain ⟨p, rfl⟩ : ∃ p : Nat, a = p := ⟨a.toNat, by omega⟩
  obtain ⟨q, rfl⟩ : ∃ q : Nat, b = q := ⟨b.toNat, by omega⟩
  have e1 := compl_stp ok hO (f := p) (n := n) (by omega) hn
  have e2 := compl_stp ok' hO (f := q) (n := n) (by omega) hn
  have hin : inn (p : Int) (q : Int) u = true := by
    unfold inn
    rw [List.any_eq_true]
    exact ⟨_, hx, by simp [isPr]⟩
  unfold sr1
  simp only [e1, e2]
  unfold cellS
  cases h1 : stp l p n with
  | none =>
    cases h2 : stp l' q n with
    | none => simp [hin]
    | some s' =>
      have := ok'.mem s' (stp_some h2).1
      simp only
      rw [if_neg (by omega)]
  | some s =>
    have hs := ok.mem s (stp_some h1).1
    cases h2 : stp l' q n with
    | none =>
      simp only
      rw [if_neg (by omega)]
    | some s' => rfl
theorem compl_srK {S N O T S' T' : Int} {l l' : List St4} (ok : MaOk S N O T l) (ok' : MaOk S' N O T' l') (hO : O < 8) {x : Pr} : ∀ {c n : Nat} {u : List Pr}, PI S S' u → x ∈ u → n + c ≤ N.toNat →
    srK (complS l S N O) (complS l' S' N O) x c n u = srK l l' x c n u
  | 0, n, u, _, _, _ => rfl
  | c + 1, n, u, h, hx, hn => by
    unfold srK
    rw [compl_sr1 ok ok' hO h hx (by omega)]
    cases he : sr1 l l' x n u with
    | inr w => rfl
    | inl u' =>
      obtain ⟨g1, v, rfl⟩ := sr1_ok ok ok' h hx he
      exact compl_srK ok ok' hO g1 (List.mem_append_left _ hx) (by omega)
theorem compl_srO {S N O T S' T' : Int} {l l' : List St4} (ok : MaOk S N O T l) (ok' : MaOk S' N O T' l') (hO : O < 8) : ∀ {F i : Nat} {u : List Pr}, PI S S' u →
    srO (complS l S N O) (complS l' S' N O) N.toNat F i u = srO l l' N.toNat F i u
  | 0, i, u, _ => rfl
  | F + 1, i, u, h => by
    unfold srO
    cases hx : u[i]? with
    | none => rfl
    | some x =>
      have hxm := List.mem_of_getElem? hx
      simp only
      rw [compl_srK ok ok' hO h hxm (by omega)]
      cases he : srK l l' x N.toNat 0 u with
      | inr w => rfl
      | inl u' => exact compl_srO ok ok' hO (srK_ok ok ok' h hxm he).1
theorem compl_search {S N O T S' T' : Int} {l l' : List St4} (ok : MaOk S N O T l) (ok' : MaOk S' N O T' l') (hO : O < 8) : searchM (complS l S N O) (complS l' S' N O) N T T' = searchM l l' N T T' := by
  obtain ⟨s1, s2⟩ := ok.s
  obtain ⟨s3, s4⟩ := ok'.s
  exact compl_srO ok ok' hO (pi0 (by omega) (by omega) ok.t ok'.t)
theorem difT_ok {S N O T S' O' T' : Int} {l l' : List St4} (ok : MaOk S N O T l) (ok' : MaOk S' N O' T' l') : difT S N O T l S' N O' T' l' = resD (searchM l l' N T T') := by
  unfold difT difE
  rw [ok.err, ok'.err, if_pos rfl]; simp [orI]
end Go.Proofs.YtahifpeggdcamaaDoor
