/- A part of an interpreter of the model's code that is proved sound, and of laws told by it: DamO2. -/
import Derived.Test.YtahifpeggdcamaaDoorPmI1
set_option linter.unusedVariables false
set_option linter.unusedSimpArgs false
/- What holds of an unfolded machine: its steps are the moves, its states the configurations. -/
namespace Go.Proofs.YtahifpeggdcamaaDoor
open Go.Dam
set_option linter.unusedVariables false
set_option linter.unusedSimpArgs false
/-- A configuration within its bounds. -/
structure AtP (m : Mo) (a : List Int) : Prop where
  len : a.length = m.vs.length + 1
  at0 : within (a.getD 0 0) 0 (w1 m.s) = true
  vs : ∀ (j : Nat) (h : j < m.vs.length), within (a.getD (j + 1) 0) m.vs[j].lo m.vs[j].hi = true
theorem inAll_of : ∀ {vs : List Va} {l : List Int}, (∀ (j : Nat) (h : j < vs.length), within (l.getD j 0) vs[j].lo vs[j].hi = true) → inAll vs l = true
  | [], l, _ => by cases l <;> rfl
  | v :: vs, [], _ => rfl
  | v :: vs, n :: l, h => by
    unfold inAll
    rw [Bool.and_eq_true]
    refine ⟨h 0 (by simp), inAll_of fun j hj => ?_⟩
    have := h (j + 1) (by simpa using hj)
    exact this
theorem AtP.err {m : Mo} {a : List Int} (h : AtP m a) : atErr m a = 0 := by
  unfold atErr atIn
  rw [if_pos h.len, h.at0, Bool.true_and, inAll_of, if_pos rfl]
  intro j hj
  have := h.vs j hj
  rw [show (a.drop 1).getD j 0 = a.getD (j + 1) 0 by simp [List.getD_eq_getElem?_getD, Nat.add_comm]]
  exact this
theorem getD_set (l : List Int) (i j : Nat) (n : Int) : (l.set i n).getD j 0 = if i = j ∧ i < l.length then n else l.getD j 0 := by
  simp only [List.getD_eq_getElem?_getD, List.getElem?_set]
  by_cases h : i = j
  · subst h
    by_cases h2 : i < l.length
    · simp [h2]
    · simp [h2]
  · simp [h]
theorem sets_ok {m : Mo} {a : List Int} {d : Int} : ∀ {ss : List Se} {out r : List Int}, (∀ s ∈ ss, 0 ≤ s.v) → AtP m out → setsS m.vs a d ss out = some r → AtP m r
  | [], out, r, _, h, he => by simp only [setsS, Option.some.injEq] at he; rw [← he]; exact h
  | s :: l, out, r, hs, h, he => by
    unfold setsS at he
    split at he
    · rename_i hin
      refine sets_ok (fun x hx => hs x (by simp [hx])) ?_ he
      have h0 := hs s (by simp)
      unfold inV at hin
      split at hin
      · rename_i x hx
        obtain ⟨hv, hxe⟩ := List.getElem?_eq_some_iff.1 hx
        refine ⟨by rw [List.length_set]; exact h.len, ?_, fun j hj => ?_⟩
        · rw [getD_set, if_neg (by omega)]; exact h.at0
        · rw [getD_set]
          by_cases e : (s.v + 1).toNat = j + 1
          · rw [if_pos ⟨e, by rw [h.len]; omega⟩]
            have : s.v.toNat = j := by omega
            subst this
            rw [hxe]; exact hin
          · rw [if_neg (by omega)]; exact h.vs j hj
      · simp at hin
    · simp at he
theorem mvT_ok {m : Mo} (ok : MoOk m) {a : List Int} {d : Int} {x : Mv} (hx : x ∈ m.ms) (h : AtP m a) (he : (mvT m.vs m.o a d x).2.2 = true) : AtP m (mvT m.vs m.o a d x).1 ∧ within (mvT m.vs m.o a d x).2.1 0 (w1 m.o) = true := by
  obtain ⟨g1, g2, g3, g4⟩ := mvErr_zero (nv := m.vs.length) (by have := ok.vs; omega) (ok.mv x hx)
  unfold mvT at he ⊢
  split at he <;> rename_i c1
  · rw [if_pos c1]
    split at he <;> rename_i c2
    · rw [if_pos c2]
      cases hs : setsS m.vs a d x.ss (a.set 0 x.t) with
      | none => rw [hs] at he; simp at he
      | some r =>
        rw [hs] at he
        refine ⟨sets_ok (fun s hs' => (g1.ss s hs').1) ?_ hs, he⟩
        refine ⟨by rw [List.length_set]; exact h.len, ?_, fun j hj => ?_⟩
        · rw [getD_set, if_pos ⟨rfl, by rw [h.len]; omega⟩]; exact g3
        · rw [getD_set, if_neg (by omega)]; exact h.vs j hj
    · simp at he
  · simp at he
theorem hits_mem {vs : List Va} {O : Int} {a : List Int} {s0 d : Int} : ∀ {l : List Mv} {x}, x ∈ hits vs O a s0 d l → ∃ y ∈ l, (mvT vs O a d y).2.2 = true ∧ x = ((mvT vs O a d y).1, (mvT vs O a d y).2.1)
  | [], x, h => by simp [hits] at h
  | y :: l, x, h => by
    unfold hits at h
    split at h
    · split at h
      · rename_i h1
        rcases List.mem_cons.1 h with rfl | h
        · exact ⟨y, by simp, h1, rfl⟩
        · obtain ⟨z, hz, hh⟩ := hits_mem h; exact ⟨z, by simp [hz], hh⟩
      · obtain ⟨z, hz, hh⟩ := hits_mem h; exact ⟨z, by simp [hz], hh⟩
    · obtain ⟨z, hz, hh⟩ := hits_mem h; exact ⟨z, by simp [hz], hh⟩
theorem nxt_ok {m : Mo} (ok : MoOk m) {a : List Int} (h : AtP m a) {j : Nat} (hj : j < sigN m) (he : (nxt m a j).2.2 = 0) : AtP m (nxt m a j).1 ∧ within (nxt m a j).2.1 0 (w1 m.o) = true := by
  unfold nxt at he ⊢
  rw [List.getElem?_eq_getElem (show j < (allPs 0 m.ins).length from hj)] at he ⊢
  simp only at he ⊢
  have hm := fun x hx => hits_mem (vs := m.vs) (O := m.o) (a := a) (s0 := ((allPs 0 m.ins)[j]'hj).1) (d := ((allPs 0 m.ins)[j]'hj).2) (l := m.ms) (x := x) hx
  revert hm he
  generalize hits m.vs m.o a ((allPs 0 m.ins)[j]'hj).1 ((allPs 0 m.ins)[j]'hj).2 m.ms = L
  intro he hm
  match L, he, hm with
  | [x], _, hm =>
    obtain ⟨y, hy, h1, rfl⟩ := hm x (by simp)
    exact mvT_ok ok hy h h1
theorem nxt_code (m : Mo) (a : List Int) {j : Nat} (hj : j < sigN m) : (nxt m a j).2.2 = 0 ∨ (nxt m a j).2.2 = 23 ∨ (nxt m a j).2.2 = 35 := by
  unfold nxt
  rw [List.getElem?_eq_getElem (show j < (allPs 0 m.ins).length from hj)]
  simp only
  generalize hits m.vs m.o a ((allPs 0 m.ins)[j]'hj).1 ((allPs 0 m.ins)[j]'hj).2 m.ms = L
  match L with
  | [] => exact .inr (.inl rfl)
  | [x] => exact .inl rfl
  | x :: y :: l => exact .inr (.inr rfl)
theorem firstS_ok {m : Mo} (ok : MoOk m) : AtP m (firstS m) := by
  refine ⟨firstS_len m, by simpa [firstS] using ok.st, fun j hj => ?_⟩
  have := (ok.va _ (List.getElem_mem hj)).2.2
  simpa [firstS, List.getD_eq_getElem?_getD, hj] using this
/-! ### the invariant -/
def gA (u : U) (a : Nat) : List Int := u.1.getD a []
def Good (m : Mo) (u : U) (a j : Nat) : Prop :=
  ((nxt m (gA u a) j).2.2 = 23 ∧ stp u.2 a j = none) ∨
  ((nxt m (gA u a) j).2.2 = 0 ∧ ∃ t : Nat, t < u.1.length ∧ stp u.2 a j = some ⟨a, j, (nxt m (gA u a) j).2.1, t⟩ ∧ gA u t = (nxt m (gA u a) j).1)
def befK (i k : Nat) (a j : Nat) : Prop := a < i ∨ (a = i ∧ j < k)
structure UG (m : Mo) (i k : Nat) (u : U) : Prop where
  rows : ∀ s ∈ u.1, AtP m s
  good : ∀ a j, a < u.1.length → j < sigN m → befK i k a j → Good m u a j
  bef : ∀ s ∈ u.2, ∃ a j t : Nat, s.f = a ∧ s.i = j ∧ s.t = t ∧ a < u.1.length ∧ t < u.1.length ∧ j < sigN m ∧ within s.o 0 (w1 m.o) = true ∧ befK i k a j
  up : u.2.Pairwise ltS
theorem gA_app {u : U} {x : List (List Int)} {y : List St4} {a : Nat} (h : a < u.1.length) : gA (u.1 ++ x, y) a = gA u a := by
  simp [gA, List.getD_eq_getElem?_getD, List.getElem?_append_left h]
theorem stp_app {l : List St4} {s : St4} {f n : Int} : stp (l ++ [s]) f n = match stp l f n with
    | some x => some x
    | none => if hit f n s then some s else none := by
  unfold stp
  rw [List.find?_append]
  cases List.find? (hit f n) l with
  | some x => rfl
  | none =>
    cases h : hit f n s with
    | true => simp [h]
    | false => simp [h]
theorem Good.grow {m : Mo} {u : U} {a j : Nat} (h : Good m u a j) (ha : a < u.1.length) (x : List (List Int)) {s : St4} (hne : hit a j s = false) : Good m (u.1 ++ x, u.2 ++ [s]) a j := by
  unfold Good at h ⊢
  rw [gA_app ha]
  rcases h with ⟨h1, h2⟩ | ⟨h1, t, h2, h3, h4⟩
  · refine .inl ⟨h1, ?_⟩
    rw [stp_app, h2]; simp [hne]
  · refine .inr ⟨h1, t, by simp; omega, ?_, ?_⟩
    · rw [stp_app, h3]
    · rw [gA_app h2]; exact h4
theorem UG.none {m : Mo} {i k : Nat} {u : U} (h : UG m i k u) : stp u.2 i k = none := by
  cases hs : stp u.2 i k with
  | none => rfl
  | some s =>
    obtain ⟨h1, h2, h3⟩ := stp_some hs
    obtain ⟨a, j, t, e1, e2, _, _, _, _, _, hb⟩ := h.bef s h1
    unfold befK at hb
    omega
theorem UG.push {m : Mo} {i k : Nat} {u : U} (h : UG m i k u) (hi : i < u.1.length) (hk : k < sigN m) (h0 : (nxt m (gA u i) k).2.2 = 0) (ho : within (nxt m (gA u i) k).2.1 0 (w1 m.o) = true) (x : List (List Int)) (hx : ∀ s ∈ x, AtP m s) {t : Nat} (ht : t < u.1.length + x.length)
    (hg : gA (u.1 ++ x, u.2) t = (nxt m (gA u i) k).1) : UG m i (k + 1) (u.1 ++ x, u.2 ++ [⟨i, k, (nxt m (gA u i) k).2.1, t⟩]) := by
  refine ⟨fun s hs => ?_, fun a j ha hj hb => ?_, fun s hs => ?_, ?_⟩
  · rcases List.mem_append.1 hs with hs | hs
    · exact h.rows s hs
    · exact hx s hs
  · by_cases e : a = i ∧ j = k
    · obtain ⟨rfl, rfl⟩ := e
      have hn := h.none
      unfold Good
      rw [gA_app hi]
      refine .inr ⟨h0, t, by simpa using ht, ?_, hg⟩
      rw [stp_app, hn]
      simp [hit]
    · have hb' : befK i k a j := by unfold befK at hb ⊢; omega
      have ha' : a < u.1.length := by unfold befK at hb'; omega
      refine (h.good a j ha' hj hb').grow ha' x ?_
      cases hh : hit (a : Int) (j : Int) ⟨i, k, (nxt m (gA u i) k).2.1, t⟩ with
      | false => rfl
      | true =>
        rw [hit_iff] at hh
        simp only at hh
        exact absurd ⟨by omega, by omega⟩ e
  · rcases List.mem_append.1 hs with hs | hs
    · obtain ⟨a, j, t', e1, e2, e3, e4, e5, e6, e7, e8⟩ := h.bef s hs
      exact ⟨a, j, t', e1, e2, e3, by simp; omega, by simp; omega, e6, e7, by unfold befK at e8 ⊢; omega⟩
    · rw [List.mem_singleton.1 hs]
      exact ⟨i, k, t, rfl, rfl, rfl, by simp; omega, by simpa using ht, hk, ho, by unfold befK; omega⟩
  · rw [List.pairwise_append]
    refine ⟨h.up, by simp, fun s hs y hy => ?_⟩
    rw [List.mem_singleton.1 hy]
    obtain ⟨a, j, t', e1, e2, e3, e4, e5, e6, e7, e8⟩ := h.bef s hs
    unfold ltS befK at *
    simp only
    omega
theorem unf1_good {m : Mo} (ok : MoOk m) {i k : Nat} {u u' : U} (h : UG m i k u) (hi : i < u.1.length) (hk : k < sigN m) (he : unf1 m i k u = .inl u') : UG m i (k + 1) u' := by
  have hai : AtP m (gA u i) := by
    have : gA u i = u.1[i] := by simp [gA, List.getD_eq_getElem?_getD, hi]
    rw [this]; exact h.rows _ (List.getElem_mem hi)
  unfold unf1 at he
  change (if (nxt m (gA u i) k).2.2 = 23 then _ else if (nxt m (gA u i) k).2.2 = 0 then if idx (fun s => decide (s = (nxt m (gA u i) k).1)) 0 u.1 < 0 then if u.1.length = 40 then _ else _ else _ else _) = _ at he
  split at he
  · rename_i h23
    cases he
    refine ⟨h.rows, fun a j ha hj hb => ?_, fun s hs => ?_, h.up⟩
    · by_cases e : a = i ∧ j = k
      · obtain ⟨rfl, rfl⟩ := e
        exact .inl ⟨h23, h.none⟩
      · exact h.good a j ha hj (by unfold befK at hb ⊢; omega)
    · obtain ⟨a, j, t', e1, e2, e3, e4, e5, e6, e7, e8⟩ := h.bef s hs
      exact ⟨a, j, t', e1, e2, e3, e4, e5, e6, e7, by unfold befK at e8 ⊢; omega⟩
  · split at he
    · rename_i h0
      obtain ⟨hat, ho⟩ := nxt_ok ok hai hk h0
      split at he
      · split at he
        · cases he
        · cases he
          refine h.push hi hk h0 ho [(nxt m (gA u i) k).1] (fun s hs => by rw [List.mem_singleton.1 hs]; exact hat) (t := u.1.length) (by simp) ?_
          simp [gA, List.getD_eq_getElem?_getD]
      · rename_i hp
        cases he
        rcases idx_cases (fun s => decide (s = (nxt m (gA u i) k).1)) u.1 0 with ⟨g, _⟩ | ⟨p, hpl, g, hpe⟩
        · rw [g] at hp; omega
        · have := h.push hi hk h0 ho [] (by simp) (t := p) (by simpa using hpl) (by
            simp only [decide_eq_true_eq] at hpe
            rw [← hpe]
            simp [gA, List.getD_eq_getElem?_getD, hpl])
          have e2 : idx (fun s => decide (s = (nxt m (u.1.getD i []) k).1)) 0 u.1 = (p : Int) := by
            have g' : idx (fun s => decide (s = (nxt m (gA u i) k).1)) 0 u.1 = (p : Int) := by rw [g]; simp
            exact g'
          rw [List.append_nil] at this
          rw [e2]
          exact this
    · cases he
theorem unfK_good {m : Mo} (ok : MoOk m) {i : Nat} : ∀ {c k n : Nat} {u u' : U}, UG m i k u → UI m n u → i < u.1.length → k + c ≤ sigN m → unfK m i c k u = .inl u' → UG m i (k + c) u'
  | 0, k, n, u, u', h, _, hi, hk, he => by unfold unfK at he; cases he; exact h
  | c + 1, k, n, u, u', h, hu, hi, hk, he => by
    unfold unfK at he
    split at he
    · cases he
    · rename_i u1 h1
      obtain ⟨g1, g2⟩ := unf1_ok hu hi (by omega) h1
      rw [show k + (c + 1) = k + 1 + c by omega]
      exact unfK_good ok (unf1_good ok h hi (by omega) h1) g1 (by omega) (by omega) he
theorem UG.nextRow {m : Mo} {i : Nat} {u : U} (h : UG m i (sigN m) u) : UG m (i + 1) 0 u :=
  ⟨h.rows, fun a j ha hj hb => h.good a j ha hj (by unfold befK at hb ⊢; omega), fun s hs => by
    obtain ⟨a, j, t', e1, e2, e3, e4, e5, e6, e7, e8⟩ := h.bef s hs
    exact ⟨a, j, t', e1, e2, e3, e4, e5, e6, e7, by unfold befK at e8 ⊢; omega⟩, h.up⟩
theorem unfO_good {m : Mo} (ok : MoOk m) : ∀ {F i : Nat} {u u' : U}, 40 - i < F → i ≤ u.1.length → UG m i 0 u → UI m (i * sigN m) u → unfO m F i u = .inl u' → UG m u'.1.length 0 u' ∧ UI m (u'.1.length * sigN m) u' ∧ u.1.length ≤ u'.1.length ∧ (∀ a, a < u.1.length → gA u' a = gA u a)
  | 0, i, u, u', hF, _, _, _, _ => by omega
  | F + 1, i, u, u', hF, hil, h, hu, he => by
    have hle := hu.le
    unfold unfO at he
    split at he
    · rename_i hi
      split at he
      · cases he
      · rename_i u1 h1
        obtain ⟨g1, g2⟩ := unfK_ok hu hi (by omega) h1
        have g3 := unfK_good ok h hu hi (by omega) h1
        rw [Nat.zero_add] at g3
        have keep : ∀ {c k n : Nat} {u u' : U}, UI m n u → i < u.1.length → k + c ≤ sigN m → unfK m i c k u = .inl u' → ∀ a, a < u.1.length → gA u' a = gA u a := by
          intro c
          induction c with
          | zero => intro k n u u' _ _ _ he a _; unfold unfK at he; cases he; rfl
          | succ c ih =>
            intro k n u u' hu hi hk he a ha
            unfold unfK at he
            split at he
            · cases he
            · rename_i u2 h2
              obtain ⟨q1, q2⟩ := unf1_ok hu hi (by omega) h2
              rw [ih (k := k + 1) q1 (by omega) (by omega) he a (by omega)]
              unfold unf1 at h2
              split at h2
              · cases h2; rfl
              · split at h2
                · split at h2
                  · split at h2
                    · cases h2
                    · cases h2; exact gA_app ha
                  · cases h2; rfl
                · cases h2
        obtain ⟨f1, f2, f3, f4⟩ := unfO_good ok (i := i + 1) (by omega) (by omega) g3.nextRow (by rw [Nat.succ_mul]; exact g1) he
        exact ⟨f1, f2, by omega, fun a ha => by rw [f4 a (by omega), keep hu hi (by omega) h1 a ha]⟩
    · cases he
      have : i = u.1.length := by omega
      subst this
      exact ⟨h, hu, by omega, fun _ _ => rfl⟩
/-- All that holds of an unfolding. -/
structure UF (m : Mo) (u : U) : Prop where
  rows : ∀ a, a < u.1.length → AtP m (gA u a)
  good : ∀ a j, a < u.1.length → j < sigN m → Good m u a j
  first : gA u 0 = firstS m
  pos : 1 ≤ u.1.length ∧ u.1.length ≤ 40
  ma : MaOk (u.1.length : Int) (sigN m : Int) m.o 0 u.2
theorem sig_pos {m : Mo} (ok : MoOk m) : 1 ≤ sigN m ∧ sigN m ≤ 8 := by
  have h1 : sigN m = tot m.ins := allPs_len _ _
  have h2 := ok.tot
  refine ⟨?_, by omega⟩
  have h3 := ok.ins
  have h4 := ok.insN
  cases hi : m.ins with
  | nil => exact absurd hi h3
  | cons n l =>
    have := h4 n (by simp [hi])
    rw [h1, hi]; simp only [tot]; omega
theorem unf_final {m : Mo} (h0 : (moErr m).2 = 0) {u : U} (he : unfM m = .inl u) : UF m u := by
  have ok := moOk_of h0
  unfold unfM at he
  rw [if_pos h0] at he
  have start : UG m 0 0 ([firstS m], []) := ⟨fun s hs => by rw [List.mem_singleton.1 hs]; exact firstS_ok ok, fun a j _ _ hb => by unfold befK at hb; omega, by simp, List.Pairwise.nil⟩
  obtain ⟨f1, f2, f3, f4⟩ := unfO_good ok (by omega) (by simp) start (ui0 m) he
  have hle := f2.le
  obtain ⟨p1, p2⟩ := sig_pos ok
  have hp : 1 ≤ u.1.length := by simpa using f3
  have hst := f2.st
  have hm : u.1.length * sigN m ≤ 40 * 8 := Nat.mul_le_mul hle p2
  have ho := ok.o
  rw [within_iff] at ho
  refine ⟨fun a ha => ?_, fun a j ha hj => f1.good a j ha hj (.inl ha), ?_, ⟨hp, hle⟩, ⟨by omega, by omega, by omega, by omega, ?_, by omega, fun x hx => ?_, f1.up⟩⟩
  · have : gA u a = u.1[a] := by simp [gA, List.getD_eq_getElem?_getD, ha]
    rw [this]; exact f1.rows _ (List.getElem_mem ha)
  · rw [f4 0 (by simp)]; rfl
  · have : ((u.2.length : Nat) : Int) ≤ ((u.1.length * sigN m : Nat) : Int) := by omega
    rwa [Int.natCast_mul] at this
  · obtain ⟨a, j, t, e1, e2, e3, e4, e5, e6, e7, _⟩ := f1.bef x hx
    rw [within_iff, show w1 m.o = m.o - 1 by unfold w1; rw [wrapI ⟨by omega, by omega⟩]] at e7
    omega
/-! ### runs and answers -/
theorem run_ans {m : Mo} {u : U} (h : UF m u) : ∀ (w : List Int) (a : Nat) (out : List Int), (∀ n ∈ w, 0 ≤ n ∧ n < (sigN m : Int)) → a < u.1.length →
    runS m (gA u a) w out = (out ++ (ansS u.2 a w).1, if (ansS u.2 a w).1.length = w.length then 0 else 23)
  | [], a, out, _, _ => by simp [runS, ansS]
  | n :: w, a, out, hw, ha => by
    obtain ⟨n1, n2⟩ := hw n (by simp)
    have hg := h.good a n.toNat ha (by omega)
    unfold Good at hg
    rw [show ((n.toNat : Nat) : Int) = n by omega] at hg
    rcases hg with ⟨h1, h2⟩ | ⟨h1, t, h2, h3, h4⟩
    · unfold runS ansS
      rw [if_neg (by omega), h1, h2]
      simp
    · have ih := run_ans h w t (out ++ [(nxt m (gA u a) n.toNat).2.1]) (fun x hx => hw x (by simp [hx])) h2
      unfold runS ansS
      rw [if_pos h1, ← h4, ih, h3]
      simp
end Go.Proofs.YtahifpeggdcamaaDoor
