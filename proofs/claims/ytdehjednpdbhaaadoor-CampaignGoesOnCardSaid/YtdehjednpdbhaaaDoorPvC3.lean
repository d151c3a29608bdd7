/- A part of an interpreter of the model's code that is proved sound, and of laws told by it: DamReg, DamReg2, DamReg3. -/
import Derived.Test.YtdehjednpdbhaaaDoorPvC2
set_option linter.unusedVariables false
set_option linter.unusedSimpArgs false
/- Regions whose order is drawn: the state of a plan under way. -/
namespace Go.Dam
open Go.RowKit
set_option linter.unusedVariables false
set_option linter.unusedSimpArgs false

theorem memN_iff {n : Nat} : ∀ {l : List Nat}, memN n l = true ↔ n ∈ l
  | [] => by simp [memN]
  | m :: l => by
    simp only [memN, Bool.or_eq_true, beq_iff_eq, List.mem_cons, memN_iff (l := l)]
    exact ⟨fun h => h.imp Eq.symm id, fun h => h.imp Eq.symm id⟩

abbrev Gh := (Place → Option (AV × Value)) × (Nat → Prop)
def SepG (ow : Place → Option (AV × Value)) : Prop := ∀ p q a v a' v' k, ow p = some (a, v) → ow q = some (a', v') → v.ownBlock = some k → v'.ownBlock = some k → p = q
/-- Own rows only grow, and what stands for something stays. -/
def Rg (C : Tab) (γ : Gh) (w : World) (γ' : Gh) (w' : World) : Prop :=
  SepG γ.1 ∧ w.heap.size ≤ w'.heap.size ∧ LiveEq C γ.2 γ.1 w w' ∧
  (∀ p' T l' v' k, γ'.1 p' = some (.sl T l', v') → v'.ownBlock = some k → k < w.heap.size → ¬ γ.2 k → ∃ p l v, γ.1 p = some (.sl T l, v) ∧ v.ownBlock = some k ∧ l.length ≤ l'.length) ∧ ∀ b, b < w.heap.size → γ'.2 b → γ.2 b

theorem Rg.refl {C : Tab} {γ : Gh} {w : World} (h : SepG γ.1) : Rg C γ w γ w :=
  ⟨h, Nat.le_refl _, LiveEq.refl _ _ _ _, fun p' T l' v' k hp hk _ _ => ⟨p', l', v', hp, hk, Nat.le_refl _⟩, fun _ _ h => h⟩
theorem Rg.trans {C : Tab} {γ γ' γ'' : Gh} {w w' w'' : World} (h : Rg C γ w γ' w') (k : Rg C γ' w' γ'' w'') : Rg C γ w γ'' w'' := by
  obtain ⟨h1, h2, h3, h4, h5⟩ := h
  obtain ⟨k1, k2, k3, k4, k5⟩ := k
  refine ⟨h1, Nat.le_trans h2 k2, fun b hb hz => ?_, fun p' T l' v' b hp hk hb hz => ?_, fun b hb hz => h5 b hb (k5 b (by omega) hz)⟩
  · have hz' : ¬ γ'.2 b := fun e => hz (h5 b hb e)
    rcases k3 b (by omega) hz' with e | ⟨p1, T, l1, v1, q1, q2, q3⟩
    · rcases h3 b hb hz with e' | ⟨p0, T, l0, v0, r1, r2, r3⟩
      · exact .inl (e.trans e')
      · exact .inr ⟨p0, T, l0, v0, r1, r2, fun z s bb hi o ho => (World.cell?_of_block (w := w') (w' := w'') (a := ⟨b, o, none⟩) e).trans (r3 z s bb hi o ho)⟩
    · obtain ⟨p0, l0, v0, r1, r2, r3⟩ := h4 p1 T l1 v1 b q1 q2 hb hz
      refine .inr ⟨p0, T, l0, v0, r1, r2, fun z s bb hi o ho => ?_⟩
      have hle : l0.length * s ≤ l1.length * s := Nat.mul_le_mul_right _ r3
      rw [q3 z s bb hi o (by omega)]
      rcases h3 b hb hz with e' | ⟨p2, T2, l2, v2, s1, s2, s3⟩
      · exact World.cell?_of_block (w := w) (w' := w') (a := ⟨b, o, none⟩) e'
      · have := h1 p2 p0 _ _ _ _ b s1 r1 s2 r2
        subst this
        rw [r1] at s1
        simp only [Option.some.injEq, Prod.mk.injEq, AV.sl.injEq] at s1
        obtain ⟨⟨rfl, rfl⟩, rfl⟩ := s1
        exact s3 z s bb hi o ho
  · obtain ⟨p1, l1, v1, q1, q2, q3⟩ := k4 p' T l' v' b hp hk (by omega) (fun e => hz (h5 b hb e))
    obtain ⟨p0, l0, v0, r1, r2, r3⟩ := h4 p1 T l1 v1 b q1 q2 hb hz
    exact ⟨p0, l0, v0, r1, r2, Nat.le_trans r3 q3⟩

section
variable {P : Program} {ops : Array Oper} {Q : Exit → Act → World → Prop} {md : Region.Mode} {C : Tab} {D : Nat → Prop}
theorem wpAnyG_ghost : ∀ (fuel : Nat) {listed : Array Bool} {γ γ' : Gh} {a : Act} {w : World}, Rg C γ w γ' w → wpAnyG P md ops Q (Rg C) D fuel listed γ' a w → wpAnyG P md ops Q (Rg C) D fuel listed γ a w
  | 0, _, _, _, _, _, _, h => h
  | fuel + 1, _, _, _, _, _, hr, h => ⟨h.1, fun i hi => wpOp_mono (fun a' w' ⟨γ'', h1, h2, h3⟩ => ⟨γ'', h1, h2.imp id fun h => hr.trans h, h3⟩) (h.2 i hi)⟩
theorem wpAnyG_done {listed : Array Bool} {γ : Gh} {a : Act} {w : World} (hr : Region.ready md ops listed = []) (h : Q .normal a w) : ∀ fuel, wpAnyG P md ops Q (Rg C) D fuel listed γ a w
  | 0 => ⟨hr, h⟩
  | _ + 1 => ⟨fun _ => h, by rw [hr]; simp⟩
end

theorem bnd_iff {o : Oper} {e : Nat} : e ∈ bnd o ↔ ∃ x ∈ o.after, Region.binds .any x = true ∧ x.on = e := by
  simp only [bnd, List.mem_map, List.mem_filter, Array.mem_toList_iff]
  constructor
  · rintro ⟨x, ⟨h1, h2⟩, rfl⟩; exact ⟨x, h1, h2, rfl⟩
  · rintro ⟨x, h1, h2, rfl⟩; exact ⟨x, ⟨h1, h2⟩, rfl⟩

/-- An operation has its turn in the rest. -/
def turn (j : Nat) (rest : List (Nat × PK)) : Prop := hasNorm j rest = true ∨ hasLate j rest = true

section
variable {ops : Array Oper}
theorem planGo_cons {done pres : List Nat} {i : Nat} {k : PK} {rest : List (Nat × PK)} (h : planGo ops done pres ((i, k) :: rest) = true) :
    ∃ o, ops[i]? = some o ∧ (∀ e ∈ bnd o, e ∈ done) ∧ i ∉ done ∧ (match k with
      | .norm => i ∉ pres ∧ (if quietOp o.op then apartAll ops i o rest && (!isLoad o.op || (stores ops rest).all (fun j => memN j (waits ops [i] rest))) else blocked ops i rest rest) = true ∧ planGo ops (i :: done) pres rest = true
      | .pre => isAlloc o.op = true ∧ i ∉ pres ∧ hasLate i rest = true ∧ (apartAll ops i o rest = true ∧ selfOk ops o = true) ∧ planGo ops done (i :: pres) rest = true
      | .late => isAlloc o.op = true ∧ i ∈ pres ∧ blocked ops i rest rest = true ∧ planGo ops (i :: done) pres rest = true) := by
  unfold planGo at h
  split at h
  · simp at h
  rename_i o ho
  simp only [Bool.and_eq_true, List.all_eq_true, Bool.not_eq_true'] at h
  obtain ⟨⟨h1, h2⟩, h3⟩ := h
  refine ⟨o, ho, fun e he => memN_iff.1 (h1 e he), fun e => ?_, ?_⟩
  · rw [memN_iff.2 e] at h2; simp at h2
  · cases k with
    | norm =>
      simp only [Bool.and_eq_true, Bool.not_eq_true'] at h3
      exact ⟨fun e => by rw [memN_iff.2 e] at h3; simp at h3, h3.1.2, h3.2⟩
    | pre =>
      simp only [Bool.and_eq_true, Bool.not_eq_true'] at h3
      exact ⟨h3.1.1.1.1.1, fun e => by rw [memN_iff.2 e] at h3; simp at h3, h3.1.1.1.2, ⟨h3.1.1.2, h3.1.2⟩, h3.2⟩
    | late =>
      simp only [Bool.and_eq_true] at h3
      exact ⟨h3.1.1.1, memN_iff.1 h3.1.1.2, h3.1.2, h3.2⟩

theorem planGo_fresh : ∀ {rest : List (Nat × PK)} {done pres : List Nat} {j : Nat}, planGo ops done pres rest = true → turn j rest → j ∉ done
  | [], done, pres, j, _, h => by rcases h with h | h <;> simp [hasNorm, hasLate] at h
  | (i, k) :: rest, done, pres, j, hp, h => by
    obtain ⟨o, ho, h1, h2, h3⟩ := planGo_cons hp
    by_cases hij : i = j
    · subst hij; exact h2
    · have hne : (i == j) = false := by simp [hij]
      cases k with
      | norm =>
        have ht : turn j rest := by
          rcases h with h | h
          · simp only [hasNorm, hne, Bool.false_or] at h; exact .inl h
          · simp only [hasLate, Bool.false_or] at h; exact .inr h
        exact fun hd => planGo_fresh h3.2.2 ht (List.mem_cons_of_mem _ hd)
      | pre =>
        have ht : turn j rest := by
          rcases h with h | h
          · simp only [hasNorm, Bool.false_or] at h; exact .inl h
          · simp only [hasLate, Bool.false_or] at h; exact .inr h
        exact planGo_fresh h3.2.2.2.2 ht
      | late =>
        have ht : turn j rest := by
          rcases h with h | h
          · simp only [hasNorm, Bool.false_or] at h; exact .inl h
          · simp only [hasLate, hne, Bool.false_or] at h; exact .inr h
        exact fun hd => planGo_fresh h3.2.2.2 ht (List.mem_cons_of_mem _ hd)
theorem planGo_norm : ∀ {rest : List (Nat × PK)} {done pres : List Nat} {j : Nat}, planGo ops done pres rest = true → hasNorm j rest = true → j ∉ pres
  | [], done, pres, j, _, h => by simp [hasNorm] at h
  | (i, k) :: rest, done, pres, j, hp, h => by
    obtain ⟨o, ho, h1, h2, h3⟩ := planGo_cons hp
    cases k with
    | norm =>
      simp only [hasNorm, Bool.or_eq_true, beq_iff_eq] at h
      rcases h with h | h
      · subst h; exact h3.1
      · exact planGo_norm h3.2.2 h
    | pre =>
      simp only [hasNorm, Bool.false_or] at h
      exact fun hd => planGo_norm h3.2.2.2.2 h (List.mem_cons_of_mem _ hd)
    | late =>
      simp only [hasNorm, Bool.false_or] at h
      exact planGo_norm h3.2.2.2 h
/-- Nothing of the rest may come up but what blocked lets. -/
theorem blocked_spec {i : Nat} {all : List (Nat × PK)} {L : Nat → Prop} (hi : ¬ L i) (hall : ∀ e, hasNorm e all = true → ¬ L e) {j : Nat} (hL : ∀ o, ops[j]? = some o → ∀ e ∈ bnd o, L e) :
    ∀ {rest : List (Nat × PK)} {done pres : List Nat}, planGo ops done pres rest = true → blocked ops i all rest = true → turn j rest → j ∈ pres
  | [], done, pres, _, _, h => by rcases h with h | h <;> simp [hasNorm, hasLate] at h
  | (m, k) :: rest, done, pres, hp, hb, h => by
    obtain ⟨o, ho, h1, h2, h3⟩ := planGo_cons hp
    simp only [blocked, Bool.and_eq_true] at hb
    have no : m = j → ((match ops[m]? with
      | none => false
      | some o => (bnd o).any fun e => e == i || hasNorm e all) = true) → False := by
      rintro rfl hq
      rw [ho] at hq
      simp only [List.any_eq_true, Bool.or_eq_true, beq_iff_eq] at hq
      obtain ⟨e, he, hq⟩ := hq
      have := hL o ho e he
      rcases hq with rfl | hq
      · exact hi this
      · exact hall e hq this
    cases k with
    | norm =>
      simp only [turn, hasNorm, hasLate, Bool.or_eq_true, beq_iff_eq, Bool.false_or] at h
      rcases h with (h | h) | h
      · exact (no h hb.1).elim
      · exact blocked_spec hi hall hL h3.2.2 hb.2 (.inl h)
      · exact blocked_spec hi hall hL h3.2.2 hb.2 (.inr h)
    | pre =>
      simp only [turn, hasNorm, hasLate, Bool.false_or] at h
      have := blocked_spec hi hall hL h3.2.2.2.2 hb.2 h
      rcases List.mem_cons.1 this with rfl | h'
      · exact (no rfl hb.1).elim
      · exact h'
    | late =>
      simp only [turn, hasNorm, hasLate, Bool.or_eq_true, beq_iff_eq, Bool.false_or] at h
      rcases h with h | h | h
      · exact blocked_spec hi hall hL h3.2.2.2 hb.2 (.inl h)
      · subst h; exact h3.2.1
      · exact blocked_spec hi hall hL h3.2.2.2 hb.2 (.inr h)

theorem apartAll_spec {i : Nat} {oi : Oper} : ∀ {rest : List (Nat × PK)} {j : Nat} {oj : Oper}, apartAll ops i oi rest = true → turn j rest → j ≠ i → ops[j]? = some oj → i ∉ bnd oj → oi.apart ops oj = true
  | [], j, oj, _, h, _, _, _ => by rcases h with h | h <;> simp [hasNorm, hasLate] at h
  | (m, k) :: rest, j, oj, ha, h, hne, ho, hb => by
    simp only [apartAll, Bool.and_eq_true] at ha
    have yes : m = j → k.isPre = false → oi.apart ops oj = true := by
      rintro rfl hk
      have := ha.1
      rw [hk, ho] at this
      simp only [Bool.false_or, Bool.or_eq_true, beq_iff_eq] at this
      rcases this with h | h | h
      · exact absurd h hne
      · exact absurd (memN_iff.1 h) hb
      · exact h
    cases k with
    | norm =>
      simp only [turn, hasNorm, hasLate, Bool.or_eq_true, beq_iff_eq, Bool.false_or] at h
      rcases h with (h | h) | h
      · exact yes h rfl
      · exact apartAll_spec ha.2 (.inl h) hne ho hb
      · exact apartAll_spec ha.2 (.inr h) hne ho hb
    | pre =>
      simp only [turn, hasNorm, hasLate, Bool.false_or] at h
      exact apartAll_spec ha.2 h hne ho hb
    | late =>
      simp only [turn, hasNorm, hasLate, Bool.or_eq_true, beq_iff_eq, Bool.false_or] at h
      rcases h with h | h | h
      · exact apartAll_spec ha.2 (.inl h) hne ho hb
      · exact yes h rfl
      · exact apartAll_spec ha.2 (.inr h) hne ho hb
theorem apartAll_tail {i : Nat} {oi : Oper} {x : Nat × PK} {rest : List (Nat × PK)} (h : apartAll ops i oi (x :: rest) = true) : apartAll ops i oi rest = true := by
  obtain ⟨m, k⟩ := x
  simp only [apartAll, Bool.and_eq_true] at h
  exact h.2

theorem waits_mono : ∀ {rest : List (Nat × PK)} {B : List Nat} {e : Nat}, e ∈ B → e ∈ waits ops B rest
  | [], B, e, h => h
  | (j, k) :: rest, B, e, h => by
    unfold waits
    split
    · exact waits_mono h
    · split
      · exact waits_mono (List.mem_cons_of_mem _ h)
      · exact waits_mono h
theorem waits_spec : ∀ {rest : List (Nat × PK)} {B : List Nat} {e : Nat}, e ∈ waits ops B rest → e ∈ B ∨ (turn e rest ∧ ∃ o, ops[e]? = some o ∧ ∃ x ∈ bnd o, x ∈ waits ops B rest)
  | [], B, e, h => .inl h
  | (j, k) :: rest, B, e, h => by
    have up : ∀ {e}, turn e rest → turn e ((j, k) :: rest) := by
      rintro e (h | h)
      · exact .inl (by simp only [hasNorm, h, Bool.or_true])
      · exact .inr (by simp only [hasLate, h, Bool.or_true])
    unfold waits at h ⊢
    split at h
    · rename_i hn
      rcases waits_spec h with h | ⟨h1, o, h2, x, h3, h4⟩
      · exact .inl h
      · exact .inr ⟨up h1, o, h2, x, h3, h4⟩
    · rename_i oj hoj
      split at h
      · rename_i hc
        rcases waits_spec h with h | ⟨h1, o, h2, x, h3, h4⟩
        · rcases List.mem_cons.1 h with rfl | h
          · simp only [Bool.and_eq_true, Bool.not_eq_true', List.any_eq_true] at hc
            obtain ⟨hk, x, hx1, hx2⟩ := hc
            refine .inr ⟨?_, oj, hoj, x, hx1, by rw [if_pos (by simp only [Bool.and_eq_true, Bool.not_eq_true', List.any_eq_true]; exact ⟨hk, x, hx1, hx2⟩)]; exact waits_mono (List.mem_cons_of_mem _ (memN_iff.1 hx2))⟩
            cases k with
            | norm => exact .inl (by simp [hasNorm])
            | late => exact .inr (by simp [hasLate])
            | pre => simp [PK.isPre] at hk
          · exact .inl h
        · exact .inr ⟨up h1, o, h2, x, h3, by rw [if_pos hc]; exact h4⟩
      · rename_i hc
        rcases waits_spec h with h | ⟨h1, o, h2, x, h3, h4⟩
        · exact .inl h
        · exact .inr ⟨up h1, o, h2, x, h3, by rw [if_neg hc]; exact h4⟩
theorem stores_spec : ∀ {rest : List (Nat × PK)} {j : Nat} {o : Oper}, turn j rest → ops[j]? = some o → isStore o.op = true → j ∈ stores ops rest
  | [], j, o, h, _, _ => by rcases h with h | h <;> simp [hasNorm, hasLate] at h
  | (m, k) :: rest, j, o, h, ho, hs => by
    have tl : turn j rest → j ∈ stores ops ((m, k) :: rest) := fun h => by
      unfold stores
      have := stores_spec h ho hs
      split
      · exact this
      · split
        · exact List.mem_cons_of_mem _ this
        · exact this
    have hd : m = j → j ∈ stores ops ((m, k) :: rest) := by
      rintro rfl
      unfold stores
      rw [ho]
      simp [hs]
    cases k with
    | norm =>
      simp only [turn, hasNorm, hasLate, Bool.or_eq_true, beq_iff_eq, Bool.false_or] at h
      rcases h with (h | h) | h
      · exact hd h
      · exact tl (.inl h)
      · exact tl (.inr h)
    | pre =>
      simp only [turn, hasNorm, hasLate, Bool.false_or] at h
      exact tl h
    | late =>
      simp only [turn, hasNorm, hasLate, Bool.or_eq_true, beq_iff_eq, Bool.false_or] at h
      rcases h with h | h | h
      · exact tl (.inl h)
      · exact hd h
      · exact tl (.inr h)
end

end Go.Dam

/- Regions whose order is drawn: the moves of a plan. -/
namespace Go.Dam
open Go.RowKit
set_option linter.unusedVariables false
set_option linter.unusedSimpArgs false

section
variable {C : Tab} {P : Program} {w0 : World} {Gin G : Nat → Prop} {gb : Nat → Nat} {fr : Fr} {ts : Array Value} {w : World} {ds : List Deferred} {r : AV} {Q : Exit → Act → World → Prop}
variable {ops : Array Oper} {call : Nat → List AV → Option AV} {Kn : Fr → Option AV}

theorem setNth_self {α : Type} (d : α) : ∀ (l : List α) (n : Nat), setNth l n (l.getD n d) = l
  | [], n => rfl
  | x :: l, 0 => rfl
  | x :: l, n + 1 => by simp only [setNth, List.getD_cons_succ, setNth_self d l n]
theorem setS_self {fr : Fr} {d : Nat} {x : AV × Md} (h : fr.getS d = x) : fr.setS d x = fr := by
  subst h
  show ({ fr with slots := setNth fr.slots d (fr.slots.getD d none1) } : Fr) = fr
  rw [setNth_self]
theorem put_dead {fr : Fr} {d : Nat} (h : fr.getS d = none1) : fr.put (some d) none1 = fr := by
  show (if (fr.getS d).2.owns then fr.nix (slotB d) else fr).setS d (if none1.2.hits (slotB d) then none1 else none1) = fr
  rw [h]
  have h1 : (none1.2).owns = false := rfl
  rw [h1, if_neg (by simp), ite_self]
  exact setS_self h

theorem wantedK_some (h : Inv C w0 Gin G gb fr ts w) {o : Oper} {K : Fr → Bool → Option AV} (hk : wantedK ops fr o K = some r) : ∃ b, Region.wanted o (yielded ops ts) = b ∧ K fr b = some r := by
  unfold wantedK at hk
  split at hk
  · rename_i hg
    exact ⟨true, by simp [Region.wanted, hg], hk⟩
  · rename_i j want hg
    split at hk
    · simp at hk
    rename_i d hd
    split at hk
    · rename_i hm
      refine ⟨false, ?_, hk⟩
      have hy : yielded ops ts j = none := by
        unfold yielded
        rw [hd]
        rcases Nat.lt_or_ge d fr.slots.length with h' | h'
        · have hs := h.slots d h'
          rw [hm] at hs
          obtain ⟨vs, la, hv, _⟩ := hs
          have h1 : d < ts.size := by rw [h.size]; exact h'
          have h2 : ts[d]? = some (.tuple vs) := by
            rw [Array.getElem?_eq_getElem h1]
            have : ts.getD d undef = ts[d] := by simp [h1]
            rw [← this, hv]
          simp [h2]
        · rw [getS_over fr h'] at hm; simp [none1] at hm
      simp only [Region.wanted, hg, hy]
      cases want <;> rfl
    obtain ⟨b, hb, hk⟩ := castB_some hk
    have hlt : d < fr.slots.length := by
      rcases Nat.lt_or_ge d fr.slots.length with h' | h'
      · exact h'
      · rw [getS_over fr h'] at hb; simp [none1] at hb
    have hs := h.slots d hlt
    rw [hb] at hs
    have hv := hs.sc
    have hy : yielded ops ts j = some b := by
      unfold yielded
      rw [hd]
      have h1 : d < ts.size := by rw [h.size]; exact hlt
      have h2 : ts[d]? = some (.bool b) := by
        rw [Array.getElem?_eq_getElem h1]
        have : ts.getD d undef = ts[d] := by simp [h1]
        rw [← this, hv]
      simp [h2]
    have hw : Region.wanted o (yielded ops ts) = (b == want) := by
      simp only [Region.wanted, hg, hy]
      cases b <;> cases want <;> rfl
    have hknow : ∀ b', (fr.getS d).1 = .sc (.bool b') → fr.know d b' = fr := fun b' hb' => setS_self (by rw [← hb'])
    cases b with
    | true =>
      simp only at hk
      rw [hknow true hb] at hk
      refine ⟨want, by rw [hw]; cases want <;> rfl, hk⟩
    | false =>
      simp only at hk
      rw [hknow false hb] at hk
      refine ⟨!want, by rw [hw]; cases want <;> rfl, hk⟩

/-- A plan under way. -/
structure RS (C : Tab) (P : Program) (w0 : World) (Gin : Nat → Prop) (ds : List Deferred) (r : AV) (ops : Array Oper) (call : Nat → List AV → Option AV) (Kn : Fr → Option AV)
    (rest : List (Nat × PK)) (done pres pd : List Nat) (pb : Nat → Nat) (listed : Array Bool) (G : Nat → Prop) (gb : Nat → Nat) (fr : Fr) (ts : Array Value) (w : World) : Prop where
  inv : Inv C w0 Gin G gb fr ts w
  run : runPlan C call ops rest fr Kn = some r
  plan : planGo ops done pres rest = true
  size : listed.size = ops.size
  list : ∀ i, i < ops.size → (listed.getD i true = true ↔ i ∈ done ∨ i ∈ pd)
  cover : ∀ i, i < ops.size → i ∈ done ∨ turn i rest
  pdl : ∀ i, i ∈ pd → i ∈ pres ∧ hasLate i rest = true
  pre : ∀ i, i ∈ pres → hasLate i rest = true → ∃ o d, ops[i]? = some o ∧ isAlloc o.op = true ∧ o.dst = some d ∧ fr.getS d = none1 ∧ (∀ e ∈ bnd o, e ∈ done) ∧ apartAll ops i o rest = true ∧ d ∉ o.looksAt ops ∧ d < ts.size ∧
    (Region.wanted o (yielded ops ts) = true → ∃ obj, RunA P ts ds o obj)
  pend : ∀ i o, i ∈ pd → ops[i]? = some o → Region.wanted o (yielded ops ts) = true → ∃ obj d, o.dst = some d ∧ RunA P ts ds o obj ∧ w.heap[pb i]? = some obj.1 ∧ w0.heap.size ≤ pb i ∧ ¬ Foot G gb fr ts w (pb i) ∧ ts.getD d undef = obj.2 (pb i)
  dist : ∀ i i' o o', i ∈ pd → i' ∈ pd → ops[i]? = some o → ops[i']? = some o' → Region.wanted o (yielded ops ts) = true → Region.wanted o' (yielded ops ts) = true → pb i = pb i' → i = i'
  dlt : ∀ i, i ∈ done → i < ops.size

/-- The blocks that came up before their turn. -/
def Zs (ops : Array Oper) (ts : Array Value) (pd : List Nat) (pb : Nat → Nat) (b : Nat) : Prop := ∃ i o, i ∈ pd ∧ ops[i]? = some o ∧ Region.wanted o (yielded ops ts) = true ∧ pb i = b

variable {rest : List (Nat × PK)} {done pres pd : List Nat} {pb : Nat → Nat} {listed : Array Bool}

theorem RS.far (h : RS C P w0 Gin ds r ops call Kn rest done pres pd pb listed G gb fr ts w) : FarZ w0 G gb fr ts w (Zs ops ts pd pb) := by
  rintro b ⟨i, o, hi, ho, hw, rfl⟩
  obtain ⟨obj, d, _, _, _, h1, h2, _⟩ := h.pend i o hi ho hw
  exact ⟨h1, h2⟩
theorem looks_put {o : Oper} {x : Option Nat} (h : ∀ d, x = some d → d ∉ o.looksAt ops) (hs : ∀ cs b, o.op ≠ .select cs b) (v : Value) :
    execOp (({ tmps := ts, defers := ds } : Act).put x v).eval o = execOp ({ tmps := ts, defers := ds } : Act).eval o ∧ Region.wanted o (yielded ops (({ tmps := ts, defers := ds } : Act).put x v).tmps) = Region.wanted o (yielded ops ts) :=
  ⟨execOp_put (ops := ops) o hs { tmps := ts, defers := ds } x v h, wanted_put (ops := ops) o { tmps := ts, defers := ds } x v h⟩
theorem alloc_noSelect {o : Oper} (h : isAlloc o.op = true) : ∀ cs b, o.op ≠ .select cs b := by
  intro cs b e
  rw [e] at h; simp [isAlloc] at h
theorem RunA.put {o : Oper} {obj : Obj × (Nat → Value)} (h : RunA P ts ds o obj) {x : Option Nat} (hx : ∀ d, x = some d → d ∉ o.looksAt ops) (hs : ∀ cs b, o.op ≠ .select cs b) (v : Value) : RunA P (({ tmps := ts, defers := ds } : Act).put x v).tmps ds o obj := by
  intro w
  have := (looks_put (ts := ts) (ds := ds) (ops := ops) hx hs v).1
  rw [← put_eta ts ds x v, this]
  exact h w

/-- Beside a block whose time has begun another operation writes elsewhere. -/
theorem RS.apart (h : RS C P w0 Gin ds r ops call Kn rest done pres pd pb listed G gb fr ts w) {i j : Nat} {oi oj : Oper} (hi : i ∈ pres) (hl : hasLate i rest = true) (hoi : ops[i]? = some oi) (hj : turn j rest) (hne : j ≠ i) (hoj : ops[j]? = some oj) (hb : ∀ e ∈ bnd oj, e ∈ done) :
    (∀ d, oi.dst = some d → oj.dst ≠ some d) ∧ ∀ d, oj.dst = some d → d ∉ oi.looksAt ops := by
  obtain ⟨o, d, h1, _, _, _, _, ha, _⟩ := h.pre i hi hl
  rw [hoi] at h1; cases h1
  have hnb : i ∉ bnd oj := fun e => planGo_fresh h.plan (.inr hl) (hb i e)
  have := Oper.apart_spec (apartAll_spec ha hj hne hoj hnb)
  exact ⟨this.2.1, this.2.2⟩

theorem turn_cons {i j : Nat} {k : PK} (hne : j ≠ i) (h : turn j ((i, k) :: rest)) : turn j rest := by
  have hne' : (i == j) = false := by simp [Ne.symm hne]
  rcases h with h | h
  · cases k <;> simp only [hasNorm, hne', Bool.false_or] at h <;> exact .inl h
  · cases k <;> simp only [hasLate, hne', Bool.false_or] at h <;> exact .inr h
theorem hasLate_cons {i j : Nat} {k : PK} (h : hasLate j rest = true) : hasLate j ((i, k) :: rest) = true := by simp only [hasLate, h, Bool.or_true]
theorem hasLate_tail {i j : Nat} {k : PK} (hne : j ≠ i) (h : hasLate j ((i, k) :: rest) = true) : hasLate j rest = true := by
  have hne' : (i == j) = false := by simp [Ne.symm hne]
  cases k <;> simp only [hasLate, hne', Bool.false_or] at h <;> exact h
theorem turn_head {i : Nat} {k : PK} (hk : k.isPre = false) : turn i ((i, k) :: rest) := by
  cases k with
  | norm => exact .inl (by simp [hasNorm])
  | late => exact .inr (by simp [hasLate])
  | pre => simp [PK.isPre] at hk

theorem size_put (ts : Array Value) (ds : List Deferred) (x : Option Nat) (v : Value) : (({ tmps := ts, defers := ds } : Act).put x v).tmps.size = ts.size := by
  cases x with
  | none => rfl
  | some d => simp [Act.put]
/-- The head of the plan has had its turn. -/
theorem RS.next {i : Nat} {k : PK} (h : RS C P w0 Gin ds r ops call Kn ((i, k) :: rest) done pres pd pb listed G gb fr ts w) (hk : k.isPre = false) (hpd : i ∉ pd) {o : Oper} (ho : ops[i]? = some o)
    {G' : Nat → Prop} {gb' : Nat → Nat} {fr' : Fr} {w' : World} {v : Value} {soft : Bool} (hi : Inv C w0 Gin G' gb' fr' (({ tmps := ts, defers := ds } : Act).put o.dst v).tmps w') (hrun : runPlan C call ops rest fr' Kn = some r)
    (hrel : StepRel C G gb fr ts w G' gb' fr' (({ tmps := ts, defers := ds } : Act).put o.dst v).tmps w' soft) (hdead : ∀ d, o.dst ≠ some d → fr.getS d = none1 → fr'.getS d = none1) :
    RS C P w0 Gin ds r ops call Kn rest (i :: done) pres pd pb (listed.setIfInBounds i true) G' gb' fr' (({ tmps := ts, defers := ds } : Act).put o.dst v).tmps w' := by
  obtain ⟨o', ho', hb, hnd, hplan⟩ := planGo_cons h.plan
  rw [ho] at ho'; cases ho'
  have hin : i < ops.size := (Array.getElem?_eq_some_iff.1 ho).1
  have hplan' : planGo ops (i :: done) pres rest = true := by
    cases k with
    | norm => exact hplan.2.2
    | late => exact hplan.2.2.2
    | pre => simp [PK.isPre] at hk
  have hlt : i < listed.size := by rw [h.size]; exact hin
  -- the others
  have hoth : ∀ j oj, j ∈ pres → hasLate j rest = true → ops[j]? = some oj → j ≠ i → (∀ d, oj.dst = some d → o.dst ≠ some d) ∧ ∀ d, o.dst = some d → d ∉ oj.looksAt ops := fun j oj hj hl hoj hne =>
    h.apart hj (hasLate_cons hl) hoj (turn_head hk) (Ne.symm hne) ho hb
  have hne : ∀ j, hasLate j rest = true → j ≠ i := fun j hl e => by
    subst e
    exact planGo_fresh hplan' (.inr hl) (List.mem_cons_self ..)
  have hpdl : ∀ j, j ∈ pd → j ∈ pres ∧ hasLate j rest = true := fun j hj => by
    obtain ⟨h1, h2⟩ := h.pdl j hj
    exact ⟨h1, hasLate_tail (i := i) (j := j) (k := k) (fun e => hpd (by rw [← e]; exact hj)) h2⟩
  have hwant : ∀ j oj, j ∈ pres → hasLate j rest = true → ops[j]? = some oj → Region.wanted oj (yielded ops (({ tmps := ts, defers := ds } : Act).put o.dst v).tmps) = Region.wanted oj (yielded ops ts) := fun j oj hj hl hoj => by
    obtain ⟨o1, d, h1, ha, _⟩ := h.pre j hj (hasLate_cons hl)
    rw [hoj] at h1; cases h1
    exact (looks_put (ts := ts) (ds := ds) (hoth j oj hj hl hoj (hne j hl)).2 (alloc_noSelect ha) v).2
  refine ⟨hi, hrun, hplan', by simpa using h.size, fun j hj => ?_, fun j hj => ?_, hpdl, fun j hj hl => ?_, fun j oj hj hoj hw => ?_, fun j j' oj oj' hj hj' hoj hoj' hw hw' hp => ?_, fun j hj => (List.mem_cons.1 hj).elim (fun e => e ▸ hin) (h.dlt j)⟩
  · by_cases e : i = j
    · subst e; simp [hlt]
    · rw [getD_set_ne true e, h.list j hj]
      simp only [List.mem_cons]
      constructor
      · rintro (h | h)
        · exact .inl (.inr h)
        · exact .inr h
      · rintro ((h | h) | h)
        · exact absurd h.symm e
        · exact .inl h
        · exact .inr h
  · by_cases e : j = i
    · subst e; exact .inl (List.mem_cons_self ..)
    · rcases h.cover j hj with h | h
      · exact .inl (List.mem_cons_of_mem _ h)
      · exact .inr (turn_cons e h)
  · obtain ⟨oj, d, h1, ha, hd, hn, hbd, hap, hself, hdl, hrunA⟩ := h.pre j hj (hasLate_cons hl)
    have hx := hoth j oj hj hl h1 (hne j hl)
    refine ⟨oj, d, h1, ha, hd, hdead d (hx.1 d hd) hn, fun e he => List.mem_cons_of_mem _ (hbd e he), apartAll_tail hap, hself, by rw [size_put]; exact hdl, fun hw => ?_⟩
    rw [hwant j oj hj hl h1] at hw
    obtain ⟨obj, hr⟩ := hrunA hw
    exact ⟨obj, hr.put hx.2 (alloc_noSelect ha) v⟩
  · obtain ⟨hjp, hjl⟩ := hpdl j hj
    rw [hwant j oj hjp hjl hoj] at hw
    obtain ⟨obj, d, hd, hr, hb1, hge, hfoot, hts⟩ := h.pend j oj hj hoj hw
    obtain ⟨o1, d1, h1, ha, _⟩ := h.pre j hjp (hasLate_cons hjl)
    rw [hoj] at h1; cases h1
    have hx := hoth j oj hjp hjl hoj (hne j hjl)
    have hlt : pb j < w.heap.size := by
      rcases Nat.lt_or_ge (pb j) w.heap.size with h' | h'
      · exact h'
      · rw [Array.getElem?_eq_none h'] at hb1; simp at hb1
    refine ⟨obj, d, hd, hr.put hx.2 (alloc_noSelect ha) v, ?_, hge, ?_, by rw [getD_put ts ds (hx.1 d hd)]; exact hts⟩
    · rcases hrel.far (pb j) hlt with e | ⟨p, a, u, hp, hk⟩ | ⟨d', cs, hd', e⟩
      · rw [e]; exact hb1
      · exact absurd (.inr (.inr ⟨p, a, u, hp, hk⟩)) hfoot
      · exact absurd (.inr (.inl ⟨d', cs, hd', e⟩)) hfoot
    · rintro (hg | ⟨d', cs, hd', e⟩ | ⟨p, a, u, hp, hk⟩)
      · rcases hrel.gs _ hg hlt with hg | hg
        · exact hfoot (.inl hg)
        · exact hfoot (.inr (.inr hg))
      · obtain ⟨d2, cs2, q1, q2⟩ := hrel.box d' cs hd' (by rw [e]; exact hlt)
        exact hfoot (.inr (.inl ⟨d2, cs2, q1, q2.trans e⟩))
      · obtain ⟨T, l, rfl⟩ := hi.own_sl hp
        obtain ⟨p0, l0, v0, q1, q2, _⟩ := hrel.home p T l u _ hp hk hlt
        exact hfoot (.inr (.inr ⟨p0, _, v0, q1, q2⟩))
  · obtain ⟨q1, q2⟩ := hpdl j hj
    obtain ⟨q3, q4⟩ := hpdl j' hj'
    rw [hwant j oj q1 q2 hoj] at hw
    rw [hwant j' oj' q3 q4 hoj'] at hw'
    exact h.dist j j' oj oj' hj hj' hoj hoj' hw hw' hp
end

end Go.Dam

/- Regions whose order is drawn: blocks before their turn. -/
namespace Go.Dam
open Go.RowKit
set_option linter.unusedVariables false
set_option linter.unusedSimpArgs false

section
variable {C : Tab} {P : Program} {w0 : World} {Gin G : Nat → Prop} {gb : Nat → Nat} {fr : Fr} {ts : Array Value} {w : World} {ds : List Deferred} {r : AV} {Q : Exit → Act → World → Prop}
variable {ops : Array Oper} {call : Nat → List AV → Option AV} {Kn : Fr → Option AV}
variable {rest : List (Nat × PK)} {done pres pd : List Nat} {pb : Nat → Nat} {listed : Array Bool}

/-- The time of a new block has begun. -/
theorem RS.begin {i : Nat} (h : RS C P w0 Gin ds r ops call Kn ((i, .pre) :: rest) done pres pd pb listed G gb fr ts w) (ok : Tab.Ok C P) : RS C P w0 Gin ds r ops call Kn rest done (i :: pres) pd pb listed G gb fr ts w := by
  obtain ⟨o, ho, hb, hnd, ha, hnp, hl, ⟨hap, hself⟩, hplan⟩ := planGo_cons h.plan
  have hrun := h.run
  simp only [runPlan, ho] at hrun
  split at hrun
  case isFalse => simp at hrun
  rename_i hdd
  obtain ⟨b, hw, hrun⟩ := wantedK_some h.inv hrun
  have hd : ∃ d, o.dst = some d ∧ fr.getS d = none1 ∧ d < ts.size := by
    unfold dstDead at hdd
    split at hdd
    · rename_i d hd
      simp only [Bool.and_eq_true, Nat.blt_eq] at hdd
      refine ⟨d, hd, ?_, by rw [h.inv.size]; exact hdd.2⟩
      have hdd := hdd.1
      revert hdd
      generalize fr.getS d = x
      intro hx
      unfold isNone1 at hx
      split at hx
      · rfl
      · simp at hx
    · simp at hdd
  obtain ⟨d, hd, hn, hdl⟩ := hd
  have hs : d ∉ o.looksAt ops := by
    unfold selfOk at hself
    rw [hd] at hself
    simpa using hself
  have htail : ∀ {j}, turn j ((i, PK.pre) :: rest) → turn j rest := fun hj => by
    rcases hj with hj | hj
    · simp only [hasNorm, Bool.false_or] at hj; exact .inl hj
    · simp only [hasLate, Bool.false_or] at hj; exact .inr hj
  have hlt : ∀ {j}, hasLate j ((i, PK.pre) :: rest) = true → hasLate j rest = true := fun hj => by
    simp only [hasLate, Bool.false_or] at hj; exact hj
  have key : runPlan C call ops rest fr Kn = some r ∧ (Region.wanted o (yielded ops ts) = true → ∃ obj, RunA P ts ds o obj) := by
    cases b with
    | true =>
      simp only at hrun
      split at hrun
      case isFalse => simp at hrun
      rename_i hp
      exact ⟨hrun, fun _ => preOk_run h.inv ok hp⟩
    | false => exact ⟨hrun, fun hw' => by rw [hw] at hw'; simp at hw'⟩
  refine ⟨h.inv, key.1, hplan, h.size, h.list, fun j hj => (h.cover j hj).imp id htail, fun j hj => ?_, fun j hj hl' => ?_, h.pend, h.dist, h.dlt⟩
  · obtain ⟨q1, q2⟩ := h.pdl j hj
    exact ⟨List.mem_cons_of_mem _ q1, hlt q2⟩
  · rcases List.mem_cons.1 hj with rfl | hj
    · exact ⟨o, d, ho, ha, hd, hn, hb, hap, hs, hdl, key.2⟩
    · obtain ⟨oj, dj, h1, h2, h3, h4, h5, h6, h7, h9, h8⟩ := h.pre j hj (hasLate_cons hl')
      exact ⟨oj, dj, h1, h2, h3, h4, h5, apartAll_tail h6, h7, h9, h8⟩

/-- A block comes up before its turn. -/
theorem RS.early (h : RS C P w0 Gin ds r ops call Kn rest done pres pd pb listed G gb fr ts w) {j : Nat} {o : Oper} (ho : ops[j]? = some o) (hj : j ∈ pres) (hl : hasLate j rest = true) (hpd : j ∉ pd)
    {v : Value} {w' : World} {b : Nat} (hcase : (Region.wanted o (yielded ops ts) = true ∧ ∃ obj, RunA P ts ds o obj ∧ v = obj.2 w.heap.size ∧ w' = w.alloc obj.1 ∧ b = w.heap.size) ∨ (Region.wanted o (yielded ops ts) = false ∧ w' = w)) :
    RS C P w0 Gin ds r ops call Kn rest done pres (j :: pd) (fun x => if x = j then b else pb x) (listed.setIfInBounds j true) G gb fr (({ tmps := ts, defers := ds } : Act).put o.dst v).tmps w' ∧
      fr.homes (({ tmps := ts, defers := ds } : Act).put o.dst v).tmps (bvOf w' gb) = fr.homes ts (bvOf w gb) ∧ w.heap.size ≤ w'.heap.size ∧ (∀ k, k < w.heap.size → w'.heap[k]? = w.heap[k]?) ∧
      ∀ k, k < w.heap.size → Zs ops (({ tmps := ts, defers := ds } : Act).put o.dst v).tmps (j :: pd) (fun x => if x = j then b else pb x) k → Zs ops ts pd pb k := by
  obtain ⟨o', d, h1, ha, hd, hn, hb, hap, hself, hdl, hrunA⟩ := h.pre j hj hl
  rw [ho] at h1; cases h1
  have hjn : j < ops.size := (Array.getElem?_eq_some_iff.1 ho).1
  have hjl : j < listed.size := by rw [h.size]; exact hjn
  -- the world
  have hw' : Inv C w0 Gin G gb fr ts w' ∧ fr.homes ts (bvOf w' gb) = fr.homes ts (bvOf w gb) ∧ w.heap.size ≤ w'.heap.size ∧ ∀ k, k < w.heap.size → w'.heap[k]? = w.heap[k]? := by
    rcases hcase with ⟨_, obj, _, _, rfl, _⟩ | ⟨_, rfl⟩
    · obtain ⟨i1, hh1⟩ := h.inv.alloc obj.1
      exact ⟨i1, hh1, by simp, fun k hk => Below.heap_alloc w obj.1 k hk⟩
    · exact ⟨h.inv, rfl, Nat.le_refl _, fun _ _ => rfl⟩
  obtain ⟨i1, hh1, hsz, hold⟩ := hw'
  have i2 := i1.put (some d) (x := none1) (v := v) (RepM.none1 _ _) (Fresh.of_owns rfl _ _) ds
  rw [put_dead hn] at i2
  rw [← hd] at i2
  have hhomes : fr.homes (({ tmps := ts, defers := ds } : Act).put o.dst v).tmps (bvOf w' gb) = fr.homes ts (bvOf w gb) := by
    rw [← hh1]
    funext p
    obtain ⟨bx, n, c, q⟩ := p
    cases bx with
    | true => rfl
    | false =>
      simp only [Fr.homes]
      by_cases e : n = d
      · subst e; rw [hn, homeS_none1, homeS_none1]
      · rw [getD_put ts ds (by rw [hd]; simpa using fun h => e h.symm)]
  have hfoot : ∀ k, Foot G gb fr (({ tmps := ts, defers := ds } : Act).put o.dst v).tmps w' k ↔ Foot G gb fr ts w k := by
    intro k
    unfold Foot
    rw [hhomes]
  -- the others
  have hoth : ∀ i oi, i ∈ pres → hasLate i rest = true → ops[i]? = some oi → i ≠ j → (∀ d, oi.dst = some d → o.dst ≠ some d) ∧ ∀ d, o.dst = some d → d ∉ oi.looksAt ops := fun i oi hi hl' hoi hne =>
    h.apart hi hl' hoi (.inr hl) (Ne.symm hne) ho hb
  have hlook : ∀ i oi, i ∈ pres → hasLate i rest = true → ops[i]? = some oi → ∀ d, o.dst = some d → d ∉ oi.looksAt ops := fun i oi hi hl' hoi => by
    by_cases e : i = j
    · subst e
      rw [ho] at hoi; cases hoi
      intro d' hd'
      rw [hd] at hd'; cases hd'
      exact hself
    · exact (hoth i oi hi hl' hoi e).2
  have hall : ∀ i oi, i ∈ pres → hasLate i rest = true → ops[i]? = some oi → isAlloc oi.op = true := fun i oi hi hl' hoi => by
    obtain ⟨o1, _, h1, ha1, _⟩ := h.pre i hi hl'
    rw [hoi] at h1; cases h1
    exact ha1
  have hwant : ∀ i oi, i ∈ pres → hasLate i rest = true → ops[i]? = some oi → Region.wanted oi (yielded ops (({ tmps := ts, defers := ds } : Act).put o.dst v).tmps) = Region.wanted oi (yielded ops ts) := fun i oi hi hl' hoi =>
    (looks_put (ts := ts) (ds := ds) (hlook i oi hi hl' hoi) (alloc_noSelect (hall i oi hi hl' hoi)) v).2
  have hpbs : ∀ i oi, i ∈ pd → ops[i]? = some oi → Region.wanted oi (yielded ops ts) = true → pb i < w.heap.size := fun i oi hi hoi hw => by
    obtain ⟨obj, _, _, _, hb1, _⟩ := h.pend i oi hi hoi hw
    rcases Nat.lt_or_ge (pb i) w.heap.size with h' | h'
    · exact h'
    · rw [Array.getElem?_eq_none h'] at hb1; simp at hb1
  refine ⟨⟨i2, h.run, h.plan, by simpa using h.size, fun i hi => ?_, h.cover, fun i hi => ?_, fun i hi hl' => ?_, fun i oi hi hoi hw => ?_, fun i i' oi oi' hi hi' hoi hoi' hw hw' hp => ?_, h.dlt⟩, hhomes, hsz, hold, fun k hk hz => ?_⟩
  · by_cases e : j = i
    · subst e; simp [hjl]
    · rw [getD_set_ne true e, h.list i hi]
      simp only [List.mem_cons]
      constructor
      · rintro (h | h)
        · exact .inl h
        · exact .inr (.inr h)
      · rintro (h | h | h)
        · exact .inl h
        · exact absurd h.symm e
        · exact .inr h
  · rcases List.mem_cons.1 hi with rfl | hi
    · exact ⟨hj, hl⟩
    · exact h.pdl i hi
  · obtain ⟨oi, di, q1, q2, q3, q4, q5, q6, q7, q9, q8⟩ := h.pre i hi hl'
    refine ⟨oi, di, q1, q2, q3, q4, q5, q6, q7, by rw [size_put]; exact q9, fun hw => ?_⟩
    rw [hwant i oi hi hl' q1] at hw
    obtain ⟨obj, hr⟩ := q8 hw
    exact ⟨obj, hr.put (hlook i oi hi hl' q1) (alloc_noSelect q2) v⟩
  · by_cases e : i = j
    · subst e
      rw [ho] at hoi; cases hoi
      rw [hwant i o hj hl ho] at hw
      rcases hcase with ⟨_, obj, hr, hv, hw'', rfl⟩ | ⟨hnw, _⟩
      · refine ⟨obj, d, hd, hr.put (hlook i o hj hl ho) (alloc_noSelect ha) v, ?_, ?_, ?_, ?_⟩
        · rw [if_pos rfl, hw'']; exact heap_alloc_new w obj.1
        · rw [if_pos rfl]; exact h.inv.below.size
        · rw [if_pos rfl, hfoot]
          rintro (hg | ⟨n, cs, hn', e⟩ | ⟨p, a, u, hp, hk⟩)
          · exact Nat.lt_irrefl _ (h.inv.gs _ hg)
          · have := h.inv.gb_lt hn'; rw [e] at this; exact Nat.lt_irrefl _ this
          · have := ((h.inv.own hp).lt _ hk).2; omega
        · rw [if_pos rfl, ← hv, hd]
          show (ts.setIfInBounds d v).getD d undef = v
          simp [hdl]
      · rw [hnw] at hw; simp at hw
    · have hi' : i ∈ pd := by
        rcases List.mem_cons.1 hi with h' | h'
        · exact absurd h' e
        · exact h'
      obtain ⟨q1, q2⟩ := h.pdl i hi'
      rw [hwant i oi q1 q2 hoi] at hw
      obtain ⟨obj, di, r1, r2, r3, r4, r5, r6⟩ := h.pend i oi hi' hoi hw
      have hx := hoth i oi q1 q2 hoi e
      refine ⟨obj, di, r1, r2.put (hlook i oi q1 q2 hoi) (alloc_noSelect (hall i oi q1 q2 hoi)) v, ?_, ?_, ?_, ?_⟩
      · rw [if_neg e, hold _ (hpbs i oi hi' hoi hw)]; exact r3
      · rw [if_neg e]; exact r4
      · rw [if_neg e, hfoot]; exact r5
      · rw [if_neg e, getD_put ts ds (hx.1 di r1)]; exact r6
  · have hpres : ∀ i, i ∈ j :: pd → i ∈ pres ∧ hasLate i rest = true := fun i hi => by
      rcases List.mem_cons.1 hi with rfl | hi
      · exact ⟨hj, hl⟩
      · exact h.pdl i hi
    obtain ⟨q1, q2⟩ := hpres i hi
    obtain ⟨q3, q4⟩ := hpres i' hi'
    rw [hwant i oi q1 q2 hoi] at hw
    rw [hwant i' oi' q3 q4 hoi'] at hw'
    have hbj : ∀ m om, m ∈ pd → ops[m]? = some om → Region.wanted om (yielded ops ts) = true → Region.wanted o (yielded ops ts) = true → pb m ≠ b := fun m om hm hom hwm hwo => by
      have := hpbs m om hm hom hwm
      rcases hcase with ⟨_, obj, _, _, _, rfl⟩ | ⟨hnw, _⟩
      · omega
      · rw [hnw] at hwo; simp at hwo
    by_cases e : i = j <;> by_cases e' : i' = j
    · rw [e, e']
    · subst e
      rw [ho] at hoi; cases hoi
      simp only [if_true, if_neg e'] at hp
      exact absurd hp.symm (hbj i' oi' ((List.mem_cons.1 hi').resolve_left e') hoi' hw' hw)
    · subst e'
      rw [ho] at hoi'; cases hoi'
      simp only [if_true, if_neg e] at hp
      exact absurd hp (hbj i oi ((List.mem_cons.1 hi).resolve_left e) hoi hw hw')
    · simp only [if_neg e, if_neg e'] at hp
      exact h.dist i i' oi oi' ((List.mem_cons.1 hi).resolve_left e) ((List.mem_cons.1 hi').resolve_left e') hoi hoi' hw hw' hp
  · obtain ⟨i, oi, hi, hoi, hw, hp⟩ := hz
    by_cases e : i = j
    · subst e
      rw [ho] at hoi; cases hoi
      rw [hwant i o hj hl ho] at hw
      simp only [if_true] at hp
      rcases hcase with ⟨_, obj, _, _, _, rfl⟩ | ⟨hnw, _⟩
      · omega
      · rw [hnw] at hw; simp at hw
    · have hi' := (List.mem_cons.1 hi).resolve_left e
      obtain ⟨q1, q2⟩ := h.pdl i hi'
      rw [hwant i oi q1 q2 hoi] at hw
      simp only [if_neg e] at hp
      exact ⟨i, oi, hi', hoi, hw, hp⟩
end

end Go.Dam
