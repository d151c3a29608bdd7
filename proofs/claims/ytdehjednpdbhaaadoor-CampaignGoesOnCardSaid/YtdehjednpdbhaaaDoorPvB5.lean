/- A part of an interpreter of the model's code that is proved sound, and of laws told by it: DamStep9, DamStep10. -/
import Derived.Test.YtdehjednpdbhaaaDoorPvB4
set_option linter.unusedVariables false
set_option linter.unusedSimpArgs false
/- Stores into the call's own rows. -/
namespace Go.Dam
open Go.RowKit
set_option linter.unusedVariables false
set_option linter.unusedSimpArgs false

section
variable {C : Tab} {P : Program} {w0 : World} {Gin G : Nat → Prop} {gb : Nat → Nat} {fr : Fr} {ts : Array Value} {w : World} {ds : List Deferred} {r : AV} {Q : Exit → Act → World → Prop}
variable {dst : Option Nat} {type : Nat} {pos : String} {after : Array Edge} {guard : Option (Nat × Bool)} {K : Fr → Option AV} {call : Nat → List AV → Option AV}

theorem cellM_roOwn {m : Md} (h : roOwn m) : cellM m = true := by cases m <;> first | rfl | exact h.elim
theorem at_ro {m : Md} (h : allRo m) (j : Nat) : m.at j = .ro := by
  cases m with
  | uni o => exact h
  | cells l => exact h j
  | _ => exact h.elim

theorem RepM.sc_one {X : St} {m : Md} {v x : Value} (h : RepM X m v (.sc x)) : v.oneCell' = true := by
  cases m with
  | unk => simp [RepM] at h
  | uni o =>
    rcases h with h | ⟨_, _, _, _, e, _⟩
    · exact RepO.one h
    · simp at e
  | cells l => obtain ⟨_, _, _, e, _⟩ := h; simp at e
  | tup l => obtain ⟨_, _, _, e, _⟩ := h; simp at e
  | adr o off => obtain ⟨_, _, _, _, e, _⟩ := h; simp at e
  | elem q i off => obtain ⟨_, _, _, _, _, _, _, _, _, _, _, _, e, _⟩ := h; simp at e
  | loc d off => obtain ⟨_, _, _, e⟩ := h; simp at e
  | fn g caps => obtain ⟨_, _, e, _⟩ := h; simp at e
  | mapAt d => obtain ⟨_, _, _, e⟩ := h; simp at e

/-- A value that is frozen on its way into a row. -/
theorem giv_cells (h : Inv C w0 Gin G gb fr ts w) (ok : Tab.Ok C P) {T : Nat} {v : Operand} {cs : List AV} (hcs : cellsOf C T (ev C fr T v).1 = some cs) (hfl : flatOk C T cs = true) {m' : Md} {fr1 : Fr} (hg : giv false fr (normM C T (ev C fr T v).2) = some (m', fr1)) :
    ∃ G1 z s b, C.info T = some (z, s, b) ∧ Inv C w0 Gin G1 gb fr1 ts w ∧ Less G fr G1 fr1 gb ts w ∧ (({ tmps := ts, defers := ds } : Act).eval v).cells.size = s ∧ cs.length = s ∧
      ∀ j, j < s → Frz C G1 w ((({ tmps := ts, defers := ds } : Act).eval v).cells.getD j undef) (cs.getD j .undef) := by
  obtain ⟨h1, _⟩ := h.ev ok ds T v
  have hinf : ∃ z s b, C.info T = some (z, s, b) := by
    unfold cellsOf sizeC at hcs
    cases hi : C.info T with
    | none => simp [hi] at hcs
    | some i => exact ⟨i.1, i.2.1, i.2.2, rfl⟩
  obtain ⟨z, s, bb, hi⟩ := hinf
  by_cases hf : C.flat T = true
  · simp only [flatOk, hf, if_true, List.all_eq_true] at hfl
    simp only [normM, hf, if_true] at hg
    simp only [giv, givOs, Option.some.injEq, Prod.mk.injEq] at hg
    obtain ⟨rfl, rfl⟩ := hg
    have hm : cellM (ev C fr T v).2 = true ∨ cellM (ev C fr T v).2 = false := by cases cellM (ev C fr T v).2 <;> simp
    have hsc : ∀ j, j < cs.length → isSc (cs.getD j .undef) = true := fun j hj => by
      have : cs.getD j .undef = cs[j] := by simp [hj]
      rw [this]; exact hfl _ (List.getElem_mem _)
    rcases hm with hm | hm
    · obtain ⟨c1, c2, c3, _⟩ := cells_rep ok hi h1 hm hcs
      exact ⟨G, z, s, bb, hi, h, Less.refl, c1, c2, fun j hj => (c3 j hj).plain (o' := .ro) (hsc j (by omega))⟩
    · -- no cells' mark: the value is one cell, a number, a bool or a string
      obtain ⟨d, hd, hd', hag, hl, hone⟩ := isAggT_of ok hi
      unfold cellsOf at hcs
      rw [hd'] at hcs
      simp only [sizeC, hi] at hcs
      cases ha : isAggD d with
      | true =>
        rw [ha] at hcs
        simp only at hcs
        split at hcs
        case h_2 => simp at hcs
        rename_i la heq
        rw [heq] at h1
        obtain ⟨vs, hv, hla, hr⟩ := castCellsSc h1 rfl
        split at hcs
        case isFalse => simp at hcs
        rename_i hll
        simp only [Option.some.injEq] at hcs
        subst hcs
        refine ⟨G, z, s, bb, hi, h, Less.refl, by rw [hv]; show vs.size = s; omega, hll, fun j hj => ?_⟩
        obtain ⟨o, hro⟩ := hr j (by omega)
        rw [hv]
        exact hro.plain (o' := .ro) (hsc j (by omega))
      | false =>
        have hs1 := hone ha
        subst hs1
        rw [ha] at hcs
        simp only at hcs
        have hcs' : cs = [(ev C fr T v).1] := by
          split at hcs
          · simp at hcs
          · simp at hcs
          · simpa using hcs.symm
        have h0 := hsc 0 (by rw [hcs']; simp)
        rw [hcs'] at h0
        simp only [List.getD_cons_zero] at h0
        obtain ⟨u, hu⟩ := isSc_eq h0
        rw [hu] at h1
        have hv := h1.sc
        have h1c := h1.sc_one
        rw [oneCell_cells h1c]
        refine ⟨G, z, 1, bb, hi, h, Less.refl, rfl, by rw [hcs']; rfl, fun j hj => ?_⟩
        have : j = 0 := by omega
        subst this
        rw [hcs', hu]
        show Frz C G w _ (.sc u)
        have e : (#[({ tmps := ts, defers := ds } : Act).eval v].getD 0 undef) = u := by simp [hv]
        rw [e]
        exact Frz.sc u (by rw [← hv]; exact h1c)
  · simp only [normM, hf, if_false, Bool.false_eq_true] at hg
    obtain ⟨G1, i1, l1, r1, f1, q1, q2⟩ := h.giv false h1 (ev_noblk C fr T v ts ds) hg
    obtain ⟨c1, c2, c3, _⟩ := cells_rep ok hi r1 (cellM_roOwn q1) hcs
    refine ⟨G1, z, s, bb, hi, i1, l1, c1, c2, fun j hj => ?_⟩
    have := c3 j hj
    rw [at_ro (q2 rfl) j] at this
    exact this

theorem sole_spec {p : Place} (hs : fr.sole p = true) (ho : fr.ownAt p = .own) : (p.box = true ∧ p.c = 0 ∧ ∃ cs, fr.box? p.n = some cs ∧ (cs.getD p.j (.undef, .ro)).2 = .own) ∨ (p = ⟨false, p.n, 0, 0⟩ ∧ (fr.getS p.n).2 = .uni .own) := by
  obtain ⟨b, n, c, j⟩ := p
  cases b with
  | true =>
    simp only [Fr.ownAt] at ho
    split at ho
    · rename_i hb; exact .inl ⟨rfl, rfl, _, hb, ho⟩
    · simp at ho
  | false =>
    simp only [Fr.sole] at hs
    split at hs
    case h_2 => simp at hs
    rename_i o hm
    simp only [Bool.and_eq_true, beq_iff_eq] at hs
    obtain ⟨rfl, rfl⟩ := hs
    simp only [Fr.ownAt, hm, if_true, Md.home1] at ho
    subst ho
    exact .inr ⟨rfl, hm⟩

/-- A row at a home is written: its list changes, its header does not. -/
theorem Inv.setVal (h : Inv C w0 Gin G gb fr ts w) {p : Place} (hs : fr.sole p = true) (ho : fr.ownAt p = .own) {a a' : AV} {v : Value} (hp : fr.homes ts (bvOf w gb) p = some (a, v)) {g : Nat} (hgv : v.ownBlock = some g)
    {w' : World} (hw' : ∀ k, k ≠ g → w'.heap[k]? = w.heap[k]?) (hsz : w'.heap.size = w.heap.size) (hbelow : Below w0.heap.size w0 w') (hR : OwnR C G w0.heap.size w' v a') :
    Inv C w0 Gin G gb ((fr.nix (Place.eqB p)).setVal p a') ts w' ∧ (∀ q a2 u2, ((fr.nix (Place.eqB p)).setVal p a').homes ts (bvOf w' gb) q = some (a2, u2) → fr.homes ts (bvOf w gb) q = some (a2, u2) ∨ (a2 = a' ∧ u2 = v)) ∧
      (∀ d cs, ((fr.nix (Place.eqB p)).setVal p a').box? d = some cs → ∃ cs', fr.box? d = some cs') ∧ ∀ d, fr.getS d = none1 → ((fr.nix (Place.eqB p)).setVal p a').getS d = none1 := by
  obtain ⟨hgG, hgb⟩ := h.ow p a v g hp hgv
  have hn := h.nix (Place.eqB p)
  have hnh : ∀ q, (fr.nix (Place.eqB p)).homes ts (bvOf w gb) q = if p.eqB q then none else fr.homes ts (bvOf w gb) q := fun q => homes_nix _ ts _ q
  have hbx : ∀ d cs, (fr.nix (Place.eqB p)).box? d = some cs → ∃ cs', fr.box? d = some cs' := fun d cs hd => (box?_up_iff (nixF (Place.eqB p)) d).1 ⟨cs, hd⟩
  obtain ⟨hi, hh⟩ := hn.world hbelow (by omega) (fun b hb => hw' b fun e => hgG (e ▸ hb)) (fun d cs hd => hw' _ fun e => by
      obtain ⟨cs', hcs'⟩ := hbx d cs hd
      exact hgb d cs' hcs' e) (fun q a2 v2 k hq hk => hw' k fun e => by
      rw [hnh] at hq
      split at hq
      · simp at hq
      · rename_i hne
        have := h.sep p q a v a2 v2 g hp hq hgv (e ▸ hk)
        subst this
        exact hne (Place.eqB_self p))
  have hfree : ∀ q a2 u2, (fr.nix (Place.eqB p)).homes ts (bvOf w' gb) q = some (a2, u2) → u2.ownBlock ≠ some g := by
    intro q a2 u2 hq hk
    rw [hh, hnh] at hq
    split at hq
    · simp at hq
    · rename_i hne
      have := h.sep p q a v a2 u2 g hp hq hgv hk
      subst this
      exact hne (Place.eqB_self p)
  have hsub : ∀ q a2 u2, (fr.nix (Place.eqB p)).homes ts (bvOf w' gb) q = some (a2, u2) → fr.homes ts (bvOf w gb) q = some (a2, u2) := by
    intro q a2 u2 hq
    rw [hh, hnh] at hq
    split at hq
    · simp at hq
    · exact hq
  have hpn : (fr.nix (Place.eqB p)).homes ts (bvOf w' gb) p = none := by rw [hh, hnh, if_pos (Place.eqB_self p)]
  rcases sole_spec hs ho with ⟨hb, hc, cs, hcs, hown⟩ | ⟨he, hm⟩
  · obtain ⟨b, n, c, j⟩ := p
    simp only at hb hc hcs hown
    subst hb hc
    have hcs2 : (fr.nix (Place.eqB ⟨true, n, 0, j⟩)).box? n = some (upBox (nixF (Place.eqB ⟨true, n, 0, j⟩)) n 0 cs) := by
      show (fr.up _).box? n = _
      rw [box?_up, hcs]; rfl
    have hj : j < cs.length := by
      rcases Nat.lt_or_ge j cs.length with h' | h'
      · exact h'
      · rw [getD_over _ _ h'] at hown; simp at hown
    obtain ⟨⟨cc0, e0, hhp0, hl0, hr0⟩ | hB0, _, _⟩ := h.boxes n cs hcs
    rotate_left
    · exact absurd hown (hB0.noOwn j)
    have hhp0' : w.heap[gb n]? = some (.cells cc0 e0 (0, 0)) := hhp0
    obtain ⟨⟨cc, e, hhp, hl, hr⟩ | hB1, _, _⟩ := hi.boxes n _ hcs2
    rotate_left
    · obtain ⟨_, _, _, _, _, hh1, _⟩ := hB1
      have hsame : w'.heap[gb n]? = w.heap[gb n]? := hw' _ (hgb n cs hcs)
      rw [show (stOf C w0.heap.size G gb (fr.nix (Place.eqB ⟨true, n, 0, j⟩)) ts w').w = w' from rfl, hsame, hhp0'] at hh1
      cases hh1
    have hhp' : w'.heap[gb n]? = some (.cells cc e (0, 0)) := hhp
    have hsame : w'.heap[gb n]? = w.heap[gb n]? := hw' _ (hgb n cs hcs)
    rw [hhp', hhp0'] at hsame
    simp only [Option.some.injEq, Obj.cells.injEq] at hsame
    obtain ⟨rfl, rfl, _⟩ := hsame
    have hv : cc.getD j undef = v := by
      simp only [Fr.homes, hcs, homeB, if_true, hown, own?, bvOf_cell (w := w) hhp0', Option.some.injEq, Prod.mk.injEq] at hp
      exact hp.2
    have := hi.storeBox (d := n) (off := j) (cs := upBox (nixF (Place.eqB ⟨true, n, 0, j⟩)) n 0 cs) (new := [(a', .own)]) (c := cc) (c' := cc) (e := e) hcs2 hhp' (fun k h1 h2 => by
        have : k = j := by simp at h2; omega
        subst this; exact hpn) (by rw [length_upBox]; simp; omega) rfl (fun _ _ => rfl) (fun i hi => by
        have : i = 0 := by simpa using hi
        subst this
        simp only [Nat.add_zero, List.getD_cons_zero]
        rw [hv]; exact hR) (fun i k hi ho hk => by
        have : i = 0 := by simpa using hi
        subst this
        simp only [Nat.add_zero] at hk
        rw [hv, hgv] at hk
        simp only [Option.some.injEq] at hk
        subst hk
        refine ⟨hgG, fun d cs' hd => ?_, fun q a2 u2 hq => hfree q a2 u2 hq, fun j' hj' _ _ => by simp at hj'; omega⟩
        obtain ⟨cs2, hcs2⟩ := hbx d cs' hd
        exact hgb d cs2 hcs2) hhp' (fun _ _ => rfl) hbelow (Nat.le_refl _)
    simp only [Fr.setVal, hcs2]
    refine ⟨this.1, fun q a2 u2 hq => ?_, fun d cs' hd => ?_, fun d hd => getS_up_dead _ hd⟩
    · rcases this.2 q a2 u2 hq with hq | ⟨i, q1, q2, q3, q4⟩
      · exact .inl (hsub q a2 u2 hq)
      · have : i = 0 := by simpa using q1
        subst this
        exact .inr ⟨q3, by rw [q4, Nat.add_zero]; exact hv⟩
    · rw [box?_setBox] at hd
      split at hd
      · rename_i e; subst e; exact ⟨cs, hcs⟩
      · exact hbx d cs' hd
  · rw [he] at hp hpn ⊢
    simp only [Fr.homes, homeS, hm, if_true, Md.home1, own?, av1, val1, Option.some.injEq, Prod.mk.injEq] at hp
    have hlt : p.n < fr.slots.length := by
      rcases Nat.lt_or_ge p.n fr.slots.length with h' | h'
      · exact h'
      · rw [getS_over fr h'] at hm; simp [none1] at hm
    have hlen : (fr.nix (Place.eqB ⟨false, p.n, 0, 0⟩)).slots.length = fr.slots.length := length_upSlots ..
    rw [he] at hi hfree hbx
    have := hi.setS (d := p.n) (x := (a', .uni .own)) (v := v) (by rw [hlen]; exact hlt) (fun c j => by
        by_cases hcj : c = 0 ∧ j = 0
        · obtain ⟨rfl, rfl⟩ := hcj; exact hpn
        · rw [he] at hh hnh
          rw [hh, hnh]
          split
          · rfl
          · simp only [Fr.homes, homeS, hm]
            split
            · rename_i hc
              refine own?_none ?_
              simp only [Md.home1]
              rw [if_neg (fun hj => hcj ⟨hc, hj⟩)]
              simp
            · rfl) (.inl hR) (fun c j x u k hx hk => by
        have key : ∀ c j x u, homeS (.uni .own) a' v c j = some (x, u) → c = 0 ∧ j = 0 ∧ u = v := by
          intro c j x u hx
          simp only [homeS] at hx
          split at hx
          · rename_i hc
            obtain ⟨h1, h2⟩ := own?_some hx
            simp only [Md.home1] at h1
            split at h1
            · rename_i hj; cases h2; exact ⟨hc, hj, rfl⟩
            · simp at h1
          · simp at hx
        obtain ⟨rfl, rfl, rfl⟩ := key c j x u hx
        rw [hgv] at hk
        simp only [Option.some.injEq] at hk
        subst hk
        refine ⟨hgG, fun d cs' hd => ?_, fun q a2 u2 hq => hfree q a2 u2 hq, fun c' j' x' u' hx' _ => ?_⟩
        · obtain ⟨cs2, hcs2⟩ := hbx d cs' hd
          exact hgb d cs2 hcs2
        · obtain ⟨rfl, rfl, _⟩ := key c' j' x' u' hx'
          exact ⟨rfl, rfl⟩)
    have hts : ts.setIfInBounds p.n v = ts := by
      rw [← hp.2]
      apply Array.ext_getElem?
      intro i
      rw [Array.getElem?_setIfInBounds]
      split
      · rename_i hi'
        subst hi'
        have : p.n < ts.size := by rw [h.size]; exact hlt
        simp [this]
      · rfl
    rw [hts] at this
    refine ⟨this, fun q a2 u2 hq => ?_, fun d cs' hd => hbx d cs' hd, fun d hd => ?_⟩
    case refine_2 =>
      show ((fr.nix (Place.eqB ⟨false, p.n, 0, 0⟩)).setS p.n (a', .uni .own)).getS d = none1
      rw [getS_setS, if_neg]
      · exact getS_up_dead _ hd
      · rintro ⟨rfl, _⟩
        rw [hd] at hm; simp [none1] at hm
    obtain ⟨b, n, c, j⟩ := q
    rw [he] at hsub
    cases b with
    | true => exact .inl (hsub _ _ _ hq)
    | false =>
      have hq : homeS (((fr.nix (Place.eqB ⟨false, p.n, 0, 0⟩)).setS p.n (a', .uni .own)).getS n).2 (((fr.nix (Place.eqB ⟨false, p.n, 0, 0⟩)).setS p.n (a', .uni .own)).getS n).1 (ts.getD n undef) c j = some (a2, u2) := hq
      rw [getS_setS] at hq
      split at hq
      · rename_i hn
        obtain ⟨rfl, _⟩ := hn
        simp only [homeS] at hq
        split at hq
        · obtain ⟨_, h2⟩ := own?_some hq
          simp only [Prod.mk.injEq, av1, val1] at h2
          exact .inr ⟨h2.1.symm, by rw [← h2.2]; exact hp.2⟩
        · simp at hq
      · exact .inl (hsub ⟨false, n, c, j⟩ _ _ hq)
end

end Go.Dam

/- An element is written. -/
namespace Go.Dam
open Go.RowKit
set_option linter.unusedVariables false
set_option linter.unusedSimpArgs false

section
variable {C : Tab} {P : Program} {w0 : World} {Gin G : Nat → Prop} {gb : Nat → Nat} {fr : Fr} {ts : Array Value} {w : World} {ds : List Deferred} {r : AV} {Q : Exit → Act → World → Prop}
variable {dst : Option Nat} {type : Nat} {pos : String} {after : Array Edge} {guard : Option (Nat × Bool)} {K : Fr → Option AV} {call : Nat → List AV → Option AV}

theorem elemA_cell (ok : Tab.Ok C P) {e : Nat} {z : List AV} {s b : Nat} (hi : C.info e = some (z, s, b)) {cs : List AV} (hl : cs.length = s) {j : Nat} (hj : j < s) : elCell C e (elemA C e cs) j = cs.getD j .undef := by
  obtain ⟨d, hd, hd', hag, hzl, h1⟩ := isAggT_of ok hi
  unfold elCell elemA
  rw [hd']
  cases ha : isAggD d with
  | true => rfl
  | false =>
    have := h1 ha
    subst this
    have : j = 0 := by omega
    subst this
    cases cs with
    | nil => simp at hl
    | cons c cs => rfl

theorem elemOk_plain (ok : Tab.Ok C P) {e : Nat} {z : List AV} {s b : Nat} (hi : C.info e = some (z, s, b)) {cs : List AV} (hl : cs.length = s) (h : elemOk C e (elemA C e cs) = true) {j : Nat} (hj : j < s) (hz : isPlain (z.getD j .undef) = true) : isSc (cs.getD j .undef) = true := by
  obtain ⟨d, hd, hd', hag, hzl, h1⟩ := isAggT_of ok hi
  have key : ∀ (z cs : List AV) (j : Nat), plainOk z cs = true → j < z.length → j < cs.length → isPlain (z.getD j .undef) = true → isSc (cs.getD j .undef) = true := by
    intro z
    induction z with
    | nil => intro cs j _ h; simp at h
    | cons a z ih =>
      intro cs j h hj hj2 hp
      cases cs with
      | nil => simp at hj2
      | cons c cs =>
        simp only [plainOk, Bool.and_eq_true, Bool.or_eq_true, Bool.not_eq_true'] at h
        cases j with
        | zero =>
          simp only [List.getD_cons_zero] at hp ⊢
          rcases h.1 with h | h
          · rw [hp] at h; simp at h
          · exact h
        | succ j =>
          simp only [List.getD_cons_succ] at hp ⊢
          exact ih cs j h.2 (by simpa using hj) (by simpa using hj2) hp
  unfold elemOk at h
  rw [hi] at h
  cases hcs : cellsOf C e (elemA C e cs) with
  | none => rw [hcs] at h; simp at h
  | some cs' =>
  rw [hcs] at h
  simp only at h
  have hcs' : cs' = cs := by
    unfold cellsOf elemA at hcs
    rw [hd'] at hcs
    simp only [sizeC, hi] at hcs
    cases ha : isAggD d with
    | true =>
      rw [ha] at hcs
      simp only [hl, if_true, Option.some.injEq] at hcs
      exact hcs.symm
    | false =>
      have := h1 ha
      subst this
      rw [ha] at hcs
      simp only at hcs
      cases cs with
      | nil => simp at hl
      | cons c cs =>
        simp only [List.headD_cons] at hcs
        have hcn : cs = [] := by simpa using hl
        subst hcn
        split at hcs
        · simp at hcs
        · simp at hcs
        · simpa using hcs.symm
  subst hcs'
  exact key _ _ j h (by omega) (by omega) hz

theorem getD_set {α : Type} (d : α) (l : List α) (i : Nat) (x : α) (k : Nat) (hi : i < l.length) : (l.set i x).getD k d = if k = i then x else l.getD k d := by
  simp only [List.getD_eq_getElem?_getD, List.getElem?_set]
  by_cases h : i = k
  · subst h; simp [hi]
  · rw [if_neg h, if_neg (Ne.symm h)]

theorem st_storeElem (h : Inv C w0 Gin G gb fr ts w) (ok : Tab.Ok C P) {T : Nat} {x v : Operand} {cs : List AV} (hcs : cellsOf C T (ev C fr T v).1 = some cs) {p : Place} {i off : Nat} (hx : (ev C fr 0 x).2 = .elem p i off)
    {m' : Md} {fr1 : Fr} (hg : giv false fr (normM C T (ev C fr T v).2) = some (m', fr1)) (ho : fr1.ownAt p = .own) (hsole : fr1.sole p = true) {el : List AV} (hel : (ev C fr 0 x).1 = .ref el) (hle : Nat.ble (off + cs.length) el.length = true)
    {e : Nat} {l : List AV} (hl : fr1.valAt p = .sl e l) (hi : i < l.length) (hok : (elemOk C e (elemA C e (putNth el off cs)) && sizeIs C e el.length && flatOk C T cs) = true)
    (hs : K ((fr1.nix (Place.eqB p)).setVal p (.sl e (l.set i (elemA C e (putNth el off cs))))) = some r) :
    StepOk C P w0 Gin ds r Q G gb fr false ts w ⟨none, .store T x v, type, pos, after, guard⟩ K := by
  simp only [Bool.and_eq_true] at hok
  obtain ⟨⟨hok1, hok2⟩, hok3⟩ := hok
  have hle := Nat.le_of_ble_eq_true hle
  obtain ⟨hx1, _⟩ := h.ev ok ds 0 x
  obtain ⟨G1, z, s, b, hinf, i1, l1, c1, c2, c3⟩ := giv_cells (ds := ds) h ok hcs hok3 hg
  rw [hx, hel] at hx1
  obtain ⟨T', l', z', s', b', g, cap, el', hq, hi', hil', hxv, e1, hell, helj⟩ := hx1
  cases e1
  change C.info T' = _ at hi'
  -- the home in the new frame
  obtain ⟨qa, qv, hq1⟩ := ownAt_homes (ts := ts) (w := w) (gb := gb) ho
  have hq0 := l1.homes p qa qv hq1
  rw [show (stOf C w0.heap.size G gb fr ts w).ow p = fr.homes ts (bvOf w gb) p from rfl, hq0] at hq
  simp only [Option.some.injEq, Prod.mk.injEq] at hq
  obtain ⟨rfl, rfl⟩ := hq
  have hval : fr1.valAt p = .sl T' l' := by
    rcases sole_spec hsole ho with ⟨hb, hc, cs2, hcs2, hown⟩ | ⟨he, hm⟩
    · obtain ⟨bb, n, c, j⟩ := p
      simp only at hb hc hcs2 hown
      subst hb hc
      simp only [Fr.homes, hcs2, homeB, if_true, hown, own?, Option.some.injEq, Prod.mk.injEq] at hq1
      simp only [Fr.valAt, hcs2]; exact hq1.1
    · rw [he] at hq1 ⊢
      simp only [Fr.homes, homeS, hm, if_true, Md.home1, own?, av1, val1, Option.some.injEq, Prod.mk.injEq] at hq1
      simp only [Fr.valAt]; exact hq1.1
  rw [hval] at hl
  simp only [AV.sl.injEq] at hl
  obtain ⟨rfl, rfl⟩ := hl
  have hse : s' = el.length := hell.symm
  -- the row
  obtain ⟨T2, l2, z2, s2, b2, xs, e3, hi2, how, hp2, hr2⟩ := i1.own hq1
  cases e3
  rw [hi'] at hi2; cases hi2
  have how0 := how
  obtain ⟨hxl, how⟩ := how
  rcases how with ⟨e4, _⟩ | ⟨g', cap', cur, fz, e4, hgb, hgh, hfz, hcap, hcm, hcsz, hctk⟩
  · simp at e4
  cases e4
  have hoff : i * s' + off + s ≤ cur.size := by
    have h1 : (i + 1) * s' ≤ l'.length * s' := Nat.mul_le_mul_right _ (by omega)
    have h2 : l'.length * s' ≤ cap * s' := Nat.mul_le_mul_right _ hcap
    rw [Nat.add_mul] at h1; omega
  have hrun := run_storeVar (w := w) ok hinf (o := i * s' + off) hgh hfz c1 hoff fun j hj => (c3 j hj).one
  generalize hvc : (({ tmps := ts, defers := ds } : Act).eval v).cells = vc at *
  generalize hcur' : (cur.toList.take (i * s' + off) ++ vc.toList ++ cur.toList.drop (i * s' + off + s)).toArray = cur' at *
  have hsz' : cur'.size = cur.size := by rw [← hcur']; simp; omega
  have hget : ∀ j, cur'.toList[j]? = if i * s' + off ≤ j ∧ j < i * s' + off + s then vc[j - (i * s' + off)]? else cur.toList[j]? := by
    intro j
    rw [← hcur']
    simp only [List.append_assoc, List.getElem?_append, List.length_take, Array.length_toList, List.getElem?_take, Array.getElem?_toList, List.getElem?_drop, c1]
    have hm : min (i * s' + off) cur.size = i * s' + off := by omega
    rw [hm]
    by_cases h1 : j < i * s' + off
    · rw [if_pos h1, if_pos h1, if_neg (by omega)]
    · rw [if_neg h1]
      by_cases h2 : j - (i * s' + off) < s
      · rw [if_pos h2, if_pos (by omega)]
      · rw [if_neg h2, if_neg (by omega)]
        congr 1; omega
  have hgG : ¬ G1 g := (i1.ow p _ _ g hq1 rfl).1
  have hpl : (putNth el off cs).length = s' := by rw [length_putNth, hse]
  have hnl : (l'.set i (elemA C T' (putNth el off cs))).length = l'.length := by simp
  -- the row written
  have hR : OwnR C G1 w0.heap.size (w.setRow g cur') (.slice (some ⟨g, 0, none⟩) l'.length cap) (.sl T' (l'.set i (elemA C T' (putNth el off cs)))) := by
    refine ⟨T', _, z', s', b', cur'.toList.take (l'.length * s'), rfl, hi', ⟨?_, .inr ⟨g, cap, cur', fz, by rw [hnl], hgb, setRow_heap w g cur cur' T' fz hgh, by rw [hsz']; exact hfz, by rw [hnl]; exact hcap, hcm, by rw [hsz']; exact hcsz, by rw [hnl]⟩⟩, ?_, ?_⟩
    · have h2 : l'.length * s' ≤ cap * s' := Nat.mul_le_mul_right _ hcap
      rw [hnl]; simp; omega
    · intro k j hk hj hz
      rw [hnl] at hk
      rw [getD_set _ _ _ _ _ hi]
      split
      · rw [elemA_cell ok hi' hpl hj]
        exact elemOk_plain ok hi' hpl hok1 hj hz
      · exact hp2 k j hk hj hz
    · intro k j hk hj
      rw [hnl] at hk
      have hlt : k * s' + j < l'.length * s' := by
        have h1 : (k + 1) * s' ≤ l'.length * s' := Nat.mul_le_mul_right _ (by omega)
        rw [Nat.add_mul] at h1; omega
      rw [List.getElem?_take, if_pos hlt, hget]
      rw [getD_set _ _ _ _ _ hi]
      obtain ⟨c, hc, hf⟩ := hr2 k j hk hj
      rw [← hctk, List.getElem?_take, if_pos hlt] at hc
      have hfm : ∀ {u : Value} {a : AV}, Frz C G1 w u a → Frz C G1 (w.setRow g cur') u a := fun hfu => hfu.mono (fun _ h => h) fun b hb => setRow_other w g b cur' fun e => hgG (e ▸ hb)
      by_cases hin : i * s' + off ≤ k * s' + j ∧ k * s' + j < i * s' + off + s
      · -- the cell is written
        rw [if_pos hin]
        have hki : k = i := by
          rcases Nat.lt_trichotomy k i with h1 | h1 | h1
          · have : (k + 1) * s' ≤ i * s' := Nat.mul_le_mul_right _ h1
            rw [Nat.add_mul] at this; omega
          · exact h1
          · have : (i + 1) * s' ≤ k * s' := Nat.mul_le_mul_right _ h1
            rw [Nat.add_mul] at this; omega
        subst hki
        have hjj : k * s' + j - (k * s' + off) = j - off := by omega
        rw [hjj, if_pos rfl]
        have hjs : j - off < s := by omega
        refine ⟨vc.getD (j - off) undef, by simp [c1 ▸ hjs], hfm ?_⟩
        rw [elemA_cell ok hi' hpl hj, getD_putNth _ _ _ _ _ hle, if_pos (by omega)]
        exact c3 (j - off) hjs
      · rw [if_neg hin]
        refine ⟨c, hc, hfm ?_⟩
        split
        · rename_i hki
          subst hki
          rw [elemA_cell ok hi' hpl hj, getD_putNth _ _ _ _ _ hle, if_neg (by omega), helj j hj]
          exact hf
        · exact hf
  have hfin := i1.setVal hsole ho hq1 (g := g) rfl (w' := w.setRow g cur') (fun k hk => setRow_other w g k cur' hk) (by simp)
    (i1.below.trans ⟨rfl, rfl, rfl, by simp, fun k hk => setRow_other w g k cur' (by omega)⟩) hR
  unfold StepOk Oper.wp
  have hexec : (execOp ({ tmps := ts, defers := ds } : Act).eval ⟨none, .store T x v, type, pos, after, guard⟩).run P w = .ok .skip (w.setRow g cur') := by
    simp only [execOp, Instr.storeAt, hxv, Instr.sureAddr]
    simp [hrun]
  rw [hexec]
  refine ⟨G1, gb, _, ts, rfl, hfin.1, hs, ?_, fun d' _ hn => hfin.2.2.2 d' (l1.dead d' hn), undef, rfl⟩
  exact {
    size := by simp
    home := fun p' T l3 v' k hp hk hlt => by
      rcases hfin.2.1 p' _ _ hp with hp | ⟨q1, q2⟩
      · exact ⟨p', l3, v', l1.homes _ _ _ hp, hk, Nat.le_refl _⟩
      · subst q2
        simp only [AV.sl.injEq] at q1
        obtain ⟨rfl, rfl⟩ := q1
        exact ⟨p, l', _, hq0, hk, by rw [hnl]; exact Nat.le_refl _⟩
    gs := fun b' hb' _ => (l1.back b' hb').imp id fun ⟨p, a, v, h1, h2, _⟩ => ⟨p, a, v, h1, h2⟩
    box := fun n cs' hn hlt => by
      obtain ⟨c2, hc2⟩ := hfin.2.2.1 n cs' hn
      obtain ⟨c3, hc3⟩ := (l1.box n).1 ⟨c2, hc2⟩
      exact ⟨n, c3, hc3, rfl⟩
    keep := fun e => by simp at e
    far := fun k hk => by
      by_cases e : k = g
      · subst e; exact .inr (.inl ⟨p, _, _, hq0, rfl⟩)
      · exact .inl (setRow_other w g k cur' e) }
end

end Go.Dam
