/- A part of an interpreter of the model's code that is proved sound, and of laws told by it: DamInv2, DamPut, DamCut. -/
import Derived.Test.YtdehjednpdbhaaaDoorPvA2
set_option linter.unusedVariables false
set_option linter.unusedSimpArgs false
/- Marks that are forgotten or frozen, a new world, a new slot: the invariant. -/
namespace Go.Dam
open Go.RowKit
set_option linter.unusedVariables false
set_option linter.unusedSimpArgs false

section
variable {C : Tab} {w0 : World} {Gin G : Nat → Prop} {gb : Nat → Nat} {fr : Fr} {ts : Array Value} {w : World}

theorem home1_own {X : St} {m : Md} {a : AV} {v : Value} (h : Rep1 X m v a) {j : Nat} (hm : m.home1 j = .own) : OwnR X.C X.G X.base X.w (val1 m v j) (av1 m a j) := by
  cases m with
  | uni o =>
    simp only [Md.home1] at hm
    split at hm
    · subst hm
      rcases h with h | ⟨h, _⟩
      · exact h
      · simp at h
    · simp at hm
  | cells l =>
    simp only [Md.home1] at hm
    obtain ⟨vs, la, rfl, rfl, hla, hl, h⟩ := h
    have hj : j < l.length := by
      rcases Nat.lt_or_ge j l.length with h' | h'
      · exact h'
      · rw [getD_over _ _ h'] at hm; simp at hm
    have := h j hj
    rw [hm] at this
    exact this
  | unk => simp [Md.home1] at hm
  | _ => exact h.elim
theorem homeS_own {X : St} {m : Md} {a : AV} {v : Value} (h : RepM X m v a) {c j : Nat} {x : AV} {u : Value} (hm : homeS m a v c j = some (x, u)) : OwnR X.C X.G X.base X.w u x := by
  cases m with
  | uni o =>
    simp only [homeS] at hm
    split at hm
    · obtain ⟨h1, h2⟩ := own?_some hm
      cases h2
      exact home1_own (m := .uni o) h h1
    · simp at hm
  | cells l =>
    simp only [homeS] at hm
    split at hm
    · obtain ⟨h1, h2⟩ := own?_some hm
      cases h2
      exact home1_own (m := .cells l) h h1
    · simp at hm
  | tup l =>
    simp only [homeS] at hm
    obtain ⟨h1, h2⟩ := own?_some hm
    cases h2
    obtain ⟨vs, la, rfl, rfl, hl, h⟩ := h
    have hc : c < l.length := by
      rcases Nat.lt_or_ge c l.length with h' | h'
      · exact h'
      · rw [getD_over _ _ h'] at h1; simp [Md.home1] at h1
    exact home1_own (h c hc) h1
  | unk => simp [homeS, Md.home1, own?] at hm
  | adr o off => simp [homeS, Md.home1, own?] at hm
  | elem p i off => simp [homeS, Md.home1, own?] at hm
  | loc d off => simp [homeS, Md.home1, own?] at hm
  | fn g caps => simp [homeS, Md.home1, own?] at hm
  | mapAt d => simp [homeS, Md.home1, own?] at hm

theorem homeS_none1 (v : Value) (c j : Nat) : homeS none1.2 none1.1 v c j = none := by simp [homeS, none1, Md.home1, own?]
theorem getS_over (fr : Fr) {n : Nat} (h : fr.slots.length ≤ n) : fr.getS n = none1 := getD_over _ _ h
theorem bvOf_cell {w : World} {gb : Nat → Nat} {d j : Nat} {c : Array Value} {e : TypeId} (h : w.heap[gb d]? = some (.cells c e (0, 0))) : bvOf w gb d j = c.getD j undef := by
  simp [bvOf, World.cell?, h]

theorem Inv.own (h : Inv C w0 Gin G gb fr ts w) {p : Place} {a : AV} {v : Value} (hp : fr.homes ts (bvOf w gb) p = some (a, v)) : OwnR C G w0.heap.size w v a := by
  obtain ⟨b, n, c, j⟩ := p
  cases b with
  | false =>
    rcases Nat.lt_or_ge n fr.slots.length with hn | hn
    · exact homeS_own (h.slots n hn) hp
    · simp only [Fr.homes, getS_over fr hn, homeS_none1] at hp
      simp at hp
  | true =>
    simp only [Fr.homes] at hp
    cases hb : fr.box? n with
    | none => simp [hb, homeB] at hp
    | some cs =>
      rw [hb] at hp
      simp only [homeB] at hp
      split at hp
      · obtain ⟨h1, h2⟩ := own?_some hp
        obtain ⟨hB, _⟩ := h.boxes n cs hb
        rcases hB with ⟨cc, e, hh, hs, hr⟩ | hB
        rotate_left
        · exact absurd h1 (hB.noOwn j)
        have hj : j < cs.length := by
          rcases Nat.lt_or_ge j cs.length with h' | h'
          · exact h'
          · rw [getD_over _ _ h'] at h1; simp at h1
        have := hr j hj
        rw [h1] at this
        cases h2
        rw [bvOf_cell (w := w) hh]
        exact this
      · simp at hp

theorem bx_stOf {G : Nat → Prop} {base d b : Nat} : (stOf C base G gb fr ts w).bx d = some b ↔ (∃ cs, fr.box? d = some cs) ∧ gb d = b := by
  simp only [stOf]
  cases fr.box? d <;> simp

theorem Inv.up (h : Inv C w0 Gin G gb fr ts w) (F : Place → Own → Up) (G' : Nat → Prop) (hG : ∀ b, G b → G' b)
    (hG' : ∀ b, G' b → G b ∨ ∃ p a v, fr.homes ts (bvOf w gb) p = some (a, v) ∧ v.ownBlock = some b ∧ F p .own ≠ .keep)
    (k : ∀ p q f, F p (.brw q f) = .keep → F q .own = .keep)
    (z1 : ∀ p a v k, fr.homes ts (bvOf w gb) p = some (a, v) → F p .own = .froze → v.ownBlock = some k → G' k)
    (z2 : ∀ p q f, F p (.brw q f) = .froze → ∀ a v k, fr.homes ts (bvOf w gb) q = some (a, v) → v.ownBlock = some k → G' k)
    (z3 : ∀ p, F p .lent ≠ .froze) : Inv C w0 Gin G' gb (fr.up F) ts w := by
  have hbox : ∀ d cs, (fr.up F).box? d = some cs → ∃ cs', fr.box? d = some cs' ∧ cs = upBox F d 0 cs' := by
    intro d cs hd
    rw [box?_up] at hd
    cases hb : fr.box? d with
    | none => simp [hb] at hd
    | some cs' => simp [hb] at hd; exact ⟨cs', rfl, hd.symm⟩
  have hhome : ∀ p a v, (fr.up F).homes ts (bvOf w gb) p = some (a, v) → fr.homes ts (bvOf w gb) p = some (a, v) ∧ F p .own = .keep := by
    intro p a v hp
    rw [homes_up] at hp
    split at hp
    · rename_i hk; exact ⟨hp, by revert hk; cases F p .own <;> simp [isKeep]⟩
    · simp at hp
  have ok : UpOk F (stOf C w0.heap.size G gb fr ts w) (stOf C w0.heap.size G' gb (fr.up F) ts w) := {
    C := rfl, base := rfl, w := rfl, G := hG
    bx := fun d b hb => by
      obtain ⟨⟨cs, hcs⟩, hb⟩ := bx_stOf.1 hb
      exact bx_stOf.2 ⟨⟨_, by rw [box?_up, hcs]; rfl⟩, hb⟩
    ow := fun q a v hq hk => by
      show (fr.up F).homes ts (bvOf w gb) q = _
      rw [homes_up, hk]; exact hq
    own := fun q a v hq => h.own hq
    k := k, z1 := z1, z2 := z2, z3 := z3 }
  refine ⟨h.below, fun b hb => ?_, fun b hb hlt => ?_, ?_, fun n hn => ?_, fun d cs hd => ?_, fun d d' cs cs' hd hd' => ?_, fun p a v kk hp hk => ?_, fun p q a v a' v' kk hp hq => ?_⟩
  · rcases hG' b hb with hb | ⟨p, a, v, hp, hk, _⟩
    · exact h.gs b hb
    · exact ((h.own hp).lt b hk).2
  · rcases hG' b hb with hb | ⟨p, a, v, hp, hk, _⟩
    · exact h.gin b hb hlt
    · exact absurd ((h.own hp).lt b hk).1 (by omega)
  · rw [h.size]; exact (length_upSlots F fr.slots 0).symm
  · have hn' : n < fr.slots.length := by
      have : (fr.up F).slots.length = fr.slots.length := length_upSlots F fr.slots 0
      omega
    rw [getS_up]
    exact (h.slots n hn').up ok n fun c j x u hx => hx
  · obtain ⟨cs', hb, rfl⟩ := hbox d cs hd
    obtain ⟨hB, h1, h2⟩ := h.boxes d cs' hb
    refine ⟨?_, h1, fun hg => ?_⟩
    · rcases hB with ⟨cc, e, hh, hs, hr⟩ | ⟨T, l, es, n, rfl, hh, hm⟩
      · refine .inl ⟨cc, e, hh, by rw [length_upBox]; exact hs, fun j hj => ?_⟩
        rw [length_upBox] at hj
        rw [getD_upBox, Nat.zero_add, upB_av fun T l e => by have := hr j hj; rw [e] at this; exact this.noMp]
        refine (hr j hj).up ok ⟨true, d, 0, j⟩ fun ho => ?_
        change fr.homes ts (bvOf w gb) ⟨true, d, 0, j⟩ = some ((cs'.getD j (.undef, .ro)).1, cc.getD j undef)
        simp only [Fr.homes, hb, homeB, if_true, ho, own?, bvOf_cell (w := w) hh]
      · exact .inr ⟨T, l, es, n, rfl, hh, hm⟩
    · rcases hG' _ hg with hg | ⟨p, a, v, hp, hk, _⟩
      · exact h2 hg
      · exact (h.ow p a v _ hp hk).2 d cs' hb rfl
  · obtain ⟨c1, hb1, _⟩ := hbox d cs hd
    obtain ⟨c2, hb2, _⟩ := hbox d' cs' hd'
    exact h.inj d d' c1 c2 hb1 hb2
  · obtain ⟨hp', hF⟩ := hhome p a v hp
    obtain ⟨h1, h2⟩ := h.ow p a v kk hp' hk
    refine ⟨fun hg => ?_, fun d cs hd => ?_⟩
    · rcases hG' _ hg with hg | ⟨q, a', v', hq, hk', hne⟩
      · exact h1 hg
      · exact hne (h.sep p q a v a' v' kk hp' hq hk hk' ▸ hF)
    · obtain ⟨c1, hb1, _⟩ := hbox d cs hd
      exact h2 d c1 hb1
  · exact h.sep p q a v a' v' kk (hhome p a v hp).1 (hhome q a' v' hq).1

theorem nixF_keep {bad : Place → Bool} {p : Place} {o : Own} : nixF bad p o = .keep ↔ o.hits bad = false ∧ bad p = false := by
  unfold nixF; cases o.hits bad <;> cases bad p <;> simp
theorem nixF_froze {bad : Place → Bool} {p : Place} {o : Own} : nixF bad p o ≠ .froze := by
  unfold nixF; split <;> simp
theorem Inv.nix (h : Inv C w0 Gin G gb fr ts w) (bad : Place → Bool) : Inv C w0 Gin G gb (fr.nix bad) ts w :=
  h.up (nixF bad) G (fun _ h => h) (fun _ h => .inl h)
    (fun p q f hk => nixF_keep.2 ⟨rfl, (nixF_keep.1 hk).1⟩)
    (fun p a v k _ hf => absurd hf nixF_froze) (fun p q f hf => absurd hf nixF_froze) (fun p => nixF_froze)
theorem homes_nix (bad : Place → Bool) (ts : Array Value) (bv : Nat → Nat → Value) (p : Place) : (fr.nix bad).homes ts bv p = if bad p then none else fr.homes ts bv p := by
  show (fr.up _).homes ts bv p = _
  rw [homes_up]
  simp only [nixF, Own.hits, Bool.false_or]
  cases bad p <;> simp [isKeep]
theorem Inv.kill (h : Inv C w0 Gin G gb fr ts w) (p : Place) : Inv C w0 Gin G gb (fr.kill p) ts w := h.nix _
theorem homes_kill (p : Place) (ts : Array Value) (bv : Nat → Nat → Value) (q : Place) : (fr.kill p).homes ts bv q = if p.eqB q then none else fr.homes ts bv q := homes_nix _ ts bv q

def G' (G : Nat → Prop) (fr : Fr) (ts : Array Value) (bv : Nat → Nat → Value) (p : Place) (b : Nat) : Prop := G b ∨ ∃ a v, fr.homes ts bv p = some (a, v) ∧ v.ownBlock = some b
theorem frzF_keep {p q : Place} {o : Own} : frzF p q o = .keep ↔ o.meets p q = false := by unfold frzF; cases o.meets p q <;> simp
theorem frzF_froze {p q : Place} {o : Own} : frzF p q o = .froze ↔ o.meets p q = true := by unfold frzF; cases o.meets p q <;> simp
theorem Inv.freeze (h : Inv C w0 Gin G gb fr ts w) (p : Place) : Inv C w0 Gin (G' G fr ts (bvOf w gb) p) gb (fr.freeze p) ts w := by
  refine h.up (frzF p) _ (fun _ h => .inl h) (fun b hb => hb.imp id fun ⟨a, v, h1, h2⟩ => ⟨p, a, v, h1, h2, fun hc => by rw [frzF_keep] at hc; simp [Own.meets, Place.eqB_self] at hc⟩) (fun p' q f hk => ?_) (fun p' a v k hp hf hk => ?_) (fun p' q f hf a v k hp hk => ?_) (fun p' => ?_)
  · rw [frzF_keep] at hk ⊢; exact hk
  · have := Place.eqB_iff.1 (frzF_froze.1 hf); subst this
    exact .inr ⟨a, v, hp, hk⟩
  · have := Place.eqB_iff.1 (frzF_froze.1 hf); subst this
    exact .inr ⟨a, v, hp, hk⟩
  · intro hc; rw [frzF_froze] at hc; simp [Own.meets] at hc
theorem homes_freeze (p : Place) (ts : Array Value) (bv : Nat → Nat → Value) (q : Place) : (fr.freeze p).homes ts bv q = if p.eqB q then none else fr.homes ts bv q := by
  show (fr.up _).homes ts bv q = _
  rw [homes_up]
  simp only [frzF, Own.meets]
  by_cases hq : p.eqB q = true <;> simp [hq, isKeep]

/-- A world in which the frozen, the call's own and the older blocks are as they were. -/
theorem Inv.world (h : Inv C w0 Gin G gb fr ts w) {w' : World} (hb : Below w0.heap.size w0 w') (hs : w.heap.size ≤ w'.heap.size)
    (hg : ∀ b, G b → w'.heap[b]? = w.heap[b]?) (hbx : ∀ d cs, fr.box? d = some cs → w'.heap[gb d]? = w.heap[gb d]?)
    (ho : ∀ p a v k, fr.homes ts (bvOf w gb) p = some (a, v) → v.ownBlock = some k → w'.heap[k]? = w.heap[k]?) : Inv C w0 Gin G gb fr ts w' ∧ fr.homes ts (bvOf w' gb) = fr.homes ts (bvOf w gb) := by
  have hbv : fr.homes ts (bvOf w' gb) = fr.homes ts (bvOf w gb) := by
    funext p
    obtain ⟨b, n, c, j⟩ := p
    cases b with
    | false => rfl
    | true =>
      simp only [Fr.homes]
      cases hb : fr.box? n with
      | none => rfl
      | some cs =>
        have : bvOf w' gb n = bvOf w gb n := by
          funext j
          simp only [bvOf, World.cell?, hbx n cs hb]
        rw [this]
  have le : Le (stOf C w0.heap.size G gb fr ts w) (stOf C w0.heap.size G gb fr ts w') (fun _ => True) := {
    C := rfl, base := rfl, G := fun _ h => h
    low := fun b hb' => hb'.elim (hg b) fun hb' => (hb.block b hb').trans (h.below.block b hb').symm
    ow := fun q _ a v hq => ⟨by rw [← hq]; exact congrFun hbv q, fun k hk => ho q a v k hq hk⟩ }
  refine ⟨⟨hb, fun b hb => Nat.lt_of_lt_of_le (h.gs b hb) hs, h.gin, h.size, fun n hn => ?_, fun d cs hd => ?_, h.inj, ?_, ?_⟩, hbv⟩
  · refine (h.slots n hn).mono le (fun d b hb => hb) ?_ fun c j x u hx k hk => ho ⟨false, n, c, j⟩ x u k hx hk
    generalize (fr.getS n).2 = m
    have hO : ∀ o : Own, o.hit fun _ => True := fun o => by cases o <;> trivial
    have h1 : ∀ m : Md, m.hit1 fun _ => True := fun m => by cases m <;> first | exact hO _ | exact fun o _ => hO o | trivial
    cases m <;> first | exact hO _ | exact fun o _ => hO o | exact fun m _ => h1 m | trivial
  · obtain ⟨hB, h1, h2⟩ := h.boxes d cs hd
    rcases hB with ⟨cc, e, hh, hs, hr⟩ | hB
    rotate_left
    · exact ⟨.inr (hB.move rfl (hbx d cs hd)), h1, h2⟩
    refine ⟨.inl ⟨cc, e, (hbx d cs hd).trans hh, hs, fun j hj => (hr j hj).mono le ?_ fun hown => ?_⟩, h1, h2⟩
    · generalize (cs.getD j (.undef, .ro)).2 = o
      cases o <;> trivial
    · refine fun k hk => ho ⟨true, d, 0, j⟩ (cs.getD j (.undef, .ro)).1 _ k ?_ hk
      simp only [Fr.homes, hd, homeB, if_true, hown, own?, bvOf_cell (w := w) hh]
  · rw [hbv]; exact h.ow
  · rw [hbv]; exact h.sep
end

end Go.Dam

/- A slot is written. -/
namespace Go.Dam
open Go.RowKit
set_option linter.unusedVariables false
set_option linter.unusedSimpArgs false

theorem length_setNth {α : Type} : ∀ (l : List α) (n : Nat) (x : α), (setNth l n x).length = l.length
  | [], _, _ => rfl
  | _ :: l, 0, _ => rfl
  | b :: l, n + 1, x => by simp [setNth, length_setNth l n x]
theorem getD_setNth {α : Type} (d : α) : ∀ (l : List α) (n : Nat) (x : α) (i : Nat), (setNth l n x).getD i d = if i = n ∧ n < l.length then x else l.getD i d
  | [], _, _, _ => by simp [setNth]
  | b :: l, 0, x, 0 => by simp [setNth]
  | b :: l, 0, x, i + 1 => by simp [setNth]
  | b :: l, n + 1, x, 0 => by simp [setNth]
  | b :: l, n + 1, x, i + 1 => by
    have := getD_setNth d l n x i
    simp only [setNth, List.getD_cons_succ, List.length_cons, Nat.add_lt_add_iff_right, Nat.add_right_cancel_iff]
    exact this
theorem setNth_over {α : Type} : ∀ (l : List α) (n : Nat) (x : α), l.length ≤ n → setNth l n x = l
  | [], _, _, _ => rfl
  | b :: l, 0, x, h => by simp at h
  | b :: l, n + 1, x, h => by simp [setNth, setNth_over l n x (by simpa using h)]

theorem getS_setS (fr : Fr) (d n : Nat) (x : AV × Md) : (fr.setS d x).getS n = if n = d ∧ d < fr.slots.length then x else fr.getS n :=
  getD_setNth none1 fr.slots d x n
theorem box?_setS (fr : Fr) (d n : Nat) (x : AV × Md) : (fr.setS d x).box? n = fr.box? n := rfl
theorem length_setS (fr : Fr) (d : Nat) (x : AV × Md) : (fr.setS d x).slots.length = fr.slots.length := length_setNth ..

theorem Own.hit_of_hits {bad : Place → Bool} {o : Own} (h : o.hits bad = false) : o.hit fun q => bad q = false := by
  cases o <;> first | trivial | exact h
theorem Md.hit_of_hits {bad : Place → Bool} {m : Md} (h : m.hits bad = false) : m.hit fun q => bad q = false := by
  have hl : ∀ l : List Own, l.any (Own.hits bad) = false → ∀ o ∈ l, o.hit fun q => bad q = false := fun l h o ho => by
    rw [List.any_eq_false] at h
    exact Own.hit_of_hits (by simpa using h o ho)
  cases m with
  | unk => trivial
  | uni o => exact Own.hit_of_hits h
  | cells l => exact hl l h
  | tup l =>
    intro m hm
    simp only [Md.hits, List.any_eq_false] at h
    have := h m hm
    cases m with
    | uni o => exact Own.hit_of_hits (by simpa using this)
    | cells l => exact hl l (by simpa using this)
    | _ => trivial
  | adr o off => exact Own.hit_of_hits h
  | elem p i off => exact h
  | loc d off => trivial
  | fn g caps => trivial
  | mapAt d => trivial
theorem Md.hit_true (m : Md) : m.hit fun _ => True := by
  have hO : ∀ o : Own, o.hit fun _ => True := fun o => by cases o <;> trivial
  have h1 : ∀ m : Md, m.hit1 fun _ => True := fun m => by cases m <;> first | exact hO _ | exact fun o _ => hO o | trivial
  cases m <;> first | exact hO _ | exact fun o _ => hO o | exact fun m _ => h1 m | trivial
theorem Own.hit_true (o : Own) : o.hit fun _ => True := by cases o <;> trivial

theorem homeS_owns {m : Md} (h : m.owns = false) (a : AV) (v : Value) (c j : Nat) : homeS m a v c j = none := by
  have ho : ∀ o : Own, o.owns = false → o ≠ .own := fun o h e => by subst e; simp [Own.owns] at h
  have hl : ∀ l : List Own, l.any Own.owns = false → ∀ j, l.getD j .ro ≠ .own := fun l h j e => by
    rcases Nat.lt_or_ge j l.length with hj | hj
    · rw [List.any_eq_false] at h
      have h1 : l.getD j .ro = l[j] := by simp [hj]
      rw [h1] at e
      have := h _ (List.getElem_mem hj)
      rw [e] at this; simp [Own.owns] at this
    · rw [getD_over _ _ hj] at e; simp at e
  cases m with
  | uni o =>
    simp only [homeS]
    split
    · refine own?_none ?_
      simp only [Md.home1]
      split
      · exact ho o h
      · simp
    · rfl
  | cells l =>
    simp only [homeS]
    split
    · exact own?_none (hl l h j)
    · rfl
  | tup l =>
    simp only [homeS]
    refine own?_none ?_
    rcases Nat.lt_or_ge c l.length with hc | hc
    · have h1 : l.getD c (.uni .ro) = l[c] := by simp [hc]
      rw [h1]
      simp only [Md.owns, List.any_eq_false] at h
      have := h _ (List.getElem_mem hc)
      revert this
      generalize l[c] = m
      intro this
      cases m with
      | uni o =>
        simp only [Md.home1]
        split
        · exact ho o (by simpa using this)
        · simp
      | cells l => exact hl l (by simpa using this) j
      | _ => simp [Md.home1]
    · rw [getD_over _ _ hc]; simp [Md.home1]
  | unk => simp [homeS, Md.home1, own?]
  | adr o off => simp [homeS, Md.home1, own?]
  | elem p i off => simp [homeS, Md.home1, own?]
  | loc d off => simp [homeS, Md.home1, own?]
  | fn g caps => simp [homeS, Md.home1, own?]
  | mapAt d => simp [homeS, Md.home1, own?]

theorem RepM.none1 (X : St) (v : Value) : RepM X none1.2 v none1.1 := rfl

section
variable {C : Tab} {w0 : World} {Gin G : Nat → Prop} {gb : Nat → Nat} {fr : Fr} {ts : Array Value} {w : World}

/-- A value's own rows are no one else's. -/
def Fresh (G : Nat → Prop) (gb : Nat → Nat) (fr : Fr) (ts : Array Value) (w : World) (m : Md) (a : AV) (v : Value) : Prop :=
  ∀ c j x u k, homeS m a v c j = some (x, u) → u.ownBlock = some k → ¬ G k ∧ (∀ d cs, fr.box? d = some cs → gb d ≠ k) ∧
    (∀ p a' u', fr.homes ts (bvOf w gb) p = some (a', u') → u'.ownBlock ≠ some k) ∧
    ∀ c' j' x' u', homeS m a v c' j' = some (x', u') → u'.ownBlock = some k → c = c' ∧ j = j'
theorem Fresh.of_owns {m : Md} (h : m.owns = false) (a : AV) (v : Value) : Fresh G gb fr ts w m a v := by
  intro c j x u k hx
  rw [homeS_owns h] at hx; simp at hx

theorem homes_slot (bv : Nat → Nat → Value) (n c j : Nat) : fr.homes ts bv ⟨false, n, c, j⟩ = homeS (fr.getS n).2 (fr.getS n).1 (ts.getD n undef) c j := rfl

/-- A slot that no one looks at is written. -/
theorem Inv.setS (h : Inv C w0 Gin G gb fr ts w) {d : Nat} {x : AV × Md} {v : Value} (hd : d < fr.slots.length) (hno : ∀ c j, fr.homes ts (bvOf w gb) ⟨false, d, c, j⟩ = none)
    (hx : RepM (stOf C w0.heap.size G gb fr ts w) x.2 v x.1) (hf : Fresh G gb fr ts w x.2 x.1 v) : Inv C w0 Gin G gb (fr.setS d x) (ts.setIfInBounds d v) w := by
  have hts : d < ts.size := by rw [h.size]; exact hd
  have hget : ∀ n, (ts.setIfInBounds d v).getD n undef = if n = d then v else ts.getD n undef := by
    intro n
    by_cases hn : n = d
    · subst hn; simp [hts]
    · rw [if_neg hn]; simp [Array.getElem?_setIfInBounds_ne (Ne.symm hn)]
  have hS : ∀ n, (fr.setS d x).getS n = if n = d then x else fr.getS n := by
    intro n; rw [getS_setS]; simp [hd]
  have hhomes : ∀ p, (fr.setS d x).homes (ts.setIfInBounds d v) (bvOf w gb) p = if p.box = false ∧ p.n = d then homeS x.2 x.1 v p.c p.j else fr.homes ts (bvOf w gb) p := by
    rintro ⟨b, n, c, j⟩
    cases b with
    | false =>
      simp only [Fr.homes, hS, hget, true_and]
      by_cases hn : n = d <;> simp [hn]
    | true => simp [Fr.homes, box?_setS]
  have hne : ∀ p a u, fr.homes ts (bvOf w gb) p = some (a, u) → ¬ (p.box = false ∧ p.n = d) := by
    rintro ⟨b, n, c, j⟩ a u hp ⟨rfl, rfl⟩
    rw [hno] at hp; simp at hp
  have le : Le (stOf C w0.heap.size G gb fr ts w) (stOf C w0.heap.size G gb (fr.setS d x) (ts.setIfInBounds d v) w) (fun _ => True) := {
    C := rfl, base := rfl, G := fun _ h => h, low := fun _ _ => rfl
    ow := fun q _ a u hq => ⟨by
      show (fr.setS d x).homes (ts.setIfInBounds d v) (bvOf w gb) q = _
      rw [hhomes, if_neg (hne q a u hq)]; exact hq, fun _ _ => rfl⟩ }
  refine ⟨h.below, h.gs, h.gin, by simp [length_setS, h.size], fun n hn => ?_, fun e cs he => ?_, h.inj, fun p a u k hp hk => ?_, fun p q a u a' u' k hp hq hk hk' => ?_⟩
  · rw [length_setS] at hn
    rw [hS, hget]
    by_cases hnd : n = d
    · rw [if_pos hnd, if_pos hnd]
      exact hx.mono le (fun _ _ h => h) (Md.hit_true _) fun _ _ _ _ _ _ _ => rfl
    · rw [if_neg hnd, if_neg hnd]
      exact (h.slots n hn).mono le (fun _ _ h => h) (Md.hit_true _) fun _ _ _ _ _ _ _ => rfl
  · obtain ⟨⟨cc, t, hh, hs, hr⟩ | hB, h1, h2⟩ := h.boxes e cs he
    · exact ⟨.inl ⟨cc, t, hh, hs, fun j hj => (hr j hj).mono le (Own.hit_true _) fun _ _ _ => rfl⟩, h1, h2⟩
    · exact ⟨.inr (hB.move rfl rfl), h1, h2⟩
  · rw [hhomes] at hp
    split at hp
    · obtain ⟨h1, h2, _⟩ := hf p.c p.j a u k hp hk
      exact ⟨h1, h2⟩
    · exact h.ow p a u k hp hk
  · rw [hhomes] at hp hq
    split at hp
    · rename_i hpd
      split at hq
      · rename_i hqd
        obtain ⟨_, _, _, h4⟩ := hf p.c p.j a u k hp hk
        obtain ⟨h5, h6⟩ := h4 q.c q.j a' u' hq hk'
        obtain ⟨b, n, c, j⟩ := p
        obtain ⟨b', n', c', j'⟩ := q
        simp_all
      · exact absurd hk' ((hf p.c p.j a u k hp hk).2.2.1 q a' u' hq)
    · split at hq
      · exact absurd hk ((hf q.c q.j a' u' k hq hk').2.2.1 p a u hp)
      · exact h.sep p q a u a' u' k hp hq hk hk'

def slotB (d : Nat) (p : Place) : Bool := !p.box && p.n == d
theorem Inv.put (h : Inv C w0 Gin G gb fr ts w) (dst : Option Nat) {x : AV × Md} {v : Value}
    (hx : RepM (stOf C w0.heap.size G gb fr ts w) x.2 v x.1) (hf : Fresh G gb fr ts w x.2 x.1 v) (ds : List Deferred) :
    Inv C w0 Gin G gb (fr.put dst x) (({ tmps := ts, defers := ds } : Act).put dst v).tmps w := by
  cases dst with
  | none => exact h
  | some d =>
    show Inv C w0 Gin G gb ((if (fr.getS d).2.owns then fr.nix (slotB d) else fr).setS d (if x.2.hits (slotB d) then none1 else x)) (ts.setIfInBounds d v) w
    rcases Nat.lt_or_ge d fr.slots.length with hd | hd
    case inr =>
      have h1 : (fr.getS d).2.owns = false := by rw [getS_over fr hd]; rfl
      rw [h1]
      have : fr.setS d (if x.2.hits (slotB d) then none1 else x) = fr := by
        unfold Fr.setS; rw [setNth_over _ _ _ hd]
      simp only [Bool.false_eq_true, if_false, this]
      rw [Array.setIfInBounds_eq_of_size_le (by rw [h.size]; exact hd)]
      exact h
    obtain ⟨fr1, hfr1⟩ : ∃ fr1, fr1 = (if (fr.getS d).2.owns then fr.nix (slotB d) else fr) := ⟨_, rfl⟩
    rw [← hfr1]
    have hlen : fr1.slots.length = fr.slots.length := by
      rw [hfr1]; split
      · exact length_upSlots ..
      · rfl
    have hbox : ∀ e cs, fr1.box? e = some cs → ∃ cs', fr.box? e = some cs' := by
      intro e cs he
      rw [hfr1] at he
      split at he
      · rw [show fr.nix (slotB d) = fr.up (nixF (slotB d)) from rfl, box?_up] at he
        cases hb : fr.box? e with
        | none => simp [hb] at he
        | some c => exact ⟨c, rfl⟩
      · exact ⟨cs, he⟩
    have hbox' : ∀ e cs, fr.box? e = some cs → ∃ cs', fr1.box? e = some cs' := by
      intro e cs he
      rw [hfr1]
      split
      · rw [show fr.nix (slotB d) = fr.up (nixF (slotB d)) from rfl, box?_up, he]
        exact ⟨_, rfl⟩
      · exact ⟨cs, he⟩
    have hi : Inv C w0 Gin G gb fr1 ts w := by
      rw [hfr1]; split
      · exact h.nix _
      · exact h
    have hho : ∀ p, fr1.homes ts (bvOf w gb) p = if slotB d p then none else fr.homes ts (bvOf w gb) p := by
      intro p
      rw [hfr1]; split
      · exact homes_nix ..
      · rename_i ho
        split
        · rename_i hp
          obtain ⟨b, n, c, j⟩ := p
          simp only [slotB, Bool.and_eq_true, Bool.not_eq_true', beq_iff_eq] at hp
          obtain ⟨rfl, rfl⟩ := hp
          rw [homes_slot, homeS_owns (by simpa using ho)]
        · rfl
    have hno : ∀ c j, fr1.homes ts (bvOf w gb) ⟨false, d, c, j⟩ = none := by
      intro c j
      rw [hho, if_pos (by simp [slotB])]
    have hsub : ∀ p a u, fr1.homes ts (bvOf w gb) p = some (a, u) → fr.homes ts (bvOf w gb) p = some (a, u) := by
      intro p a u hp
      rw [hho] at hp
      split at hp
      · simp at hp
      · exact hp
    by_cases hh : x.2.hits (slotB d) = true
    · rw [if_pos hh]
      exact hi.setS (by rw [hlen]; exact hd) hno (RepM.none1 _ _) (Fresh.of_owns rfl _ _)
    · rw [if_neg hh]
      refine hi.setS (by rw [hlen]; exact hd) hno ?_ ?_
      · refine hx.mono (hit := fun q => slotB d q = false) ⟨rfl, rfl, fun _ h => h, fun _ _ => rfl, fun q hq a u hqa => ⟨?_, fun _ _ => rfl⟩⟩ (fun e b hb => ?_) (Md.hit_of_hits (by simpa using hh)) fun _ _ _ _ _ _ _ => rfl
        · show fr1.homes ts (bvOf w gb) q = _
          rw [hho, hq]; exact hqa
        · obtain ⟨⟨cs, hcs⟩, hb⟩ := bx_stOf.1 hb
          obtain ⟨cs', hcs'⟩ := hbox' e cs hcs
          exact bx_stOf.2 ⟨⟨cs', hcs'⟩, hb⟩
      · intro c j a u k hu hk
        obtain ⟨h1, h2, h3, h4⟩ := hf c j a u k hu hk
        refine ⟨h1, fun e cs he => ?_, fun p a' u' hp => h3 p a' u' (hsub p a' u' hp), h4⟩
        obtain ⟨cs', hcs'⟩ := hbox e cs he
        exact h2 e cs' hcs'
end

end Go.Dam

/- What a loop keeps. -/
namespace Go.Dam
open Go.RowKit
set_option linter.unusedVariables false
set_option linter.unusedSimpArgs false

theorem getD_keepSlots (keep : List Nat) : ∀ (l : List (AV × Md)) (k i : Nat), (keepSlots keep k l).getD i none1 = if memN (k + i) keep && (l.getD i none1).2.inside keep then l.getD i none1 else none1
  | [], k, i => by simp [keepSlots]
  | s :: l, k, 0 => by simp [keepSlots]
  | s :: l, k, i + 1 => by
    simp only [keepSlots, List.getD_cons_succ]
    rw [getD_keepSlots keep l (k + 1) i, show k + 1 + i = k + (i + 1) by omega]
theorem length_keepSlots (keep : List Nat) : ∀ (l : List (AV × Md)) (k : Nat), (keepSlots keep k l).length = l.length
  | [], _ => rfl
  | s :: l, k => by simp [keepSlots, length_keepSlots keep l]
theorem assoc_filter (keep : List Nat) (d : Nat) : ∀ l : List (Nat × List (AV × Own)), assoc d (l.filter fun b => memN b.1 keep) = if memN d keep then assoc d l else none
  | [] => by simp [assoc]
  | (e, c) :: l => by
    simp only [List.filter_cons]
    split
    · rename_i hm
      simp only [assoc]
      split
      · rename_i he; subst he; rw [if_pos hm]
      · exact assoc_filter keep d l
    · rename_i hm
      rw [assoc_filter keep d l]
      split
      · rename_i hd
        simp only [assoc]
        rw [if_neg]
        rintro rfl; exact hm hd
      · rfl

section
variable {C : Tab} {w0 : World} {Gin G : Nat → Prop} {gb : Nat → Nat} {fr : Fr} {ts : Array Value} {w : World}

theorem RepM.bx {X : St} {f : Nat → Option Nat} {m : Md} {v : Value} {a : AV} (h : RepM X m v a) (hl : ∀ d off, m = .loc d off → f d = X.bx d) (hmp : ∀ d, m = .mapAt d → f d = X.bx d) (hfn : ∀ g caps, m = .fn g caps → ∀ c ∈ caps, f c.1 = X.bx c.1) : RepM { X with bx := f } m v a := by
  cases m with
  | unk => exact h
  | uni o => exact h
  | cells l => exact h
  | tup l => exact h
  | adr o off => exact h
  | elem q i off => exact h
  | loc d off =>
    obtain ⟨b, h1, h2⟩ := h
    exact ⟨b, (hl d off rfl).trans h1, h2⟩
  | mapAt d =>
    obtain ⟨b, h1, h2⟩ := h
    exact ⟨b, (hmp d rfl).trans h1, h2⟩
  | fn g caps =>
    obtain ⟨h1, h2, h3⟩ := h
    refine ⟨?_, fun c hc => ?_, h3⟩
    · rw [h1]
      congr 2
      refine List.map_congr_left fun c hc => ?_
      simp [capV, hfn g caps rfl c hc]
    · obtain ⟨b, hb⟩ := h2 c hc
      exact ⟨b, (hfn g caps rfl c hc).trans hb⟩

theorem getS_forget (keep : List Nat) (n : Nat) : (fr.forget keep).getS n = if memN n keep && (fr.getS n).2.inside keep then fr.getS n else none1 := by
  have := getD_keepSlots keep fr.slots 0 n
  rw [Nat.zero_add] at this
  exact this
theorem box?_forget (keep : List Nat) (d : Nat) : (fr.forget keep).box? d = if memN d keep then fr.box? d else none := assoc_filter keep d fr.boxes

theorem inside_homeS {keep : List Nat} {m : Md} (h : ¬ m.inside keep = true) (a : AV) (v : Value) (c j : Nat) : homeS m a v c j = none := by
  cases m with
  | loc d off => simp [homeS, Md.home1, own?]
  | fn g caps => simp [homeS, Md.home1, own?]
  | mapAt d => simp [homeS, Md.home1, own?]
  | _ => simp [Md.inside] at h

theorem Inv.forget (h : Inv C w0 Gin G gb fr ts w) (keep : List Nat) (hno : ∀ p, memN p.n keep = false → fr.homes ts (bvOf w gb) p = none) : Inv C w0 Gin G gb (fr.forget keep) ts w := by
  have hh : (fr.forget keep).homes ts (bvOf w gb) = fr.homes ts (bvOf w gb) := by
    funext p
    by_cases hm : memN p.n keep = true
    · obtain ⟨b, n, c, j⟩ := p
      cases b with
      | false =>
        simp only [Fr.homes, getS_forget]
        split
        · rfl
        · rename_i hi
          simp only [Bool.and_eq_true, not_and] at hi
          rw [homeS_none1, inside_homeS (hi hm)]
      | true => simp only [Fr.homes, box?_forget]; simp only at hm; rw [if_pos hm]
    · rw [hno p (by simpa using hm)]
      obtain ⟨b, n, c, j⟩ := p
      cases b with
      | false =>
        simp only at hm
        simp only [Fr.homes, getS_forget]
        rw [if_neg (by simp [hm]), homeS_none1]
      | true =>
        simp only at hm
        simp only [Fr.homes, box?_forget]
        rw [if_neg hm]; rfl
  have hb : ∀ d cs, (fr.forget keep).box? d = some cs → memN d keep = true ∧ fr.box? d = some cs := by
    intro d cs hd
    rw [box?_forget] at hd
    split at hd
    · rename_i hm; exact ⟨hm, hd⟩
    · simp at hd
  have hst : stOf C w0.heap.size G gb (fr.forget keep) ts w = { stOf C w0.heap.size G gb fr ts w with bx := fun d => ((fr.forget keep).box? d).map fun _ => gb d } := by
    simp only [stOf, hh]
  refine ⟨h.below, h.gs, h.gin, ?_, fun n hn => ?_, fun d cs hd => ?_, fun d d' cs cs' hd hd' => h.inj d d' cs cs' (hb d cs hd).2 (hb d' cs' hd').2, ?_, ?_⟩
  · rw [h.size]; exact (length_keepSlots keep fr.slots 0).symm
  · have hn' : n < fr.slots.length := by
      have : (fr.forget keep).slots.length = fr.slots.length := length_keepSlots keep fr.slots 0
      omega
    rw [getS_forget]
    split
    · rename_i hk
      simp only [Bool.and_eq_true] at hk
      rw [hst]
      refine (h.slots n hn').bx (fun d off hm => ?_) (fun d hm => ?_) fun g caps hm c hc => ?_
      rotate_left
      · have := hk.2
        rw [hm] at this
        simp only [Md.inside] at this
        show Option.map _ ((fr.forget keep).box? d) = Option.map _ (fr.box? d)
        rw [box?_forget, if_pos this]
      rotate_left
      · have := hk.2
        rw [hm] at this
        simp only [Md.inside] at this
        show Option.map _ ((fr.forget keep).box? d) = Option.map _ (fr.box? d)
        rw [box?_forget, if_pos this]
      · have := hk.2
        rw [hm] at this
        simp only [Md.inside, List.all_eq_true] at this
        show Option.map _ ((fr.forget keep).box? c.1) = Option.map _ (fr.box? c.1)
        rw [box?_forget, if_pos (this c hc)]
    · exact RepM.none1 _ _
  · obtain ⟨⟨cc, t, h0, hs, hr⟩ | hB, h1, h2⟩ := h.boxes d cs (hb d cs hd).2
    rotate_left
    · exact ⟨.inr (hB.move rfl rfl), h1, h2⟩
    refine ⟨.inl ⟨cc, t, h0, hs, fun j hj => ?_⟩, h1, h2⟩
    rw [hst]
    exact hr j hj
  · rw [hh]
    exact fun p a v k hp hk => ⟨(h.ow p a v k hp hk).1, fun d cs hd => (h.ow p a v k hp hk).2 d cs (hb d cs hd).2⟩
  · rw [hh]; exact h.sep

theorem Inv.restrict (h : Inv C w0 Gin G gb fr ts w) (keep : List Nat) : Inv C w0 Gin G gb (fr.restrict keep) ts w :=
  (h.nix fun p => !memN p.n keep).forget keep fun p hp => by
    rw [homes_nix, if_pos (by simp [hp])]
theorem Inv.cut (h : Inv C w0 Gin G gb fr ts w) (keep : Option (List Nat)) : Inv C w0 Gin G gb (fr.cut keep) ts w := by
  cases keep with
  | none => exact h
  | some l => exact h.restrict l
end

end Go.Dam
