/- A part of an interpreter of the model's code that is proved sound, and of laws told by it: DamStep6, DamBox, DamBox2. -/
import Derived.Test.YtdehjednpdbhaaaDoorPvB2
set_option linter.unusedVariables false
set_option linter.unusedSimpArgs false
/- Loads; new variables. -/
namespace Go.Dam
open Go.RowKit
set_option linter.unusedVariables false
set_option linter.unusedSimpArgs false

section
variable {C : Tab} {P : Program} {w0 : World} {Gin G : Nat → Prop} {gb : Nat → Nat} {fr : Fr} {ts : Array Value} {w : World} {ds : List Deferred} {r : AV} {Q : Exit → Act → World → Prop} {R : Type}
variable {dst : Option Nat} {type : Nat} {pos : String} {after : Array Edge} {guard : Option (Nat × Bool)} {K : Fr → Option AV} {call : Nat → List AV → Option AV}

/-- Behind an address: cells that stand for what is told. -/
theorem Frz.ref_cells {S : Nat → Prop} {v : Value} {l : List AV} (h : Frz C S w v (.ref l)) :
    ∃ b o, v = .pointer (some ⟨b, o, none⟩) ∧ ∃ cv : Nat → Value, (∀ j, j < l.length → w.cell? ⟨b, o + j, none⟩ = some (cv j)) ∧ (∀ j, j < l.length → Frz C S w (cv j) (l.getD j .undef)) ∧ (0 < l.length → S b) := by
  cases h with
  | ref _ b o cv hS hc hr => exact ⟨b, o, rfl, cv, hc, hr, hS⟩

/-- What stands for something is as it was; of the blocks of Z nothing is said. -/
def LiveEq (C : Tab) (Z : Nat → Prop) (ow : Place → Option (AV × Value)) (w w' : World) : Prop :=
  ∀ b, b < w.heap.size → ¬ Z b → w'.heap[b]? = w.heap[b]? ∨ ∃ p T l v, ow p = some (.sl T l, v) ∧ v.ownBlock = some b ∧ ∀ z s bb, C.info T = some (z, s, bb) → ∀ o, o < l.length * s → w'.cell? ⟨b, o, none⟩ = w.cell? ⟨b, o, none⟩
theorem LiveEq.refl (C : Tab) (Z : Nat → Prop) (ow : Place → Option (AV × Value)) (w : World) : LiveEq C Z ow w w := fun _ _ _ => .inl rfl
/-- Blocks of the call that the frame does not know. -/
def FarZ (w0 : World) (G : Nat → Prop) (gb : Nat → Nat) (fr : Fr) (ts : Array Value) (w : World) (Z : Nat → Prop) : Prop := ∀ b, Z b → w0.heap.size ≤ b ∧ ¬ Foot G gb fr ts w b
theorem live_same {Z : Nat → Prop} {w' : World} (hl : LiveEq C Z (fr.homes ts (bvOf w gb)) w w') {b : Nat} (hb : b < w.heap.size) (hz : ¬ Z b) (hn : ∀ p a v, fr.homes ts (bvOf w gb) p = some (a, v) → v.ownBlock ≠ some b) : w'.heap[b]? = w.heap[b]? := by
  rcases hl b hb hz with h | ⟨p, T, l, v, h1, h2, _⟩
  · exact h
  · exact absurd h2 (hn p _ v h1)
theorem live_low (h : Inv C w0 Gin G gb fr ts w) {Z : Nat → Prop} (hZ : FarZ w0 G gb fr ts w Z) {w' : World} (hl : LiveEq C Z (fr.homes ts (bvOf w gb)) w w') {b : Nat} (hb : G b ∨ b < w0.heap.size) : w'.heap[b]? = w.heap[b]? := by
  have hbs : w0.heap.size ≤ w.heap.size := h.below.size
  rcases hb with hb | hb
  · exact live_same hl (h.gs b hb) (fun hz => (hZ b hz).2 (.inl hb)) fun p a v hp hk => (h.ow p a v b hp hk).1 hb
  · exact live_same hl (by omega) (fun hz => by have := (hZ b hz).1; omega) fun p a v hp hk => by have := ((h.own hp).lt b hk).1; omega
theorem flat_plain (ok : Tab.Ok C P) {T : Nat} (hfl : C.flat T = true) {z : List AV} {s b : Nat} (hi : C.info T = some (z, s, b)) {i : Nat} (hil : i < s) : isPlain (z.getD i .undef) = true := by
  obtain ⟨d, hd, hd', hag, hl, h1⟩ := isAggT_of ok hi
  simp only [Tab.flat, hi, List.all_eq_true] at hfl
  have : z.getD i .undef = z[i] := by simp [hl, hil]
  rw [this]; exact hfl _ (List.getElem_mem _)

/-- What a load brings. -/
def Loaded {R : Type} (C : Tab) (P : Program) (S : World → Prop) (w0 : World) (G : Nat → Prop) (gb : Nat → Nat) (fr : Fr) (ts : Array Value) (w : World) (ds : List Deferred) (T : Nat) (x : Operand) (K : AV × Md → Option R) (r : R) : Prop :=
  ∃ (y : AV × Md) (v : Value) (a : Addr), ({ tmps := ts, defers := ds } : Act).eval x = .pointer (some a) ∧ (∀ w', S w' → (loadVar T a).run P w' = .ok v w') ∧ RepM (stOf C w0.heap.size G gb fr ts w) y.2 v y.1 ∧ y.2.owns = false ∧ K y = some r

/-- A value loaded, its cells being known. -/
theorem load_cells (h : Inv C w0 Gin G gb fr ts w) (ok : Tab.Ok C P) {T : Nat} {b k off : Nat} {cs : List AV} {o : Own} {cv : Nat → Value} {S : World → Prop} (hc : ∀ w', S w' → ∀ j, j < cs.length → w'.cell? ⟨b, k + j, none⟩ = some (cv j))
    (hr : (C.flat T = true ∧ ∀ j, j < cs.length → ∃ S, Frz C S w (cv j) (cs.getD j .undef)) ∨ ((o = .ro ∨ o = .lent) ∧ ∀ j, j < cs.length → RepO (stOf C w0.heap.size G gb fr ts w) o (cv j) (cs.getD j .undef)))
    {x : Operand} (hv : ({ tmps := ts, defers := ds } : Act).eval x = .pointer (some ⟨b, k + off, none⟩)) {K : AV × Md → Option R}  {r : R}
    (hs : (tellK C T (fun j => cs.getD j .undef) off fun a => K (a, normM C T (.uni o))) = some r) :
    Loaded C P S w0 G gb fr ts w ds T x K r := by
  obtain ⟨z, s, bb, hi, hz, hk, hl⟩ := tellK_some ok hs
  have hlt : ∀ i, i < s → off + i < cs.length := by
    intro i hil
    rcases Nat.lt_or_ge (off + i) cs.length with h' | h'
    · exact h'
    · have := (hl i hil).ne
      simp only [getD_over _ _ h'] at this
      exact absurd rfl this
  have hrun := fun w' (hw : S w') => run_loadVar (P := P) (w := w') ok hi (a := ⟨b, k + off, none⟩) (cv := fun j => cv (off + j)) fun j hj => by
    rw [Addr.add_none rfl]
    have := hc w' hw (off + j) (hlt j hj)
    rw [← Nat.add_assoc] at this
    exact this
  rcases hr with ⟨hfl, hr⟩ | ⟨ho, hr⟩
  · have e1 : normM C T (.uni o) = .uni .ro := by simp [normM, hfl]
    have e2 : mdOf C T (fun _ => .ro) off = .uni .ro := by simp [mdOf, hfl]
    have := mdOf_rep (X := stOf C w0.heap.size G gb fr ts w) (og := fun _ => .ro) (f := fun j => cs.getD j .undef) (off := off) (vs := ((List.range s).map fun j => cv (off + j)).toArray) rfl ok hi (by simp)
      (fun i hil => by
        rw [getD_mapRange _ _ _ hil]
        obtain ⟨u, hu⟩ := isSc_eq ((hl i hil).sc (flat_plain ok hfl hi hil))
        obtain ⟨S, hf⟩ := hr (off + i) (hlt i hil)
        rw [hu] at hf
        simp only [hu]
        generalize cv (off + i) = v at hf
        cases hf
        rename_i h1
        exact Frz.sc _ h1) hl
    rw [e1] at hk
    refine ⟨(valA C T (fun j => cs.getD (off + j) .undef) s, .uni .ro), _, _, hv, hrun, ?_, rfl, hk⟩
    show RepM _ (.uni .ro) _ _
    rw [← e2]; exact this
  · refine ⟨(valA C T (fun j => cs.getD (off + j) .undef) s, normM C T (.uni o)), _, _, hv, hrun, ?_, owns_normM (by rcases ho with rfl | rfl <;> rfl), hk⟩
    exact normM_rep (X := stOf C w0.heap.size G gb fr ts w) (f := fun j => cs.getD j .undef) (off := off) rfl ok hi (fun _ => ho) (by simp) (fun i hil => by rw [getD_mapRange _ _ _ hil]; exact hr _ (hlt i hil)) hl

theorem load_rep (h : Inv C w0 Gin G gb fr ts w) (ok : Tab.Ok C P) {T : Nat} {x : Operand} {K : AV × Md → Option R} {r : R} {S : World → Prop} {Z : Nat → Prop} (hZ : FarZ w0 G gb fr ts w Z) (hS : ∀ w', S w' → w' = w ∨ (LiveEq C Z (fr.homes ts (bvOf w gb)) w w' ∧ partM (ev C fr 0 x).2 = false))
    (hs : loadK C fr T (ev C fr 0 x) K = some r) : Loaded C P S w0 G gb fr ts w ds T x K r := by
  obtain ⟨h1, _⟩ := h.ev ok ds 0 x
  have hlow : ∀ {b k : Nat} {cs : List AV} {cv : Nat → Value}, (partM (ev C fr 0 x).2 = false → 0 < cs.length → G b ∨ b < w0.heap.size) → (∀ j, j < cs.length → w.cell? ⟨b, k + j, none⟩ = some (cv j)) → ∀ w', S w' → ∀ j, j < cs.length → w'.cell? ⟨b, k + j, none⟩ = some (cv j) := by
    intro b k cs cv hb hc w' hw j hj
    rcases hS w' hw with rfl | ⟨hl, hp⟩
    · exact hc j hj
    · rw [World.cell?_of_block (w := w) (w' := w') (a := ⟨b, k + j, none⟩) (live_low h hZ hl (hb hp (by omega)))]
      exact hc j hj
  have hfo : ∀ {o o' : Own} {v : Value} {cs : List AV}, (partM (ev C fr 0 x).2 = false → ∀ p f, o ≠ .brw p f) → RepO (stOf C w0.heap.size G gb fr ts w) o v (.ref cs) → frozenO C T o = some o' →
      ∃ b k, v = .pointer (some ⟨b, k, none⟩) ∧ ∃ cv : Nat → Value, (∀ w', S w' → ∀ j, j < cs.length → w'.cell? ⟨b, k + j, none⟩ = some (cv j)) ∧
      ((C.flat T = true ∧ ∀ j, j < cs.length → ∃ S, Frz C S w (cv j) (cs.getD j .undef)) ∨ ((o' = .ro ∨ o' = .lent) ∧ ∀ j, j < cs.length → RepO (stOf C w0.heap.size G gb fr ts w) o' (cv j) (cs.getD j .undef))) := by
    intro o o' v cs hnp hR ho
    cases o with
    | ro =>
      simp only [frozenO, Option.some.injEq] at ho; subst ho
      obtain ⟨b, k, e, cv, h2, h3, h4⟩ := Frz.ref_cells hR
      exact ⟨b, k, e, cv, hlow (fun _ hl => .inl (h4 hl)) h2, .inr ⟨.inl rfl, h3⟩⟩
    | lent =>
      simp only [frozenO, Option.some.injEq] at ho; subst ho
      obtain ⟨b, k, e, cv, h2, h3, h4⟩ := Frz.ref_cells hR
      exact ⟨b, k, e, cv, hlow (fun _ hl => h4 hl) h2, .inr ⟨.inr rfl, h3⟩⟩
    | own =>
      obtain ⟨T', l', z', s', b', xs, e3, _⟩ := (show OwnR _ _ _ _ _ _ from hR)
      simp at e3
    | brw q f =>
      simp only [frozenO] at ho
      split at ho
      case isFalse => simp at ho
      rename_i hfl
      obtain ⟨qa, qv, hq, hf, _⟩ := hR
      obtain ⟨b, k, e, cv, h2, h3, _⟩ := Frz.ref_cells hf
      exact ⟨b, k, e, cv, hlow (fun hp _ => absurd rfl (hnp hp q f)) h2, .inl ⟨hfl, fun j hj => ⟨_, h3 j hj⟩⟩⟩
  unfold loadK at hs
  split at hs
  · rename_i d off hm
    rw [hm] at h1
    obtain ⟨b, hb, hv, ha⟩ := h1
    split at hs
    case h_2 => simp at hs
    rename_i cs hcs
    split at hs
    case isFalse => simp at hs
    rename_i hle
    simp only [Bool.and_eq_true, Bool.not_eq_true'] at hle
    obtain ⟨hle, hmp⟩ := hle
    obtain ⟨z, s, bb, hi, hz, hk, hl⟩ := tellK_some ok hs
    have hle := upTo_spec hle hi
    obtain ⟨cc, e, hh, hcl, hr⟩ := (h.boxes d cs hcs).1.cells hmp
    obtain ⟨_, hgb⟩ := bx_stOf.1 hb
    subst hgb
    have hrun := fun w' (hw : S w') => run_loadVar (P := P) (w := w') ok hi (a := ⟨gb d, off, none⟩) (cv := fun j => cc.getD (off + j) undef) fun j hj => by
      rw [Addr.add_none rfl]
      have hlt : off + j < cc.size := by omega
      have hh' : w'.heap[gb d]? = some (.cells cc e (0, 0)) := by
        rcases hS w' hw with rfl | ⟨hl, _⟩
        · exact hh
        · rw [live_same hl (h.gb_lt hcs) (fun hz => (hZ _ hz).2 (.inr (.inl ⟨d, cs, hcs, rfl⟩))) fun p a v hp hk => (h.ow p a v _ hp hk).2 d cs hcs rfl]; exact hh
      simp [World.cell?, hh', hlt]
    refine ⟨(valA C T (fun j => (cs.getD (off + j) (.undef, .ro)).1) s, mdOf C T (fun j => viewO ⟨true, d, 0, j⟩ (cs.getD j (.undef, .ro)).2) off), valV C T ((List.range s).map fun j => cc.getD (off + j) undef).toArray, _, hv, hrun, ?_, owns_mdOf (og := fun j => viewO ⟨true, d, 0, j⟩ (cs.getD j (.undef, .ro)).2) fun j => owns_viewO _ _, hk⟩
    refine mdOf_rep (X := stOf C w0.heap.size G gb fr ts w) (og := fun j => viewO ⟨true, d, 0, j⟩ (cs.getD j (.undef, .ro)).2) (f := fun j => (cs.getD j (.undef, .ro)).1) (off := off) rfl ok hi (by simp) (fun i hil => ?_) hl
    rw [getD_mapRange _ _ _ hil]
    refine viewO_of (hr (off + i) (by omega)) _ fun ho => ?_
    change fr.homes ts (bvOf w gb) ⟨true, d, 0, off + i⟩ = _
    simp only [Fr.homes, hcs, homeB, if_true, ho, own?, bvOf_cell (w := w) hh]
  · rename_i o off hm
    obtain ⟨cs, hcs, hs⟩ := castRef_some hs
    rw [hm, hcs] at h1
    obtain ⟨b, k, la, hv, e, hR⟩ := h1
    cases e
    split at hs
    case h_2 => simp at hs
    rename_i o' ho
    obtain ⟨b', k', e, cv, h2, h3⟩ := hfo (fun hp p f e => by rw [hm, e] at hp; simp [partM] at hp) hR ho
    cases e
    exact load_cells h ok h2 h3 hv hs
  · rename_i q i off hm
    obtain ⟨cs, hcs, hs⟩ := castRef_some hs
    rw [hm, hcs] at h1
    obtain ⟨T', l, z, s, b', g, cap, cs', hq, hi, hil, hv, e, hcl, hcj⟩ := h1
    cases e
    obtain ⟨T2, l2, z2, s2, b2, xs, e3, hi2, how, hp, hr⟩ := h.own hq
    cases e3
    change C.info T' = _ at hi
    rw [hi] at hi2; cases hi2
    have hlen : ∀ j, j < s → i * s + j < l.length * s := by
      intro j hj
      have : (i + 1) * s ≤ l.length * s := Nat.mul_le_mul_right _ (by omega)
      rw [Nat.add_mul] at this; omega
    refine load_cells h ok (cs := cs) (o := .ro) (b := g) (k := i * s) (cv := fun j => xs.getD (i * s + j) undef) (fun w' hw j hj => ?_) (.inr ⟨.inl rfl, fun j hj => ?_⟩) hv hs
    · obtain ⟨c, hc, _⟩ := hr i j hil (by omega)
      have hw' : w'.cell? ⟨g, i * s + j, none⟩ = w.cell? ⟨g, i * s + j, none⟩ := by
        rcases hS w' hw with rfl | ⟨hl, _⟩
        · rfl
        · rcases hl g ((h.own hq).lt g rfl).2 (fun hz => (hZ _ hz).2 (.inr (.inr ⟨q, _, _, hq, rfl⟩))) with e | ⟨p', T3, l3, v3, r1, r2, r3⟩
          · exact World.cell?_of_block (w := w) (w' := w') (a := ⟨g, i * s + j, none⟩) e
          · have := h.sep p' q _ _ _ _ g r1 hq r2 rfl
            subst this
            rw [show (stOf C w0.heap.size G gb fr ts w).ow p' = fr.homes ts (bvOf w gb) p' from rfl, r1] at hq
            simp only [Option.some.injEq, Prod.mk.injEq, AV.sl.injEq] at hq
            obtain ⟨⟨rfl, rfl⟩, _⟩ := hq
            exact r3 z s b' hi _ (hlen j (by omega))
      rw [hw', how.cellAt _ (hlen j (by omega)), hc]
      simp [List.getD_eq_getElem?_getD, hc]
    · obtain ⟨c, hc, hf⟩ := hr i j hil (by omega)
      have : xs.getD (i * s + j) undef = c := by simp [List.getD_eq_getElem?_getD, hc]
      simp only [this]
      rw [hcj j (by omega)]
      exact hf
  · rename_i o hm
    obtain ⟨cs, hcs, hs⟩ := castRef_some hs
    rw [hm, hcs] at h1
    split at hs
    case h_2 => simp at hs
    rename_i o' ho
    rcases h1 with h1 | ⟨_, _, _, _, e, _⟩
    · obtain ⟨b', k', e, cv, h2, h3⟩ := hfo (fun hp p f e => by rw [hm, e] at hp; simp [partM] at hp) h1 ho
      exact load_cells h ok (off := 0) h2 h3 (by rw [e]; rfl) hs
    · simp at e
  · simp at hs

theorem load_stepQ (h : Inv C w0 Gin G gb fr ts w) (ok : Tab.Ok C P) {T : Nat} {x : Operand} {S : World → Prop} {Z : Nat → Prop} (hZ : FarZ w0 G gb fr ts w Z) (hS : ∀ w', S w' → w' = w ∨ (LiveEq C Z (fr.homes ts (bvOf w gb)) w w' ∧ partM (ev C fr 0 x).2 = false)) (hs : (loadK C fr T (ev C fr 0 x) fun y => K (fr.put dst y)) = some r) :
    StepQ C P w0 Gin ds r S G gb fr ts w ⟨dst, .load T x, type, pos, after, guard⟩ K := by
  obtain ⟨y, v, a, hv, hrun, rep, hown, hk⟩ := load_rep (ds := ds) h ok hZ hS hs
  refine ⟨G, fr, y, v, fun w' hw => ?_, h, Less.refl, rep, Fresh.of_owns hown _ _, .of_noblk (NoBlk.of_owns hown _ _), hk⟩
  simp only [execOp, Instr.loadAt, hv, Instr.sureAddr]
  simp [hrun w' hw]
theorem st_load (h : Inv C w0 Gin G gb fr ts w) (ok : Tab.Ok C P) {T : Nat} {x : Operand} (hs : (loadK C fr T (ev C fr 0 x) fun y => K (fr.put dst y)) = some r) :
    StepQ C P w0 Gin ds r (fun w' => w' = w) G gb fr ts w ⟨dst, .load T x, type, pos, after, guard⟩ K := load_stepQ h ok (Z := fun _ => False) (fun _ h => h.elim) (fun _ e => .inl e) hs
end

end Go.Dam

/- Variables in memory: a new one, cells written. -/
namespace Go.Dam
open Go.RowKit
set_option linter.unusedVariables false
set_option linter.unusedSimpArgs false

theorem assoc_set (d e : Nat) (x : List (AV × Own)) : ∀ l, assoc e (assocSet d x l) = if e = d then some x else assoc e l
  | [] => by
    simp only [assocSet, assoc]
    by_cases h : d = e
    · subst h; simp
    · rw [if_neg h, if_neg (Ne.symm h)]
  | (a, c) :: l => by
    simp only [assocSet]
    by_cases ha : a = d
    · subst ha
      rw [if_pos rfl]
      simp only [assoc]
      by_cases h : a = e
      · subst h; simp
      · rw [if_neg h, if_neg (Ne.symm h), if_neg h]
    · rw [if_neg ha]
      simp only [assoc]
      rw [assoc_set d e x l]
      by_cases h : a = e
      · subst h; rw [if_pos rfl, if_neg ha, if_pos rfl]
      · rw [if_neg h, if_neg h]
theorem box?_setBox (fr : Fr) (d e : Nat) (x : List (AV × Own)) : (fr.setBox d x).box? e = if e = d then some x else fr.box? e := assoc_set d e x fr.boxes
theorem length_putNth {α : Type} : ∀ (cs : List α) (l : List α) (off : Nat), (putNth l off cs).length = l.length
  | [], _, _ => rfl
  | c :: cs, l, off => by simp [putNth, length_putNth cs, length_setNth]
theorem getD_putNth {α : Type} (d : α) : ∀ (cs : List α) (l : List α) (off j : Nat), off + cs.length ≤ l.length → (putNth l off cs).getD j d = if off ≤ j ∧ j < off + cs.length then cs.getD (j - off) d else l.getD j d
  | [], l, off, j, _ => by
    rw [if_neg (by simp only [List.length_nil]; omega)]; rfl
  | c :: cs, l, off, j, h => by
    simp only [putNth]
    rw [getD_putNth d cs _ _ _ (by simp [length_setNth] at h ⊢; omega), getD_setNth]
    simp only [List.length_cons] at h ⊢
    by_cases h1 : off + 1 ≤ j ∧ j < off + 1 + cs.length
    · rw [if_pos h1, if_pos (by omega)]
      have : j - off = (j - (off + 1)) + 1 := by omega
      rw [this, List.getD_cons_succ]
    · rw [if_neg h1]
      by_cases h2 : j = off
      · subst h2
        rw [if_pos ⟨rfl, by omega⟩, if_pos (by omega), Nat.sub_self, List.getD_cons_zero]
      · rw [if_neg (by simp [h2]), if_neg (by omega)]

section
variable {C : Tab} {P : Program} {w0 : World} {Gin G : Nat → Prop} {gb : Nat → Nat} {fr : Fr} {ts : Array Value} {w : World} {ds : List Deferred} {r : AV} {Q : Exit → Act → World → Prop}

/-- Where a box stands counts for boxes alone that are there. -/
theorem Inv.regb (h : Inv C w0 Gin G gb fr ts w) {gb' : Nat → Nat} (hg : ∀ d cs, fr.box? d = some cs → gb' d = gb d) : Inv C w0 Gin G gb' fr ts w ∧ fr.homes ts (bvOf w gb') = fr.homes ts (bvOf w gb) ∧ stOf C w0.heap.size G gb' fr ts w = stOf C w0.heap.size G gb fr ts w := by
  have hh : fr.homes ts (bvOf w gb') = fr.homes ts (bvOf w gb) := by
    funext p
    obtain ⟨b, n, c, j⟩ := p
    cases b with
    | false => rfl
    | true =>
      simp only [Fr.homes]
      cases hb : fr.box? n with
      | none => rfl
      | some cs =>
        have : bvOf w gb' n = bvOf w gb n := by
          funext j
          simp only [bvOf, hg n cs hb]
        rw [this]
  have hst : stOf C w0.heap.size G gb' fr ts w = stOf C w0.heap.size G gb fr ts w := by
    simp only [stOf, hh]
    congr 1
    funext d
    cases hb : fr.box? d with
    | none => rfl
    | some cs => simp [hg d cs hb]
  refine ⟨⟨h.below, h.gs, h.gin, h.size, ?_, fun d cs hd => ?_, fun d d' cs cs' hd hd' e => ?_, ?_, ?_⟩, hh, hst⟩
  · rw [hst]; exact h.slots
  · rw [hst, hg d cs hd]; exact h.boxes d cs hd
  · rw [hg d cs hd, hg d' cs' hd'] at e
    exact h.inj d d' cs cs' hd hd' e
  · rw [hh]
    exact fun p a v k hp hk => ⟨(h.ow p a v k hp hk).1, fun d cs hd => by rw [hg d cs hd]; exact (h.ow p a v k hp hk).2 d cs hd⟩
  · rw [hh]; exact h.sep

/-- A new block. -/
theorem Inv.alloc (h : Inv C w0 Gin G gb fr ts w) (o : Obj) : Inv C w0 Gin G gb fr ts (w.alloc o) ∧ fr.homes ts (bvOf (w.alloc o) gb) = fr.homes ts (bvOf w gb) := by
  have hs : w0.heap.size ≤ w.heap.size := h.below.size
  have key : ∀ k, k < w.heap.size → (w.alloc o).heap[k]? = w.heap[k]? := fun k hk => Below.heap_alloc w o k hk
  refine h.world (h.below.alloc hs o) (by simp) (fun b hb => key b (h.gs b hb)) (fun d cs hd => ?_) fun p a v k hp hk => key k ((h.own hp).lt k hk).2
  obtain ⟨hB, _⟩ := h.boxes d cs hd
  obtain ⟨_, hh⟩ := hB.some
  refine key _ ?_
  rcases Nat.lt_or_ge (gb d) w.heap.size with h' | h'
  · exact h'
  · rw [show (stOf C w0.heap.size G gb fr ts w).w = w from rfl, Array.getElem?_eq_none h'] at hh; simp at hh

/-- Cells on their way into memory, that no one else owns. -/
def FreshC (G : Nat → Prop) (gb : Nat → Nat) (fr : Fr) (ts : Array Value) (w : World) (n : Nat) (os : Nat → Own) (vs : Nat → Value) : Prop :=
  ∀ j k, j < n → os j = .own → (vs j).ownBlock = some k → ¬ G k ∧ (∀ d cs, fr.box? d = some cs → gb d ≠ k) ∧
    (∀ p a' u', fr.homes ts (bvOf w gb) p = some (a', u') → u'.ownBlock ≠ some k) ∧ ∀ j', j' < n → os j' = .own → (vs j').ownBlock = some k → j = j'

/-- Cells of a variable are written. -/
theorem Inv.storeBox (h : Inv C w0 Gin G gb fr ts w) {d off : Nat} {cs new : List (AV × Own)} {c c' : Array Value} {e : TypeId} (hb : fr.box? d = some cs) (hc : w.heap[gb d]? = some (.cells c e (0, 0)))
    (hno : ∀ j, off ≤ j → j < off + new.length → fr.homes ts (bvOf w gb) ⟨true, d, 0, j⟩ = none) (hle : off + new.length ≤ cs.length) (hc' : c'.size = c.size)
    (hold : ∀ j, ¬ (off ≤ j ∧ j < off + new.length) → c'.getD j undef = c.getD j undef)
    (hr : ∀ i, i < new.length → RepO (stOf C w0.heap.size G gb fr ts w) (new.getD i (.undef, .ro)).2 (c'.getD (off + i) undef) (new.getD i (.undef, .ro)).1)
    (hf : FreshC G gb fr ts w new.length (fun i => (new.getD i (.undef, .ro)).2) (fun i => c'.getD (off + i) undef))
    {w' : World} (hw : w'.heap[gb d]? = some (.cells c' e (0, 0))) (hw' : ∀ k, k ≠ gb d → w'.heap[k]? = w.heap[k]?) (hbelow : Below w0.heap.size w0 w') (hsz : w.heap.size ≤ w'.heap.size) :
    Inv C w0 Gin G gb (fr.setBox d (putNth cs off new)) ts w' ∧ ∀ p a u, (fr.setBox d (putNth cs off new)).homes ts (bvOf w' gb) p = some (a, u) →
      fr.homes ts (bvOf w gb) p = some (a, u) ∨ ∃ i, i < new.length ∧ (new.getD i (.undef, .ro)).2 = .own ∧ a = (new.getD i (.undef, .ro)).1 ∧ u = c'.getD (off + i) undef := by
  obtain ⟨⟨cc, e', hh, hs, hrr⟩ | ⟨_, _, _, _, _, hh, _⟩, hge, hng⟩ := h.boxes d cs hb
  rotate_left
  · rw [show (stOf C w0.heap.size G gb fr ts w).w = w from rfl, hc] at hh; cases hh
  have e1 : w.heap[gb d]? = some (.cells cc e' (0, 0)) := hh
  rw [hc] at e1
  simp only [Option.some.injEq, Obj.cells.injEq] at e1
  obtain ⟨rfl, rfl, _⟩ := e1
  have hbv : ∀ j, ¬ (off ≤ j ∧ j < off + new.length) → bvOf w' gb d j = bvOf w gb d j := by
    intro j hj
    rw [bvOf_cell hw, bvOf_cell hc, hold j hj]
  have hbv2 : ∀ n cs', n ≠ d → fr.box? n = some cs' → bvOf w' gb n = bvOf w gb n := by
    intro n cs' hn hcs'
    funext j
    have : gb n ≠ gb d := fun e => hn (h.inj n d cs' cs hcs' hb e)
    simp only [bvOf, World.cell?, hw' (gb n) this]
  have hhomes : ∀ p, (fr.setBox d (putNth cs off new)).homes ts (bvOf w' gb) p =
      if p.box = true ∧ p.n = d ∧ p.c = 0 ∧ off ≤ p.j ∧ p.j < off + new.length then own? (new.getD (p.j - off) (.undef, .ro)).2 ((new.getD (p.j - off) (.undef, .ro)).1, c'.getD p.j undef) else fr.homes ts (bvOf w gb) p := by
    rintro ⟨b, n, q, j⟩
    cases b with
    | false => simp [Fr.homes]; rfl
    | true =>
      simp only [Fr.homes, box?_setBox, true_and]
      by_cases hn : n = d
      · subst hn
        simp only [if_true, true_and, hb, homeB]
        by_cases hq : q = 0
        · subst hq
          simp only [if_true, true_and]
          rw [getD_putNth _ _ _ _ _ hle]
          by_cases hj : off ≤ j ∧ j < off + new.length
          · rw [if_pos hj, if_pos hj, bvOf_cell hw]
          · rw [if_neg hj, if_neg hj, hbv j hj]
        · simp [hq]
      · simp only [hn, if_false, false_and]
        cases hbn : fr.box? n with
        | none => rfl
        | some cs' => rw [hbv2 n cs' hn hbn]
  have hne : ∀ p a u, fr.homes ts (bvOf w gb) p = some (a, u) → ¬ (p.box = true ∧ p.n = d ∧ p.c = 0 ∧ off ≤ p.j ∧ p.j < off + new.length) := by
    rintro ⟨b, n, q, j⟩ a u hp ⟨hbx, hn, hq, h1, h2⟩
    simp only at hbx hn hq h1 h2
    subst hbx hn hq
    rw [hno j h1 h2] at hp; simp at hp
  have ho : ∀ p a v k, fr.homes ts (bvOf w gb) p = some (a, v) → v.ownBlock = some k → w'.heap[k]? = w.heap[k]? := fun p a v k hp hk => hw' k fun e => (h.ow p a v k hp hk).2 d cs hb e.symm
  have le : Le (stOf C w0.heap.size G gb fr ts w) (stOf C w0.heap.size G gb (fr.setBox d (putNth cs off new)) ts w') (fun _ => True) := {
    C := rfl, base := rfl, G := fun _ h => h
    low := fun b hb' => hw' b fun e => by
      rcases hb' with hb' | hb'
      · exact hng (e ▸ hb')
      · have : b < w0.heap.size := hb'
        omega
    ow := fun q _ a u hq => ⟨by
      show (fr.setBox d (putNth cs off new)).homes ts (bvOf w' gb) q = _
      rw [hhomes, if_neg (hne q a u hq)]; exact hq, fun k hk => ho q a u k hq hk⟩ }
  have hbx : ∀ n b, (stOf C w0.heap.size G gb fr ts w).bx n = some b → (stOf C w0.heap.size G gb (fr.setBox d (putNth cs off new)) ts w').bx n = some b := by
    intro n b hn
    obtain ⟨⟨cs', hcs'⟩, hgb⟩ := bx_stOf.1 hn
    refine bx_stOf.2 ⟨?_, hgb⟩
    rw [box?_setBox]
    split
    · exact ⟨_, rfl⟩
    · exact ⟨cs', hcs'⟩
  have hbox : ∀ n cs', (fr.setBox d (putNth cs off new)).box? n = some cs' → ∃ cs2, fr.box? n = some cs2 := by
    intro n cs' hn
    rw [box?_setBox] at hn
    split at hn
    · rename_i e; subst e; exact ⟨cs, hb⟩
    · exact ⟨cs', hn⟩
  have hnew : ∀ p a u, (fr.setBox d (putNth cs off new)).homes ts (bvOf w' gb) p = some (a, u) →
      fr.homes ts (bvOf w gb) p = some (a, u) ∨ ∃ i, i < new.length ∧ (new.getD i (.undef, .ro)).2 = .own ∧ a = (new.getD i (.undef, .ro)).1 ∧ u = c'.getD (off + i) undef := by
    intro p a u hp
    rw [hhomes] at hp
    split at hp
    · rename_i hin
      obtain ⟨h1, h2⟩ := own?_some hp
      cases h2
      exact .inr ⟨p.j - off, by omega, h1, rfl, by rw [show off + (p.j - off) = p.j by omega]⟩
    · exact .inl hp
  refine ⟨?_, hnew⟩
  refine ⟨hbelow, fun b hb => Nat.lt_of_lt_of_le (h.gs b hb) hsz, h.gin, h.size, fun n hn => ?_, fun n cs' hn => ?_, fun n n' c1 c2 hn hn' => ?_, fun p a u k hp hk => ?_, fun p q a u a' u' k hp hq hk hk' => ?_⟩
  · exact (h.slots n hn).mono le hbx (Md.hit_true _) fun c j x u hx k hk => ho ⟨false, n, c, j⟩ x u k hx hk
  · rw [box?_setBox] at hn
    split at hn
    · rename_i e0; subst e0
      simp only [Option.some.injEq] at hn
      subst hn
      refine ⟨.inl ⟨c', e, hw, by rw [length_putNth, hc', hs], fun j hj => ?_⟩, hge, hng⟩
      rw [length_putNth] at hj
      rw [getD_putNth _ _ _ _ _ hle]
      split
      · rename_i hin
        have := (hr (j - off) (by omega)).mono le (Own.hit_true _) fun hown k hk => by
          refine hw' k fun e2 => ?_
          exact (hf (j - off) k (by omega) hown (by simpa using hk)).2.1 n cs hb e2.symm
        rwa [show off + (j - off) = j by omega] at this
      · rename_i hout
        rw [hold j hout]
        refine (hrr j hj).mono le (Own.hit_true _) fun hown k hk => ?_
        refine ho ⟨true, n, 0, j⟩ (cs.getD j (.undef, .ro)).1 _ k ?_ hk
        simp only [Fr.homes, hb, homeB, if_true, hown, own?, bvOf_cell (w := w) hc]
    · rename_i hnd
      obtain ⟨hB, h1, h2⟩ := h.boxes n cs' hn
      have hgn : gb n ≠ gb d := fun e => hnd (h.inj n d cs' cs hn hb e)
      rcases hB with ⟨c2, e2, hh2, hs2, hr2⟩ | hB
      rotate_left
      · exact ⟨.inr (hB.move rfl (hw' _ hgn)), h1, h2⟩
      refine ⟨.inl ⟨c2, e2, (hw' _ hgn).trans hh2, hs2, fun j hj => (hr2 j hj).mono le (Own.hit_true _) fun hown k hk => ?_⟩, h1, h2⟩
      refine ho ⟨true, n, 0, j⟩ (cs'.getD j (.undef, .ro)).1 _ k ?_ hk
      simp only [Fr.homes, hn, homeB, if_true, hown, own?, bvOf_cell (w := w) hh2]
  · obtain ⟨c3, h3⟩ := hbox n c1 hn
    obtain ⟨c4, h4⟩ := hbox n' c2 hn'
    exact h.inj n n' c3 c4 h3 h4
  · rw [hhomes] at hp
    split at hp
    · rename_i hin
      obtain ⟨h1, h2⟩ := own?_some hp
      cases h2
      obtain ⟨h3, h4, _⟩ := hf (p.j - off) k (by omega) h1 (by simpa [show off + (p.j - off) = p.j by omega] using hk)
      exact ⟨h3, fun n cs' hn => by obtain ⟨c3, h5⟩ := hbox n cs' hn; exact h4 n c3 h5⟩
    · obtain ⟨h3, h4⟩ := h.ow p a u k hp hk
      exact ⟨h3, fun n cs' hn => by obtain ⟨c3, h5⟩ := hbox n cs' hn; exact h4 n c3 h5⟩
  · rw [hhomes] at hp hq
    split at hp
    · rename_i hpi
      obtain ⟨h1, h2⟩ := own?_some hp
      cases h2
      obtain ⟨_, _, h5, h6⟩ := hf (p.j - off) k (by omega) h1 (by simpa [show off + (p.j - off) = p.j by omega] using hk)
      split at hq
      · rename_i hqi
        obtain ⟨h7, h8⟩ := own?_some hq
        cases h8
        have := h6 (q.j - off) (by omega) h7 (by simpa [show off + (q.j - off) = q.j by omega] using hk')
        obtain ⟨b, n, c1, j⟩ := p
        obtain ⟨b', n', c2, j'⟩ := q
        simp only at hpi hqi this ⊢
        obtain ⟨rfl, rfl, rfl, _, _⟩ := hpi
        obtain ⟨rfl, rfl, rfl, _, _⟩ := hqi
        have : j = j' := by omega
        rw [this]
      · exact absurd hk' (h5 q a' u' hq)
    · split at hq
      · rename_i hqi
        obtain ⟨h1, h2⟩ := own?_some hq
        cases h2
        obtain ⟨_, _, h5, _⟩ := hf (q.j - off) k (by omega) h1 (by simpa [show off + (q.j - off) = q.j by omega] using hk')
        exact absurd hk (h5 p a u hp)
      · exact h.sep p q a u a' u' k hp hq hk hk'
end

end Go.Dam

/- New variables; stores into variables. -/
namespace Go.Dam
open Go.RowKit
set_option linter.unusedVariables false
set_option linter.unusedSimpArgs false

theorem assocSet_twice (d : Nat) (x y : List (AV × Own)) : ∀ l, assocSet d y (assocSet d x l) = assocSet d y l
  | [] => by simp [assocSet]
  | (a, c) :: l => by
    simp only [assocSet]
    by_cases ha : a = d
    · subst ha; simp [assocSet]
    · rw [if_neg ha, if_neg ha]
      simp only [assocSet, if_neg ha, assocSet_twice d x y l]
theorem setBox_twice (fr : Fr) (d : Nat) (x y : List (AV × Own)) : (fr.setBox d x).setBox d y = fr.setBox d y := by
  simp [Fr.setBox, assocSet_twice]
theorem list_ext_getD {α : Type} (d : α) {l m : List α} (hl : l.length = m.length) (h : ∀ j, j < l.length → l.getD j d = m.getD j d) : l = m := by
  refine List.ext_getElem hl fun j h1 h2 => ?_
  have := h j h1
  simpa [List.getD_eq_getElem?_getD, h1, h2] using this
theorem putNth_all {α : Type} (d : α) {l m : List α} (hl : l.length = m.length) : putNth l 0 m = m := by
  refine list_ext_getD d (by rw [length_putNth, hl]) fun j hj => ?_
  rw [length_putNth] at hj
  rw [getD_putNth _ _ _ _ _ (by omega), if_pos (by omega), Nat.sub_zero]

section
variable {C : Tab} {P : Program} {w0 : World} {Gin G : Nat → Prop} {gb : Nat → Nat} {fr : Fr} {ts : Array Value} {w : World} {ds : List Deferred} {r : AV} {Q : Exit → Act → World → Prop}
variable {dst : Option Nat} {type : Nat} {pos : String} {after : Array Edge} {guard : Option (Nat × Bool)} {K : Fr → Option AV} {call : Nat → List AV → Option AV}

def gbNew (gb : Nat → Nat) (d b : Nat) (n : Nat) : Nat := if n = d then b else gb n

/-- A block that no one knows becomes a variable. -/
theorem Inv.adoptBox (h : Inv C w0 Gin G gb fr ts w) {d : Nat} (hd : fr.box? d = none) {b : Nat} {cs : List (AV × Own)} {c : Array Value} {e : TypeId} (hheap : w.heap[b]? = some (.cells c e (0, 0))) (hbs : w0.heap.size ≤ b)
    (hfree : ¬ G b ∧ (∀ d cs, fr.box? d = some cs → gb d ≠ b) ∧ ∀ p a u, fr.homes ts (bvOf w gb) p = some (a, u) → u.ownBlock ≠ some b) (hl : c.size = cs.length)
    (hr : ∀ j, j < cs.length → RepO (stOf C w0.heap.size G gb fr ts w) (cs.getD j (.undef, .ro)).2 (c.getD j undef) (cs.getD j (.undef, .ro)).1)
    (hf : FreshC G gb fr ts w cs.length (fun i => (cs.getD i (.undef, .ro)).2) (fun i => c.getD i undef)) (hself : ∀ j, j < cs.length → (cs.getD j (.undef, .ro)).2 = .own → (c.getD j undef).ownBlock ≠ some b) :
    Inv C w0 Gin G (gbNew gb d b) (fr.setBox d cs) ts w ∧ ∀ p a u, (fr.setBox d cs).homes ts (bvOf w (gbNew gb d b)) p = some (a, u) →
      fr.homes ts (bvOf w gb) p = some (a, u) ∨ ∃ i, i < cs.length ∧ (cs.getD i (.undef, .ro)).2 = .own ∧ a = (cs.getD i (.undef, .ro)).1 ∧ u = c.getD i undef := by
  obtain ⟨f1, f2, f3⟩ := hfree
  have hgb : ∀ n cs', fr.box? n = some cs' → gbNew gb d b n = gb n := by
    intro n cs' hn
    unfold gbNew
    rw [if_neg]
    rintro rfl; rw [hd] at hn; simp at hn
  obtain ⟨h2, hh2, hst2⟩ := h.regb hgb
  have hgd : gbNew gb d b d = b := by simp [gbNew]
  have hro : ∀ j, ((List.replicate cs.length (AV.undef, Own.ro)).getD j (.undef, .ro)) = (.undef, .ro) := by
    intro j
    simp only [List.getD_eq_getElem?_getD, List.getElem?_replicate]
    split <;> rfl
  have hh3 : (fr.setBox d (List.replicate cs.length (.undef, .ro))).homes ts (bvOf w (gbNew gb d b)) = fr.homes ts (bvOf w (gbNew gb d b)) := by
    funext p
    obtain ⟨b', n, q, j⟩ := p
    cases b' with
    | false => rfl
    | true =>
      simp only [Fr.homes, box?_setBox]
      split
      · rename_i hn; subst hn
        simp only [hd, homeB, hro, own?, ite_self]
      · rfl
  have hbox : ∀ n cs', (fr.setBox d (List.replicate cs.length (.undef, .ro))).box? n = some cs' → n = d ∨ (n ≠ d ∧ fr.box? n = some cs') := by
    intro n cs' hn
    rw [box?_setBox] at hn
    split at hn
    · rename_i e; exact .inl e
    · rename_i e; exact .inr ⟨e, hn⟩
  have hbx : ∀ n k, (stOf C w0.heap.size G gb fr ts w).bx n = some k → (stOf C w0.heap.size G (gbNew gb d b) (fr.setBox d (List.replicate cs.length (.undef, .ro))) ts w).bx n = some k := by
    intro n k hm
    obtain ⟨⟨cs', hcs'⟩, hg⟩ := bx_stOf.1 hm
    refine bx_stOf.2 ⟨?_, by rw [hgb n cs' hcs']; exact hg⟩
    rw [box?_setBox]
    split
    · exact ⟨_, rfl⟩
    · exact ⟨cs', hcs'⟩
  have le : Le (stOf C w0.heap.size G gb fr ts w) (stOf C w0.heap.size G (gbNew gb d b) (fr.setBox d (List.replicate cs.length (.undef, .ro))) ts w) (fun _ => True) := {
    C := rfl, base := rfl, G := fun _ h => h, low := fun _ _ => rfl
    ow := fun q _ a u hq => ⟨by
      show (fr.setBox d (List.replicate cs.length (.undef, .ro))).homes ts _ q = _
      rw [hh3, hh2]; exact hq, fun _ _ => rfl⟩ }
  -- an empty box first
  have h3 : Inv C w0 Gin G (gbNew gb d b) (fr.setBox d (List.replicate cs.length (.undef, .ro))) ts w := by
    refine ⟨h.below, h.gs, h.gin, h.size, fun n hn => (h.slots n hn).mono le hbx (Md.hit_true _) fun _ _ _ _ _ _ _ => rfl, fun n cs' hn => ?_, fun n n' c1 c2 hn hn' he => ?_, ?_, ?_⟩
    · rcases hbox n cs' hn with rfl | ⟨hne, hn'⟩
      · rw [box?_setBox, if_pos rfl] at hn
        simp only [Option.some.injEq] at hn
        subst hn
        rw [hgd]
        refine ⟨.inl ⟨c, e, hheap, by simp [hl], fun j hj => ?_⟩, hbs, f1⟩
        rw [hro j]
        refine Frz.undef _ ?_
        have hj' : j < cs.length := by simpa using hj
        exact (hr j hj').one
      · obtain ⟨hB, h4, h5⟩ := h.boxes n cs' hn'
        rw [hgb n cs' hn']
        rcases hB with ⟨c2, e2, hh2', hs2, hr2⟩ | hB
        rotate_left
        · exact ⟨.inr (hB.move rfl rfl), h4, h5⟩
        exact ⟨.inl ⟨c2, e2, hh2', hs2, fun j hj => (hr2 j hj).mono le (Own.hit_true _) fun _ _ _ => rfl⟩, h4, h5⟩
    · rcases hbox n c1 hn with rfl | ⟨hne, hn1⟩ <;> rcases hbox n' c2 hn' with rfl | ⟨hne', hn2⟩
      · rfl
      · rw [hgd, hgb n' c2 hn2] at he
        exact absurd he.symm (f2 n' c2 hn2)
      · rw [hgd, hgb n c1 hn1] at he
        exact absurd he (f2 n c1 hn1)
      · rw [hgb n c1 hn1, hgb n' c2 hn2] at he
        exact h.inj n n' c1 c2 hn1 hn2 he
    · rw [hh3, hh2]
      refine fun p a u k hp hk => ⟨(h.ow p a u k hp hk).1, fun n cs' hn => ?_⟩
      rcases hbox n cs' hn with rfl | ⟨hne, hn'⟩
      · rw [hgd]
        rintro rfl
        exact f3 p a u hp hk
      · rw [hgb n cs' hn']
        exact (h.ow p a u k hp hk).2 n cs' hn'
    · rw [hh3, hh2]; exact h.sep
  have hb3 : (fr.setBox d (List.replicate cs.length (.undef, .ro))).box? d = some (List.replicate cs.length (.undef, .ro)) := by rw [box?_setBox, if_pos rfl]
  have h4 := h3.storeBox (d := d) (off := 0) (new := cs) (c := c) (c' := c) (e := e) hb3 (by rw [hgd]; exact hheap)
    (fun j _ hj => by
      rw [hh3]
      simp only [Fr.homes, hd, homeB])
    (by simp) rfl (fun _ _ => rfl)
    (fun i hi => by
      rw [Nat.zero_add]
      exact (hr i hi).mono le (Own.hit_true _) fun _ _ _ => rfl)
    (fun j k hj ho hk => by
      simp only [Nat.zero_add] at hk
      obtain ⟨q1, q2, q3, q4⟩ := hf j k hj ho hk
      refine ⟨q1, fun n cs' hn => ?_, fun p a' u' hp => by rw [hh3, hh2] at hp; exact q3 p a' u' hp, fun j' hj' ho' hk' => by simp only [Nat.zero_add] at hk'; exact q4 j' hj' ho' hk'⟩
      rcases hbox n cs' hn with rfl | ⟨hne, hn'⟩
      · rw [hgd]
        rintro rfl
        exact hself j hj ho hk
      · rw [hgb n cs' hn']; exact q2 n cs' hn')
    (w' := w) (by rw [hgd]; exact hheap) (fun _ _ => rfl) h3.below (Nat.le_refl _)
  rw [setBox_twice, putNth_all (.undef, .ro) (by simp)] at h4
  refine ⟨h4.1, fun p a u hp => ?_⟩
  rcases h4.2 p a u hp with hp | ⟨i, q1, q2, q3, q4⟩
  · rw [hh3, hh2] at hp
    exact .inl hp
  · exact .inr ⟨i, q1, q2, q3, by rw [q4, Nat.zero_add]⟩

theorem Inv.newBox (h : Inv C w0 Gin G gb fr ts w) {d : Nat} (hd : fr.box? d = none) {cs : List (AV × Own)} {c : Array Value} {e : TypeId} (hl : c.size = cs.length)
    (hr : ∀ j, j < cs.length → RepO (stOf C w0.heap.size G gb fr ts w) (cs.getD j (.undef, .ro)).2 (c.getD j undef) (cs.getD j (.undef, .ro)).1)
    (hf : FreshC G gb fr ts w cs.length (fun i => (cs.getD i (.undef, .ro)).2) (fun i => c.getD i undef)) :
    Inv C w0 Gin G (gbNew gb d w.heap.size) (fr.setBox d cs) ts (w.alloc (.cells c e)) ∧ ∀ p a u, (fr.setBox d cs).homes ts (bvOf (w.alloc (.cells c e)) (gbNew gb d w.heap.size)) p = some (a, u) →
      fr.homes ts (bvOf w gb) p = some (a, u) ∨ ∃ i, i < cs.length ∧ (cs.getD i (.undef, .ro)).2 = .own ∧ a = (cs.getD i (.undef, .ro)).1 ∧ u = c.getD i undef := by
  obtain ⟨h1, hh1⟩ := h.alloc (.cells c e)
  have hbs : w0.heap.size ≤ w.heap.size := h.below.size
  have le : Le (stOf C w0.heap.size G gb fr ts w) (stOf C w0.heap.size G gb fr ts (w.alloc (.cells c e))) (fun _ => True) := {
    C := rfl, base := rfl, G := fun _ h => h
    low := fun b hb => Below.heap_alloc _ _ _ (by
      rcases hb with hb | hb
      · exact h.gs b hb
      · have : b < w0.heap.size := hb
        omega)
    ow := fun q _ a u hq => ⟨by
      show fr.homes ts _ q = _
      rw [hh1]; exact hq, fun k hk => Below.heap_alloc _ _ _ ((h.own hq).lt k hk).2⟩ }
  have hlt : ∀ j k, j < cs.length → (cs.getD j (.undef, .ro)).2 = .own → (c.getD j undef).ownBlock = some k → k < w.heap.size := by
    intro j k hj ho hk
    have := hr j hj
    rw [ho] at this
    exact (OwnR.lt this k hk).2
  have := h1.adoptBox (d := d) hd (b := w.heap.size) (cs := cs) (c := c) (e := e) (heap_alloc_new w _) hbs ⟨fun hg => Nat.lt_irrefl _ (h.gs _ hg), fun n cs' hn => by have := h.gb_lt hn; omega, fun p a u hp hk => by
      rw [hh1] at hp
      have := ((h.own hp).lt _ hk).2
      omega⟩ hl (fun j hj => (hr j hj).mono le (Own.hit_true _) fun ho k hk => Below.heap_alloc _ _ _ (hlt j k hj ho hk))
    (fun j k hj ho hk => by
      obtain ⟨q1, q2, q3, q4⟩ := hf j k hj ho hk
      exact ⟨q1, q2, fun p a u hp => by rw [hh1] at hp; exact q3 p a u hp, q4⟩)
    (fun j hj ho hk => by have := hlt j _ hj ho hk; omega)
  refine ⟨this.1, fun p a u hp => ?_⟩
  rcases this.2 p a u hp with hp | hp
  · rw [hh1] at hp; exact .inl hp
  · exact .inr hp
end

end Go.Dam
