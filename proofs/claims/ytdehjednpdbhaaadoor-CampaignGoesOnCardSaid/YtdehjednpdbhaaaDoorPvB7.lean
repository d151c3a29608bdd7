/- A part of an interpreter of the model's code that is proved sound, and of laws told by it: DamFill, DamStep13, DamGivs. -/
import Derived.Test.YtdehjednpdbhaaaDoorPvB6
import Derived.Laws.Tables
import Derived.Great.BuildSlice
set_option linter.unusedVariables false
set_option linter.unusedSimpArgs false
/- Aggregates put together. -/
namespace Go.Dam
open Go.RowKit
set_option linter.unusedVariables false
set_option linter.unusedSimpArgs false

def overlay (cells : Array Value) (off : Nat) (vs : Array Value) : Array Value := vs.zipIdx.foldl (fun cs (c, j) => cs.setIfInBounds (off + j) c) cells

theorem overlayL (off : Nat) : ∀ (l : List Value) (n : Nat) (cells : Array Value), off + n + l.length ≤ cells.size →
    ((l.zipIdx n).foldl (fun (cs : Array Value) (p : Value × Nat) => cs.setIfInBounds (off + p.2) p.1) cells).size = cells.size ∧
    ∀ k, ((l.zipIdx n).foldl (fun (cs : Array Value) (p : Value × Nat) => cs.setIfInBounds (off + p.2) p.1) cells).getD k undef = if off + n ≤ k ∧ k < off + n + l.length then l.getD (k - (off + n)) undef else cells.getD k undef
  | [], n, cells, _ => by
    refine ⟨rfl, fun k => ?_⟩
    rw [if_neg (by simp only [List.length_nil]; omega)]; rfl
  | v :: l, n, cells, h => by
    simp only [List.length_cons] at h
    simp only [List.zipIdx_cons, List.foldl_cons]
    obtain ⟨h1, h2⟩ := overlayL off l (n + 1) (cells.setIfInBounds (off + n) v) (by simp; omega)
    refine ⟨by rw [h1]; simp, fun k => ?_⟩
    rw [h2 k]
    simp only [List.length_cons]
    by_cases hk : off + (n + 1) ≤ k ∧ k < off + (n + 1) + l.length
    · rw [if_pos hk, if_pos (by omega)]
      have : k - (off + n) = (k - (off + (n + 1))) + 1 := by omega
      rw [this, List.getD_cons_succ]
    · rw [if_neg hk]
      by_cases hkn : k = off + n
      · subst hkn
        rw [if_pos (by omega), Nat.sub_self, List.getD_cons_zero]
        have : off + n < cells.size := by omega
        simp [this]
      · rw [if_neg (by omega)]
        simp only [Array.getD_eq_getD_getElem?]
        rw [Array.getElem?_setIfInBounds_ne (Ne.symm hkn)]
theorem overlay_spec (cells : Array Value) (off : Nat) (vs : Array Value) (h : off + vs.size ≤ cells.size) : (overlay cells off vs).size = cells.size ∧
    ∀ k, (overlay cells off vs).getD k undef = if off ≤ k ∧ k < off + vs.size then vs.getD (k - off) undef else cells.getD k undef := by
  have := overlayL off vs.toList 0 cells (by simpa using h)
  unfold overlay
  rw [← Array.foldl_toList, Array.toList_zipIdx]
  refine ⟨this.1, fun k => ?_⟩
  have h2 := this.2 k
  simp only [Nat.add_zero, Array.length_toList] at h2
  rw [h2]
  simp [List.getD_eq_getElem?_getD]

theorem fill_cons (place : Nat → Option (Nat × Nat)) (cells : Array Value) (i : Nat) (v : Value) (rest : List (Nat × Value)) {off size : Nat} (hp : place i = some (off, size)) (hv : v.cells.size = size) (hle : off + size ≤ cells.size) :
    Instr.fill place cells ((i, v) :: rest) = Instr.fill place (overlay cells off v.cells) rest := by
  have : ¬ (off + v.cells.size > cells.size) := by omega
  simp only [Instr.fill, hp, hv]
  simp only [ne_eq, not_true_eq_false, decide_false, Bool.false_or]
  rw [if_neg (by simp; omega)]
  rfl

section
variable {C : Tab} {P : Program} {w0 : World} {Gin G : Nat → Prop} {gb : Nat → Nat} {fr : Fr} {ts : Array Value} {w : World} {ds : List Deferred} {r : AV} {Q : Exit → Act → World → Prop}

theorem cellMd_rep {X : St} {m0 m : Md} {v : Value} {a : AV} (h : RepM X m0 v a) (hn : NoBlk m0 a v) (hc : cellMd m0 = some m) : RepM X m v a ∧ NoBlk m a v ∧ cellM m = true := by
  unfold cellMd at hc
  split at hc
  · simp only [Option.some.injEq] at hc; subst hc; exact ⟨h, hn, rfl⟩
  · simp only [Option.some.injEq] at hc; subst hc; exact ⟨h, hn, rfl⟩
  · simp only [Option.some.injEq] at hc; subst hc
    obtain ⟨b, k, la, rfl, rfl, h⟩ := h
    exact ⟨.inl h, NoBlk.of_owns rfl _ _, rfl⟩
  · simp only [Option.some.injEq] at hc; subst hc
    obtain ⟨b, k, la, rfl, rfl, h⟩ := h
    exact ⟨.inl h, NoBlk.of_owns rfl _ _, rfl⟩
  · simp only [Option.some.injEq] at hc; subst hc
    obtain ⟨b, hb, rfl, rfl⟩ := h
    exact ⟨.inl (Frz.undef _ rfl), NoBlk.of_owns rfl _ _, rfl⟩
  · simp at hc

theorem zip_own {X : St} (ok : Tab.Ok C P) {m : Md} {v : Value} {a : AV} {T : Nat} {z : List AV} {s b : Nat} (hi : C.info T = some (z, s, b)) (hm : RepM X m v a) (hc : cellM m = true) {cs : List AV} (hcs : cellsOf C T a = some cs) :
    ∀ j, j < s → ((cs.zip (outsT C T m cs)).getD j (.undef, .ro)).2 = .own → ∃ x, homeS m a v 0 j = some (x, v.cells.getD j undef) := by
  intro j hj ho
  obtain ⟨h1, h2, h3, h4, h5⟩ := cells_rep ok hi hm hc hcs
  obtain ⟨d, hd, hd', hag, hl, hone⟩ := isAggT_of ok hi
  have hoz : outsT C T m cs = outsZ m z cs 0 := by simp [outsT, hi]
  have hol : (outsZ m z cs 0).length = s := by rw [length_outsZ _ _ _ _ (by omega), hl]
  rw [hoz, getD_zip (by omega) j] at ho
  simp only at ho
  rcases getD_outsZ m z cs 0 j (by omega) (by omega) with ⟨e, _⟩ | e
  · rw [e] at ho; simp at ho
  · rw [e, Nat.zero_add] at ho
    cases m with
    | uni o =>
      simp only [Md.at] at ho
      subst ho
      rcases hm with hm | ⟨ho, _⟩
      · obtain ⟨S, hfz⟩ := RepO.frz hm
        have hone := hfz.one
        rw [oneCell_cells hone] at h1 ⊢
        have : s = 1 := by simpa using h1.symm
        have : j = 0 := by omega
        subst this
        exact ⟨a, by simp [homeS, Md.home1, own?, av1, val1]⟩
      · simp at ho
    | cells l =>
      simp only [Md.at] at ho
      obtain ⟨vs, la, rfl, _⟩ := hm
      exact ⟨cellN a j, by simp only [homeS, if_true, Md.home1, ho, own?]; rfl⟩
    | _ => simp [cellM] at hc

/-- Cells of a value that are laid into an aggregate. -/
theorem zip_rep2 (h : Inv C w0 Gin G gb fr ts w) (ok : Tab.Ok C P) {m : Md} {v : Value} {a : AV} {T : Nat} {z : List AV} {s b : Nat} (hi : C.info T = some (z, s, b)) (hm : RepM (stOf C w0.heap.size G gb fr ts w) m v a) (hn : NoBlk m a v) (hc : cellM m = true) {cs : List AV} (hcs : cellsOf C T a = some cs) :
    v.cells.size = s ∧ cs.length = s ∧ (cs.zip (outsT C T m cs)).length = s ∧
    ∀ j, j < s → RepO (stOf C w0.heap.size G gb fr ts w) ((cs.zip (outsT C T m cs)).getD j (.undef, .ro)).2 (v.cells.getD j undef) ((cs.zip (outsT C T m cs)).getD j (.undef, .ro)).1 ∧
      (((cs.zip (outsT C T m cs)).getD j (.undef, .ro)).2 = .own → (v.cells.getD j undef).ownBlock = none) := by
  obtain ⟨h1, h2, h3, h4⟩ := zip_rep ok hi hm (hn.fresh (G := G) (gb := gb) (fr := fr) (ts := ts) (w := w)) hc hcs
  obtain ⟨_, hcl, _⟩ := cells_rep ok hi hm hc hcs
  refine ⟨h1, hcl, h2, fun j hj => ⟨h3 j hj, fun ho => ?_⟩⟩
  obtain ⟨x, hx⟩ := zip_own ok hi hm hc hcs j hj ho
  exact hn 0 j x _ hx

/-- What is laid stands for what is told. -/
theorem fill_lay (h : Inv C w0 Gin G gb fr ts w) (ok : Tab.Ok C P) {place pl : Nat → Option (Nat × Nat)} {n : Nat} (hpl : ∀ i off t z s b, pl i = some (off, t) → C.info t = some (z, s, b) → place i = some (off, s)) :
    ∀ (ps : List (Nat × Operand)) (l : List (Nat × List (AV × Own))) (cells : Array Value) (L : List (AV × Own)), parts C fr pl n ps = some l → cells.size = n → L.length = n →
      (∀ j, j < n → RepO (stOf C w0.heap.size G gb fr ts w) (L.getD j (.undef, .ro)).2 (cells.getD j undef) (L.getD j (.undef, .ro)).1 ∧ ((L.getD j (.undef, .ro)).2 = .own → (cells.getD j undef).ownBlock = none)) →
      ∃ cells', Instr.fill place cells (ps.map fun p => (p.1, ({ tmps := ts, defers := ds } : Act).eval p.2)) = some cells' ∧ cells'.size = n ∧ (lay L l).length = n ∧
        ∀ j, j < n → RepO (stOf C w0.heap.size G gb fr ts w) ((lay L l).getD j (.undef, .ro)).2 (cells'.getD j undef) ((lay L l).getD j (.undef, .ro)).1 ∧ (((lay L l).getD j (.undef, .ro)).2 = .own → (cells'.getD j undef).ownBlock = none)
  | [], l, cells, L, hp, hs, hL, hr => by
    simp only [parts, Option.some.injEq] at hp
    subst hp
    exact ⟨cells, rfl, hs, hL, hr⟩
  | (i, x) :: ps, l, cells, L, hp, hs, hL, hr => by
    simp only [parts] at hp
    split at hp
    · simp at hp
    rename_i off t hpi
    split at hp
    case h_2 => simp at hp
    rename_i cs m r' hcs hcm hr'
    split at hp
    case isFalse => simp at hp
    rename_i hle
    have hle := Nat.le_of_ble_eq_true hle
    simp only [Option.some.injEq] at hp
    subst hp
    have hinf : ∃ z s b, C.info t = some (z, s, b) := by
      unfold cellsOf sizeC at hcs
      cases hi : C.info t with
      | none => simp [hi] at hcs
      | some i => exact ⟨i.1, i.2.1, i.2.2, rfl⟩
    obtain ⟨z, s, b, hi⟩ := hinf
    obtain ⟨h1, _⟩ := h.ev ok ds t x
    obtain ⟨r1, n1, c1⟩ := cellMd_rep h1 (ev_noblk C fr t x ts ds) hcm
    obtain ⟨z1, z2, z3, z4⟩ := zip_rep2 h ok hi r1 n1 c1 hcs
    have hov := overlay_spec cells off (({ tmps := ts, defers := ds } : Act).eval x).cells (by omega)
    obtain ⟨cells', e1, e2, e3, e4⟩ := fill_lay h ok hpl ps r' (overlay cells off (({ tmps := ts, defers := ds } : Act).eval x).cells) (putNth L off (cs.zip (outsT C t m cs))) hr' (by rw [hov.1, hs]) (by rw [length_putNth, hL]) (fun j hj => by
      rw [getD_putNth _ _ _ _ _ (by omega), hov.2 j]
      by_cases hin : off ≤ j ∧ j < off + (cs.zip (outsT C t m cs)).length
      · rw [if_pos hin, if_pos (by omega)]
        exact z4 (j - off) (by omega)
      · rw [if_neg hin, if_neg (by omega)]
        exact hr j hj)
    refine ⟨cells', ?_, e2, e3, e4⟩
    simp only [List.map_cons]
    rw [fill_cons place cells i _ _ (hpl i off t z s b hpi hi) z1 (by omega)]
    exact e1
end

end Go.Dam

/- Aggregates. -/
namespace Go.Dam
open Go.RowKit
set_option linter.unusedVariables false
set_option linter.unusedSimpArgs false

section
variable {C : Tab} {P : Program} {w0 : World} {Gin G : Nat → Prop} {gb : Nat → Nat} {fr : Fr} {ts : Array Value} {w : World} {ds : List Deferred} {r : AV} {Q : Exit → Act → World → Prop}
variable {dst : Option Nat} {type : Nat} {pos : String} {after : Array Edge} {guard : Option (Nat × Bool)} {K : Fr → Option AV} {call : Nat → List AV → Option AV}

theorem zeroOwn_rep (ok : Tab.Ok C P) {T : Nat} {z : List AV} {s b : Nat} (hi : C.info T = some (z, s, b)) {zv : Value} {i : TypeInfo} (e6 : zv.cells = (z.map zval).toArray) {j : Nat} (hj : j < z.length) :
    RepO (stOf C w0.heap.size G gb fr ts w) ((zeroOwn z).getD j (.undef, .ro)).2 (zv.cells.getD j undef) ((zeroOwn z).getD j (.undef, .ro)).1 ∧ (((zeroOwn z).getD j (.undef, .ro)).2 = .own → (zv.cells.getD j undef).ownBlock = none) := by
  have h1 : (zeroOwn z).getD j (.undef, .ro) = (z.getD j .undef, zOwn (z.getD j .undef)) := by simp [zeroOwn, List.getD_eq_getElem?_getD, hj]
  have h2 : zv.cells.getD j undef = zval (z.getD j .undef) := by rw [e6]; simp [hj]
  have hmem : z.getD j .undef ∈ z := by
    have : z.getD j .undef = z[j] := by simp [hj]
    rw [this]; exact List.getElem_mem _
  rw [h1, h2]
  obtain ⟨h3, h4⟩ := zcell_rep (w0 := w0) (G := G) (gb := gb) (fr := fr) (ts := ts) (w := w) ok hi hmem
  exact ⟨h3, fun _ => h4⟩

theorem built_done {o : Oper} (h : Inv C w0 Gin G gb fr ts w) (ok : Tab.Ok C P) {T : Nat} {cells : Array Value} {L : List (AV × Own)} (hs : cells.size = L.length)
    (hr : ∀ j, j < L.length → RepO (stOf C w0.heap.size G gb fr ts w) (L.getD j (.undef, .ro)).2 (cells.getD j undef) (L.getD j (.undef, .ro)).1 ∧ ((L.getD j (.undef, .ro)).2 = .own → (cells.getD j undef).ownBlock = none))
    (hrun : ∀ w, (execOp ({ tmps := ts, defers := ds } : Act).eval o).run P w = .ok (.value (.agg cells)) w) (hk : (builtK C T L fun x => K (fr.put o.dst x)) = some r) : StepQ C P w0 Gin ds r (fun _ => True) G gb fr ts w o K := by
  have hav : ∀ j, j < L.length → (L.map (·.1)).getD j .undef = (L.getD j (.undef, .ro)).1 := fun j hj => by simp [List.getD_eq_getElem?_getD, hj]
  have hom : ∀ j, j < L.length → (L.map (·.2)).getD j .ro = (L.getD j (.undef, .ro)).2 := fun j hj => by simp [List.getD_eq_getElem?_getD, hj]
  unfold builtK at hk
  split at hk
  · split at hk
    case isFalse => simp at hk
    rename_i hsc
    simp only [List.all_eq_true] at hsc
    refine wp_value h (x := (.agg (L.map (·.1)), .uni .ro)) hrun (.inr ⟨.inl rfl, cells, _, rfl, rfl, by simp [hs], fun j hj => ?_⟩) (NoBlk.of_owns rfl _ _) hk
    have hj' : j < L.length := by omega
    simp only [cellN]
    rw [hav j hj']
    refine (hr j hj').1.plain (o' := .ro) (hsc (L.getD j (.undef, .ro)) ?_)
    have : L.getD j (.undef, .ro) = L[j] := by simp [hj']
    rw [this]; exact List.getElem_mem _
  · refine wp_value h (x := (.agg (L.map (·.1)), .cells (L.map (·.2)))) hrun ⟨cells, _, rfl, rfl, by simp [hs], by simp [hs], fun j hj => ?_⟩ (fun c j x u hx => ?_) hk
    · have hj' : j < L.length := by simpa using hj
      simp only [cellN]
      rw [hav j hj', hom j hj']
      exact (hr j hj').1
    · simp only [homeS] at hx
      split at hx
      · obtain ⟨h1, h2⟩ := own?_some hx
        cases h2
        simp only [Md.home1] at h1
        have hj : j < L.length := by
          rcases Nat.lt_or_ge j L.length with h' | h'
          · exact h'
          · rw [getD_over _ _ (by simpa using h')] at h1; simp at h1
        rw [hom j hj] at h1
        exact (hr j hj).2 h1
      · simp at hx

theorem mapM_places : ∀ (fs : List Field), (∀ f ∈ fs, ∃ i, P.info? f.type = some i) → ∃ places, fs.mapM (fun f => (P.info? f.type).map fun i => (f.offset, i.size)) = some places ∧
    ∀ (i : Nat) (f : Field) (info : TypeInfo), fs[i]? = some f → P.info? f.type = some info → places[i]? = some (f.offset, info.size)
  | [], _ => ⟨[], by simp, by simp⟩
  | f :: fs, h => by
    obtain ⟨i0, hi0⟩ := h f (by simp)
    obtain ⟨places, hp, hg⟩ := mapM_places fs fun g hg => h g (by simp [hg])
    refine ⟨(f.offset, i0.size) :: places, by simp [List.mapM_cons, hi0, hp], fun i g info hi hinf => ?_⟩
    cases i with
    | zero =>
      simp only [List.getElem?_cons_zero, Option.some.injEq] at hi ⊢
      subst hi
      rw [hi0] at hinf; cases hinf; rfl
    | succ i =>
      simp only [List.getElem?_cons_succ] at hi ⊢
      exact hg i g info hi hinf

theorem st_build (h : Inv C w0 Gin G gb fr ts w) (ok : Tab.Ok C P) {T : Nat} {ps : Array (Nat × Operand)} (hs : step C call ⟨dst, .build T ps, type, pos, after, guard⟩ fr K = some r) :
    StepQ C P w0 Gin ds r (fun _ => True) G gb fr ts w ⟨dst, .build T ps, type, pos, after, guard⟩ K := by
  simp only [step] at hs
  have hexec : ∀ cells, P.built T (ps.toList.map fun p => (p.1, ({ tmps := ts, defers := ds } : Act).eval p.2)) = some cells →
      ∀ w, (execOp ({ tmps := ts, defers := ds } : Act).eval ⟨dst, .build T ps, type, pos, after, guard⟩).run P w = .ok (.value (.agg cells)) w := by
    intro cells hc w
    simp only [execOp]
    rw [Sem.run_bind, run_build w T _ cells (by rw [← hc]; congr 1; simp)]
    rfl
  split at hs
  · rename_i fs z s b hT hi
    split at hs
    case h_2 => simp at hs
    rename_i l hl
    obtain ⟨i, zv, e1, e2, e3, e4, e5, e6, e7, e8, e9⟩ := ok.info T z s b hi
    obtain ⟨places, hp, hg⟩ := mapM_places fs.toList (ok.fld T fs hT)
    obtain ⟨cells, c1, c2, c3, c4⟩ := fill_lay (ds := ds) h ok (place := (places.toArray[·]?)) (n := z.length) (fun i off t z' s' b' hpl hi' => by
      split at hpl
      case h_2 => simp at hpl
      rename_i f hf
      simp only [Option.some.injEq, Prod.mk.injEq] at hpl
      obtain ⟨rfl, rfl⟩ := hpl
      obtain ⟨i', _, q1, q2, _⟩ := ok.info f.type z' s' b' hi'
      have := hg i f i' (by simpa using hf) q1
      rw [q2] at this
      simpa using this) ps.toList l zv.cells (zeroOwn z) hl (by rw [e6]; simp) (by simp [zeroOwn]) (fun j hj => zeroOwn_rep (i := i) ok hi e6 hj)
    refine built_done h ok (cells := cells) (L := lay (zeroOwn z) l) (by omega) (fun j hj => c4 j (by omega)) (hexec cells ?_) hs
    simp only [Program.built, e1, ok.ty _ _ hT, e4, hp]
    exact c1
  · rename_i n e z s b hT hi
    split at hs
    case h_2 => simp at hs
    rename_i se hse
    split at hs
    case h_2 => simp at hs
    rename_i l hl
    unfold sizeC at hse
    split at hse
    case h_2 => simp at hse
    rename_i ze se' be hie
    simp only [Option.some.injEq] at hse
    subst hse
    obtain ⟨i, zv, e1, e2, e3, e4, e5, e6, e7, e8, e9⟩ := ok.info T z s b hi
    obtain ⟨ie, _, q1, q2, _⟩ := ok.info e ze se' be hie
    obtain ⟨cells, c1, c2, c3, c4⟩ := fill_lay (ds := ds) h ok (place := fun i => some (i * ie.size, ie.size)) (n := z.length) (fun i off t z' s' b' hpl hi' => by
      simp only [Option.some.injEq, Prod.mk.injEq] at hpl
      obtain ⟨rfl, rfl⟩ := hpl
      rw [hie] at hi'; cases hi'
      rw [q2]) ps.toList l zv.cells (zeroOwn z) hl (by rw [e6]; simp) (by simp [zeroOwn]) (fun j hj => zeroOwn_rep (i := i) ok hi e6 hj)
    refine built_done h ok (cells := cells) (L := lay (zeroOwn z) l) (by omega) (fun j hj => c4 j (by omega)) (hexec cells ?_) hs
    simp only [Program.built, e1, ok.ty _ _ hT, e4, q1]
    exact c1
  · simp at hs
end

end Go.Dam

/- giv, of several values one behind the other. -/
namespace Go.Dam
open Go.RowKit
set_option linter.unusedVariables false
set_option linter.unusedSimpArgs false

section
variable {C : Tab} {P : Program} {w0 : World} {Gin G : Nat → Prop} {gb : Nat → Nat} {fr : Fr} {ts : Array Value} {w : World}

/-- A value on its way, of which looks may have died. -/
def PendM (X : St) (m : Md) (v : Value) (a : AV) : Prop := match m with
  | .uni o => Pend X o v a ∨ ((o = .ro ∨ o = .lent) ∧ ∃ vs la, v = .agg vs ∧ a = .agg la ∧ la.length = vs.size ∧ ∀ j, j < vs.size → RepO X o (vs.getD j undef) (cellN a j))
  | .cells l => ∃ vs la, v = .agg vs ∧ a = .agg la ∧ la.length = vs.size ∧ vs.size = l.length ∧ ∀ j, j < l.length → Pend X (l.getD j .ro) (vs.getD j undef) (cellN a j)
  | .adr .ro 0 => RepM X (.adr .ro 0) v a
  | _ => True
theorem RepM.pend {X : St} {m : Md} {v : Value} {a : AV} (h : RepM X m v a) : PendM X m v a := by
  cases m with
  | uni o =>
    rcases h with h | h
    · exact .inl (.inl h)
    · exact .inr h
  | cells l =>
    obtain ⟨vs, la, h1, h2, h3, h4, h5⟩ := h
    exact ⟨vs, la, h1, h2, h3, h4, fun j hj => .inl (h5 j hj)⟩
  | adr o off => cases o <;> cases off <;> first | exact h | trivial
  | _ => trivial
theorem PendM.less {G1 : Nat → Prop} {fr1 : Fr} {m : Md} {v : Value} {a : AV} (h : PendM (stOf C w0.heap.size G gb fr ts w) m v a) (l : Less G fr G1 fr1 gb ts w) : PendM (stOf C w0.heap.size G1 gb fr1 ts w) m v a := by
  cases m with
  | uni o =>
    rcases h with h | ⟨ho, vs, la, h1, h2, h3, h4⟩
    · exact .inl (h.less l)
    · refine .inr ⟨ho, vs, la, h1, h2, h3, fun j hj => ?_⟩
      have := (Pend.less (.inl (h4 j hj)) l)
      rcases this with this | ⟨p, f, e, _⟩
      · exact this
      · rcases ho with rfl | rfl <;> simp at e
  | cells lo =>
    obtain ⟨vs, la, h1, h2, h3, h4, h5⟩ := h
    exact ⟨vs, la, h1, h2, h3, h4, fun j hj => (h5 j hj).less l⟩
  | adr o off =>
    cases o with
    | ro =>
      cases off with
      | zero =>
        obtain ⟨b, k, la, h1, h2, h3⟩ := h
        rcases Pend.less (.inl h3) l with h4 | ⟨p, f, e, _⟩
        · exact ⟨b, k, la, h1, h2, h4⟩
        · simp at e
      | succ n => trivial
    | _ => trivial
  | _ => trivial

theorem Inv.giv2 (own : Bool) (h : Inv C w0 Gin G gb fr ts w) {m : Md} {v : Value} {a : AV} (hm : PendM (stOf C w0.heap.size G gb fr ts w) m v a) (hn : NoBlk m a v) {m' : Md} {fr1 : Fr} (ht : Dam.giv own fr m = some (m', fr1)) :
    ∃ G1, Inv C w0 Gin G1 gb fr1 ts w ∧ Less G fr G1 fr1 gb ts w ∧ RepM (stOf C w0.heap.size G1 gb fr1 ts w) m' v a ∧ Fresh G1 gb fr1 ts w m' a v ∧ roOwn m' ∧ (own = false → allRo m') ∧
      (∀ c j x u k, homeS m' a v c j = some (x, u) → u.ownBlock = some k → ∃ p a' v', fr.homes ts (bvOf w gb) p = some (a', v') ∧ v'.ownBlock = some k ∧ fr1.homes ts (bvOf w gb) p = none) := by
  cases m with
  | unk => simp [Dam.giv] at ht
  | uni o =>
    simp only [Dam.giv] at ht
    split at ht
    case h_2 => simp at ht
    rename_i o' fr2 htk
    simp only [Option.some.injEq, Prod.mk.injEq] at ht
    obtain ⟨rfl, rfl⟩ := ht
    rcases hm with hm | ⟨ho, vs, la, rfl, rfl, hla, hr⟩
    · obtain ⟨G1, mv, hall, hall2⟩ := givOs_spec own [o] h (fun _ => v) (fun _ => a) (fun j hj => by
        have : j = 0 := by simpa using hj
        subst this
        exact hm) (fun j hj e => by
          have : j = 0 := by simpa using hj
          subst this
          exact hn 0 0 a v (by simp only [List.getD_cons_zero] at e; simp [homeS, Md.home1, e, own?, av1, val1])) _ _ htk
      have h0 := hall 0
      simp only [List.getD_cons_zero] at h0
      obtain ⟨h1, h2⟩ := mv.uni h (by rintro p f rfl; simp at h0)
      refine ⟨G1, mv.inv, mv.less, h1, h2, h0.symm, fun e => by have := hall2 e 0; simp only [List.getD_cons_zero] at this; exact this, fun c j x u k hx hk => ?_⟩
      simp only [homeS] at hx
      split at hx
      · obtain ⟨q1, q2⟩ := own?_some hx
        simp only [Md.home1] at q1
        split at q1
        · rename_i hj; subst hj; cases q2
          rcases mv.each 0 (by simp) with ⟨_, _, hb⟩ | ⟨hne, _⟩
          · obtain ⟨_, p, a', v', r1, r2, r3, _⟩ := hb k hk; exact ⟨p, a', v', r1, r2, r3⟩
          · exact absurd (by simpa using q1) hne
        · simp at q1
      · simp at hx
    · rcases ho with rfl | rfl
      · simp [givOs] at htk
        obtain ⟨rfl, rfl⟩ := htk
        exact ⟨G, h, Less.refl, .inr ⟨.inl rfl, vs, la, rfl, rfl, hla, hr⟩, Fresh.of_owns rfl _ _, .inl rfl, fun _ => rfl, fun c j x u k hx _ => by rw [homeS_owns rfl] at hx; simp at hx⟩
      · simp [givOs] at htk
  | cells l =>
    simp only [Dam.giv] at ht
    split at ht
    case h_2 => simp at ht
    rename_i l' fr2 htk
    simp only [Option.some.injEq, Prod.mk.injEq] at ht
    obtain ⟨rfl, rfl⟩ := ht
    obtain ⟨vs, la, rfl, rfl, hla, hl, hr⟩ := hm
    obtain ⟨G1, mv, hall, hall2⟩ := givOs_spec own l h (fun j => vs.getD j undef) (cellN (.agg la)) hr (fun j hj e => hn 0 j _ _ (by simp only [homeS, if_true, Md.home1, e, own?]; rfl)) _ _ htk
    rw [← hl] at mv
    obtain ⟨h1, h2⟩ := mv.cells rfl hla h fun j p f e => by
      have := hall j
      rw [e] at this; simp at this
    refine ⟨G1, mv.inv, mv.less, h1, h2, hall, hall2, fun c j x u k hx hk => ?_⟩
    simp only [homeS] at hx
    split at hx
    · obtain ⟨q1, q2⟩ := own?_some hx
      simp only [Md.home1] at q1
      cases q2
      have hj : j < vs.size := by
        rw [← mv.len]
        rcases Nat.lt_or_ge j l'.length with h' | h'
        · exact h'
        · rw [getD_over _ _ h'] at q1; simp at q1
      rcases mv.each j hj with ⟨_, _, hb⟩ | ⟨hne, _⟩
      · obtain ⟨_, p, a', v', r1, r2, r3, _⟩ := hb k hk; exact ⟨p, a', v', r1, r2, r3⟩
      · exact absurd q1 hne
    · simp at hx
  | tup l => simp [Dam.giv] at ht
  | adr o off =>
    unfold Dam.giv at ht
    split at ht <;> rename_i heq <;> first | (simp at ht; done) | cases heq
    simp only [Option.some.injEq, Prod.mk.injEq] at ht
    obtain ⟨rfl, rfl⟩ := ht
    obtain ⟨b, k, la, rfl, rfl, hm⟩ := hm
    exact ⟨G, h, Less.refl, .inl hm, Fresh.of_owns rfl _ _, .inl rfl, fun _ => rfl, fun c j x u k hx _ => by rw [homeS_owns rfl] at hx; simp at hx⟩
  | elem q i off => simp [Dam.giv] at ht
  | loc d off => simp [Dam.giv] at ht
  | fn g caps => simp [Dam.giv] at ht
  | mapAt d => simp [Dam.giv] at ht

theorem roOwn_hit {m : Md} (h : roOwn m) (hit : Place → Prop) : m.hit hit := by
  cases m with
  | uni o => rcases h with rfl | rfl <;> trivial
  | cells l =>
    intro o ho
    obtain ⟨i, hi, rfl⟩ := List.mem_iff_getElem.1 ho
    have := h i
    have e : l.getD i .ro = l[i] := by simp [hi]
    rw [e] at this
    rcases this with e | e <;> rw [e] <;> trivial
  | _ => exact h.elim
theorem RepM.less {G1 : Nat → Prop} {fr1 : Fr} {m : Md} {v : Value} {a : AV} (h : RepM (stOf C w0.heap.size G gb fr ts w) m v a) (hr : roOwn m) (l : Less G fr G1 fr1 gb ts w) : RepM (stOf C w0.heap.size G1 gb fr1 ts w) m v a :=
  h.mono l.le l.bxs (roOwn_hit hr _) fun _ _ _ _ _ _ _ => rfl
theorem Fresh.less2 {G1 : Nat → Prop} {fr1 : Fr} {m : Md} {a : AV} {v : Value} (h : Fresh G gb fr ts w m a v) (l : Less G fr G1 fr1 gb ts w) : Fresh G1 gb fr1 ts w m a v := by
  intro c j x u k hx hk
  obtain ⟨h1, h2, h3, h4⟩ := h c j x u k hx hk
  refine ⟨fun hg => ?_, fun d cs hd => ?_, fun p a' u' hp => h3 p a' u' (l.homes p a' u' hp), h4⟩
  · rcases l.back k hg with hg | ⟨p, a', v', hp, hb, _⟩
    · exact h1 hg
    · exact h3 p a' v' hp hb
  · obtain ⟨cs', hcs'⟩ := (l.box d).1 ⟨cs, hd⟩
    exact h2 d cs' hcs'

/-- Where own rows of a value came from. -/
def From (fr fr1 : Fr) (gb : Nat → Nat) (ts : Array Value) (w : World) (m : Md) (a : AV) (v : Value) : Prop :=
  ∀ c j x u k, homeS m a v c j = some (x, u) → u.ownBlock = some k → ∃ p a' v', fr.homes ts (bvOf w gb) p = some (a', v') ∧ v'.ownBlock = some k ∧ fr1.homes ts (bvOf w gb) p = none

theorem givs_spec (own : Bool) : ∀ (ms : List Md) {G : Nat → Prop} {fr : Fr} (h : Inv C w0 Gin G gb fr ts w) (vf : Nat → Value) (af : Nat → AV),
    (∀ i, i < ms.length → PendM (stOf C w0.heap.size G gb fr ts w) (ms.getD i (.uni .ro)) (vf i) (af i)) → (∀ i, i < ms.length → NoBlk (ms.getD i (.uni .ro)) (af i) (vf i)) →
    ∀ ms' fr1, givs own fr ms = some (ms', fr1) → ∃ G1, Inv C w0 Gin G1 gb fr1 ts w ∧ Less G fr G1 fr1 gb ts w ∧ ms'.length = ms.length ∧
      (∀ i, i < ms.length → RepM (stOf C w0.heap.size G1 gb fr1 ts w) (ms'.getD i (.uni .ro)) (vf i) (af i) ∧ Fresh G1 gb fr1 ts w (ms'.getD i (.uni .ro)) (af i) (vf i) ∧ roOwn (ms'.getD i (.uni .ro)) ∧ (own = false → allRo (ms'.getD i (.uni .ro))) ∧
        From fr fr1 gb ts w (ms'.getD i (.uni .ro)) (af i) (vf i)) ∧
      ∀ i i', i < ms.length → i' < ms.length → i ≠ i' → ∀ c j x u k c' j' x' u', homeS (ms'.getD i (.uni .ro)) (af i) (vf i) c j = some (x, u) → u.ownBlock = some k →
        homeS (ms'.getD i' (.uni .ro)) (af i') (vf i') c' j' = some (x', u') → u'.ownBlock = some k → False
  | [], G, fr, h, vf, af, _, _, ms', fr1, ht => by
    simp only [givs, Option.some.injEq, Prod.mk.injEq] at ht
    obtain ⟨rfl, rfl⟩ := ht
    exact ⟨G, h, Less.refl, rfl, by simp, by simp⟩
  | m :: ms, G, fr, h, vf, af, hp, hn, ms', fr1, ht => by
    simp only [givs] at ht
    split at ht
    case h_2 => simp at ht
    rename_i m' fr2 hg
    split at ht
    case h_2 => simp at ht
    rename_i ms2 fr3 hgs
    simp only [Option.some.injEq, Prod.mk.injEq] at ht
    obtain ⟨rfl, rfl⟩ := ht
    have hp0 := hp 0 (by simp)
    have hn0 := hn 0 (by simp)
    simp only [List.getD_cons_zero] at hp0 hn0
    obtain ⟨G2, i2, l2, r2, f2, q1, q2, q3⟩ := h.giv2 own hp0 hn0 hg
    obtain ⟨G3, i3, l3, hlen, hall, hcross⟩ := givs_spec own ms i2 (fun i => vf (i + 1)) (fun i => af (i + 1)) (fun i hi => by
      have := hp (i + 1) (by simpa using hi)
      rw [List.getD_cons_succ] at this
      exact this.less l2) (fun i hi => by
      have := hn (i + 1) (by simpa using hi)
      rw [List.getD_cons_succ] at this
      exact this) ms2 fr3 hgs
    have gone : ∀ p, fr2.homes ts (bvOf w gb) p = none → fr3.homes ts (bvOf w gb) p = none := by
      intro p hp
      cases hx : fr3.homes ts (bvOf w gb) p with
      | none => rfl
      | some x => rw [l3.homes p x.1 x.2 hx] at hp; simp at hp
    have key : ∀ i, i < ms.length → ∀ c j x u k c' j' x' u', homeS m' (af 0) (vf 0) c j = some (x, u) → u.ownBlock = some k → homeS (ms2.getD i (.uni .ro)) (af (i + 1)) (vf (i + 1)) c' j' = some (x', u') → u'.ownBlock = some k → False := by
      intro i hi c j x u k c' j' x' u' hx hk hx' hk'
      obtain ⟨p, a1, v1, hp1, hb1, hno⟩ := q3 c j x u k hx hk
      obtain ⟨q, a2, v2, hq2, hb2, _⟩ := (hall i hi).2.2.2.2 c' j' x' u' k hx' hk'
      have := h.sep p q a1 v1 a2 v2 k hp1 (l2.homes q a2 v2 hq2) hb1 hb2
      subst this
      rw [hno] at hq2; simp at hq2
    refine ⟨G3, i3, l2.trans l3, by simp [hlen], fun i hi => ?_, fun i i' hi hi' hne => ?_⟩
    · cases i with
      | zero =>
        simp only [List.getD_cons_zero]
        refine ⟨r2.less q1 l3, f2.less2 l3, q1, q2, fun c j x u k hx hk => ?_⟩
        obtain ⟨p, a1, v1, hp1, hb1, hno⟩ := q3 c j x u k hx hk
        exact ⟨p, a1, v1, hp1, hb1, gone p hno⟩
      | succ i =>
        simp only [List.getD_cons_succ]
        obtain ⟨s1, s2, s3, s4, s5⟩ := hall i (by simpa using hi)
        refine ⟨s1, s2, s3, s4, fun c j x u k hx hk => ?_⟩
        obtain ⟨p, a1, v1, hp1, hb1, hno⟩ := s5 c j x u k hx hk
        exact ⟨p, a1, v1, l2.homes p a1 v1 hp1, hb1, hno⟩
    · intro c j x u k c' j' x' u' hx hk hx' hk'
      cases i with
      | zero =>
        cases i' with
        | zero => exact hne rfl
        | succ i' =>
          simp only [List.getD_cons_zero, List.getD_cons_succ] at hx hx'
          exact key i' (by simpa using hi') c j x u k c' j' x' u' hx hk hx' hk'
      | succ i =>
        cases i' with
        | zero =>
          simp only [List.getD_cons_zero, List.getD_cons_succ] at hx hx'
          exact key i (by simpa using hi) c' j' x' u' k c j x u hx' hk' hx hk
        | succ i' =>
          simp only [List.getD_cons_succ] at hx hx'
          exact hcross i i' (by simpa using hi) (by simpa using hi') (by omega) c j x u k c' j' x' u' hx hk hx' hk'
end

end Go.Dam
