/- A part of an interpreter of the model's code that is proved sound, and of laws told by it: DamStep14, DamBytes. -/
import Derived.Test.YtdehjednpdbhaaaDoorPvB7
import Derived.Great.BuildSlice
import Derived.Laws.IdiomStrings
set_option linter.unusedVariables false
set_option linter.unusedSimpArgs false
/- Rows written out. -/
namespace Go.Dam
open Go.RowKit
set_option linter.unusedVariables false
set_option linter.unusedSimpArgs false

section
variable {C : Tab} {P : Program} {w0 : World} {Gin G : Nat → Prop} {gb : Nat → Nat} {fr : Fr} {ts : Array Value} {w : World} {ds : List Deferred} {r : AV} {Q : Exit → Act → World → Prop}
variable {dst : Option Nat} {type : Nat} {pos : String} {after : Array Edge} {guard : Option (Nat × Bool)} {K : Fr → Option AV} {call : Nat → List AV → Option AV}

theorem elemOk_cells {C : Tab} {e : Nat} {a : AV} (h : elemOk C e a = true) {z : List AV} {s b : Nat} (hi : C.info e = some (z, s, b)) : ∃ cs, cellsOf C e a = some cs ∧ plainOk z cs = true := by
  unfold elemOk at h
  rw [hi] at h
  cases hc : cellsOf C e a with
  | none => rw [hc] at h; simp at h
  | some cs => rw [hc] at h; exact ⟨cs, rfl, h⟩
theorem plainOk_get : ∀ (z cs : List AV) (j : Nat), plainOk z cs = true → j < z.length → j < cs.length → isPlain (z.getD j .undef) = true → isSc (cs.getD j .undef) = true := by
  intro z
  induction z with
  | nil => intro cs j _ h; simp at h
  | cons a z ih =>
    intro cs j h hj hj2 hp
    cases cs with
    | nil => simp at hj2
    | cons c cs =>
      simp only [plainOk, Bool.and_eq_true, Bool.or_eq_true, Bool.not_eq_true'] at h
      cases j with
      | zero =>
        simp only [List.getD_cons_zero] at hp ⊢
        rcases h.1 with h | h
        · rw [hp] at h; simp at h
        · exact h
      | succ j =>
        simp only [List.getD_cons_succ] at hp ⊢
        exact ih cs j h.2 (by simpa using hj) (by simpa using hj2) hp

theorem inOrder_spec : ∀ (ps : List (Nat × Operand)) (n : Nat), inOrder n ps = true → ∀ i p, ps[i]? = some p → p.1 = n + i
  | [], _, _, i, p, h => by simp at h
  | (k, x) :: ps, n, h, i, p, hp => by
    simp only [inOrder, Bool.and_eq_true, beq_iff_eq] at h
    cases i with
    | zero => simp at hp; subst hp; simpa using h.1
    | succ i =>
      have := inOrder_spec ps (n + 1) h.2 i p (by simpa using hp)
      omega

/-- Values of one size, laid one behind the other. -/
theorem fill_row (s : Nat) : ∀ (vs : List (Nat × Value)) (n : Nat) (cells : Array Value), (∀ i p, vs[i]? = some p → p.1 = n + i ∧ p.2.cells.size = s) → (n + vs.length) * s ≤ cells.size →
    ∃ cells', Instr.fill (fun i => some (i * s, s)) cells vs = some cells' ∧ cells'.size = cells.size ∧
      (∀ i p j, vs[i]? = some p → j < s → cells'.getD ((n + i) * s + j) undef = p.2.cells.getD j undef) ∧ ∀ k, k < n * s → cells'.getD k undef = cells.getD k undef
  | [], n, cells, _, _ => ⟨cells, rfl, rfl, by simp, fun _ _ => rfl⟩
  | (k, v) :: vs, n, cells, hv, hle => by
    obtain ⟨h1, h2⟩ := hv 0 (k, v) (by simp)
    simp only [Nat.add_zero] at h1 h2
    subst h1
    simp only [List.length_cons] at hle
    have hks : k * s + s ≤ cells.size := by
      have : (k + 1) * s ≤ (k + (vs.length + 1)) * s := Nat.mul_le_mul_right _ (by omega)
      rw [Nat.add_mul, Nat.one_mul] at this; omega
    have hov := overlay_spec cells (k * s) v.cells (by omega)
    obtain ⟨cells', e1, e2, e3, e4⟩ := fill_row s vs (k + 1) (overlay cells (k * s) v.cells) (fun i p hp => by
      have := hv (i + 1) p (by simpa using hp)
      exact ⟨by omega, this.2⟩) (by rw [hov.1]; rw [show k + 1 + vs.length = k + (vs.length + 1) by omega]; exact hle)
    refine ⟨cells', by rw [fill_cons (fun i => some (i * s, s)) cells k v vs rfl h2 hks]; exact e1, by rw [e2, hov.1], fun i p j hp hj => ?_, fun q hq => ?_⟩
    · cases i with
      | zero =>
        simp only [List.getElem?_cons_zero, Option.some.injEq] at hp
        subst hp
        rw [Nat.add_zero, e4 _ (by rw [Nat.add_mul, Nat.one_mul]; omega), hov.2, if_pos (by omega)]
        congr 1; omega
      | succ i =>
        have := e3 i p j (by simpa using hp) hj
        rwa [show k + 1 + i = k + (i + 1) by omega] at this
    · rw [e4 q (by rw [Nat.add_mul]; omega), hov.2, if_neg (by omega)]

theorem givs_ro (own : Bool) (fr : Fr) : ∀ n, givs own fr (List.replicate n (.uni .ro)) = some (List.replicate n (.uni .ro), fr)
  | 0 => rfl
  | n + 1 => by simp [List.replicate_succ, givs, giv, givOs, givs_ro own fr n]

theorem elCell_of (ok : Tab.Ok C P) {e : Nat} {z : List AV} {s b : Nat} (hi : C.info e = some (z, s, b)) {a : AV} {cs : List AV} (h : cellsOf C e a = some cs) {j : Nat} (hj : j < s) : cs.length = s ∧ elCell C e a j = cs.getD j .undef := by
  obtain ⟨d, hd, hd', hag, hl, hone⟩ := isAggT_of ok hi
  unfold cellsOf at h
  unfold elCell
  rw [hd'] at h ⊢
  simp only [sizeC, hi] at h
  cases ha : isAggD d with
  | true =>
    rw [ha] at h
    simp only at h
    split at h
    case h_2 => simp at h
    split at h
    case isFalse => simp at h
    rename_i hll
    simp only [Option.some.injEq] at h
    subst h
    exact ⟨hll, rfl⟩
  | false =>
    have hs1 := hone ha
    subst hs1
    rw [ha] at h
    simp only at h
    have hcs : cs = [a] := by
      split at h
      · simp at h
      · simp at h
      · simpa using h.symm
    subst hcs
    have : j = 0 := by omega
    subst this
    exact ⟨rfl, rfl⟩

theorem flatOk_of {e : Nat} {z : List AV} {s b : Nat} (hi : C.info e = some (z, s, b)) (hz : z.length = s) {cs : List AV} (hl : cs.length = s) (hp : plainOk z cs = true) : flatOk C e cs = true := by
  unfold flatOk
  split
  · rename_i hf
    unfold Tab.flat at hf
    rw [hi] at hf
    simp only [List.all_eq_true] at hf
    rw [List.all_eq_true]
    intro c hc
    obtain ⟨j, hj, rfl⟩ := List.mem_iff_getElem.1 hc
    have h1 : cs.getD j .undef = cs[j] := by simp [hj]
    have h2 : z.getD j .undef = z[j]'(by omega) := by simp [hz, hl ▸ hj]
    rw [← h1]
    exact plainOk_get z cs j hp (by omega) hj (by rw [h2]; exact hf _ (List.getElem_mem _))
  · rfl

/-- The elements of a row that is written out, frozen. -/
theorem row_cells (h : Inv C w0 Gin G gb fr ts w) (ok : Tab.Ok C P) {e : Nat} {z : List AV} {s b : Nat} (hi : C.info e = some (z, s, b)) (hs0 : 0 < s) (xs : List Operand) (hel : ∀ x ∈ xs, elemOk C e (ev C fr e x).1 = true) {ms' : List Md} {fr1 : Fr}
    (hg : givs false fr (xs.map fun x => normM C e (ev C fr e x).2) = some (ms', fr1)) :
    ∃ G1, Inv C w0 Gin G1 gb fr1 ts w ∧ Less G fr G1 fr1 gb ts w ∧ ∀ (i : Nat) (x : Operand), xs[i]? = some x → (({ tmps := ts, defers := ds } : Act).eval x).cells.size = s ∧ ∃ cs, cellsOf C e (ev C fr e x).1 = some cs ∧ cs.length = s ∧ plainOk z cs = true ∧
      ∀ j, j < s → Frz C G1 w ((({ tmps := ts, defers := ds } : Act).eval x).cells.getD j undef) (cs.getD j .undef) := by
  obtain ⟨d, hd, hd', hag, hzl, hone⟩ := isAggT_of ok hi
  have hcell : ∀ x ∈ xs, ∃ cs, cellsOf C e (ev C fr e x).1 = some cs ∧ cs.length = s ∧ plainOk z cs = true ∧ flatOk C e cs = true := by
    intro x hx
    obtain ⟨cs, hcs, hp⟩ := elemOk_cells (hel x hx) hi
    have hl := (elCell_of ok hi hcs hs0).1
    exact ⟨cs, hcs, hl, hp, flatOk_of hi hzl hl hp⟩
  by_cases hf : C.flat e = true
  · have hmap : (xs.map fun x => normM C e (ev C fr e x).2) = List.replicate xs.length (.uni .ro) := by
      rw [List.eq_replicate_iff]
      refine ⟨by simp, fun m hm => ?_⟩
      obtain ⟨x, _, rfl⟩ := List.mem_map.1 hm
      simp [normM, hf]
    rw [hmap, givs_ro] at hg
    simp only [Option.some.injEq, Prod.mk.injEq] at hg
    obtain ⟨_, rfl⟩ := hg
    refine ⟨G, h, Less.refl, fun i x hx => ?_⟩
    obtain ⟨cs, hcs, hl, hp, hfo⟩ := hcell x (List.mem_of_getElem? hx)
    obtain ⟨G1, z', s', b', hi', i1, l1, c1, c2, c3⟩ := giv_cells (ds := ds) h ok hcs hfo (m' := .uni .ro) (fr1 := fr) (by simp [normM, hf, giv, givOs])
    rw [hi] at hi'; cases hi'
    refine ⟨c1, cs, hcs, hl, hp, fun j hj => ?_⟩
    -- what is frozen in G1 of a flat cell needs no block
    have hsc : isSc (cs.getD j .undef) = true := by
      simp only [flatOk, hf, if_true, List.all_eq_true] at hfo
      have : cs.getD j .undef = cs[j]'(by omega) := by simp [hl, hj]
      rw [this]; exact hfo _ (List.getElem_mem _)
    obtain ⟨u, hu⟩ := isSc_eq hsc
    have := c3 j hj
    rw [hu] at this ⊢
    generalize (({ tmps := ts, defers := ds } : Act).eval x).cells.getD j undef = v at this ⊢
    cases this
    exact .sc _ (by assumption)
  · have hnorm : (xs.map fun x => normM C e (ev C fr e x).2) = xs.map fun x => (ev C fr e x).2 := by simp [normM, hf]
    rw [hnorm] at hg
    have hget : ∀ i x, xs[i]? = some x → (xs.map fun x => (ev C fr e x).2).getD i (.uni .ro) = (ev C fr e x).2 := fun i x hx => by simp [List.getD_eq_getElem?_getD, hx]
    have hopt : ∀ i, i < xs.length → ∃ x, xs[i]? = some x := fun i hi => ⟨xs[i], by simp [hi]⟩
    obtain ⟨G1, i1, l1, _, hall, _⟩ := givs_spec false (xs.map fun x => (ev C fr e x).2) h (fun i => ({ tmps := ts, defers := ds } : Act).eval (xs.getD i (.const undef))) (fun i => (ev C fr e (xs.getD i (.const undef))).1)
      (fun i hi' => by
        obtain ⟨x, hx⟩ := hopt i (by simpa using hi')
        have hx2 : xs.getD i (.const undef) = x := by simp [List.getD_eq_getElem?_getD, hx]
        rw [hget i x hx, hx2]
        exact (h.ev ok ds e x).1.pend)
      (fun i hi' => by
        obtain ⟨x, hx⟩ := hopt i (by simpa using hi')
        have hx2 : xs.getD i (.const undef) = x := by simp [List.getD_eq_getElem?_getD, hx]
        rw [hget i x hx, hx2]
        exact ev_noblk C fr e x ts ds) ms' fr1 hg
    refine ⟨G1, i1, l1, fun i x hx => ?_⟩
    have hil : i < xs.length := (List.getElem?_eq_some_iff.1 hx).1
    have hx2 : xs.getD i (.const undef) = x := by simp [List.getD_eq_getElem?_getD, hx]
    obtain ⟨cs, hcs, hl, hp, hfo⟩ := hcell x (List.mem_of_getElem? hx)
    obtain ⟨r1, f1, q1, q2, _⟩ := hall i (by simpa using hil)
    rw [hx2] at r1
    obtain ⟨c1, c2, c3, _⟩ := cells_rep ok hi r1 (cellM_roOwn q1) hcs
    refine ⟨c1, cs, hcs, hl, hp, fun j hj => ?_⟩
    have := c3 j hj
    rw [at_ro (q2 rfl) j] at this
    exact this

theorem run_buildSlice0 (w : World) (t e : TypeId) (ie : TypeInfo) (hu : P.underlying t = some (.slice e)) (hie : P.info? e = some ie) :
    (Instr.buildSlice t 0 #[]).run P w = .ok (.slice (some ⟨w.heap.size, 0, none⟩) 0 0) (w.alloc (.cells #[] e)) := by
  simp [Instr.buildSlice, run_underlying hu, sizeOf, typeInfo, hie, Instr.fill, newRow]
  congr 2
  apply Array.ext'
  simp

theorem run_buildSlice_all (ok : Tab.Ok C P) {T e n : Nat} {ps : Array (Nat × Operand)} {z : List AV} {s b : Nat} (hT : C.ty T = some (.slice e)) (hi : C.info e = some (z, s, b)) (hs0 : 0 < s) (hsm : n * s ≤ 16777216) (hlen : ps.toList.length = n)
    (hat : ∀ (k : Nat) (p : Nat × Operand), ps.toList[k]? = some p → p.1 = k ∧ (({ tmps := ts, defers := ds } : Act).eval p.2).cells.size = s) :
    ∃ cells : Array Value, (∀ w, (Instr.buildSlice T n (ps.map fun p => (p.1, ({ tmps := ts, defers := ds } : Act).eval p.2))).run P w = .ok (.slice (some ⟨w.heap.size, 0, none⟩) n n) (w.alloc (.cells cells e))) ∧ cells.size = n * s ∧
      ∀ (k : Nat) (p : Nat × Operand) (j : Nat), ps.toList[k]? = some p → j < s → cells.getD (k * s + j) undef = (({ tmps := ts, defers := ds } : Act).eval p.2).cells.getD j undef := by
  obtain ⟨i, zv, e1, e2, e3, e4, e5, e6, e7, e8, e9⟩ := ok.info e z s b hi
  by_cases hn : n = 0
  · subst hn
    have hps : ps.toList = [] := List.length_eq_zero_iff.1 hlen
    have hps' : ps = #[] := by rw [← Array.toList_inj, hps]
    subst hps'
    exact ⟨#[], fun w => by rw [Array.map_empty]; exact run_buildSlice0 w T e i (ok.ty _ _ hT) e1, by simp, by simp⟩
  · have hvs : ∀ k p, (ps.toList.map fun p => (p.1, ({ tmps := ts, defers := ds } : Act).eval p.2))[k]? = some p → p.1 = 0 + k ∧ p.2.cells.size = s := by
      intro k p hp
      rw [List.getElem?_map] at hp
      cases hq : ps.toList[k]? with
      | none => rw [hq] at hp; simp at hp
      | some q =>
        rw [hq] at hp
        simp only [Option.map_some, Option.some.injEq] at hp
        subst hp
        obtain ⟨q1, q2⟩ := hat k q hq
        exact ⟨by simpa using q1, q2⟩
    obtain ⟨cells, f1, f2, f3, _⟩ := fill_row s (ps.toList.map fun p => (p.1, ({ tmps := ts, defers := ds } : Act).eval p.2)) 0 ((Array.range (n * i.size)).map (zv.cells[· % zv.cells.size]!)) hvs (by simp [hlen, e2])
    refine ⟨cells, fun w => ?_, by rw [f2]; simp [e2], fun k p j hp hj => ?_⟩
    · refine run_buildSlice w T e n _ cells i zv (ok.ty _ _ hT) e1 e4 (by rw [e2]; omega) ?_ ?_
      · rw [e2]
        intro h0
        rcases Nat.mul_eq_zero.1 h0 with h0 | h0 <;> omega
      · rw [← f1, e2]
        congr 1
        simp
    · have := f3 k (p.1, ({ tmps := ts, defers := ds } : Act).eval p.2) j (by rw [List.getElem?_map, hp]; rfl) hj
      rwa [Nat.zero_add] at this

/-- The row that is written out: its cells; a row of one's own wherever these cells lie. -/
theorem buildSlice_core (h : Inv C w0 Gin G gb fr ts w) (ok : Tab.Ok C P) {T n : Nat} {ps : Array (Nat × Operand)} {o : Oper} (ho : o.op = .buildSlice T n ps) (hs : step C call o fr K = some r) :
    ∃ (e : Nat) (cells : Array Value) (G1 : Nat → Prop) (fr1 : Fr) (L : List AV), (∀ w, (execOp ({ tmps := ts, defers := ds } : Act).eval o).run P w = .ok (.value (.slice (some ⟨w.heap.size, 0, none⟩) n n)) (w.alloc (.cells cells e))) ∧
      Inv C w0 Gin G1 gb fr1 ts w ∧ Less G fr G1 fr1 gb ts w ∧ K (fr1.put o.dst (.sl e L, .uni .own)) = some r ∧ L.length = n ∧
      ∀ (w' : World) (b : Nat), w'.heap[b]? = some (.cells cells e (0, 0)) → w0.heap.size ≤ b → (∀ k, G1 k → w'.heap[k]? = w.heap[k]?) → OwnR C G1 w0.heap.size w' (.slice (some ⟨b, 0, none⟩) n n) (.sl e L) := by
  obtain ⟨dst, op, type, pos, after, guard⟩ := o
  simp only at ho
  subst ho
  simp only [step] at hs
  split at hs
  case h_2 => simp at hs
  rename_i e hT
  split at hs
  case isFalse => simp at hs
  rename_i hc
  simp only [Bool.and_eq_true, List.all_eq_true] at hc
  obtain ⟨⟨⟨⟨hord, hlen⟩, hcell⟩, hsmall⟩, hel⟩ := hc
  have hlen : ps.toList.length = n := by simpa using hlen
  split at hs
  case h_2 => simp at hs
  rename_i ms' fr1 hg
  have hinf : ∃ z s b, C.info e = some (z, s + 1, b) := by
    unfold hasCells sizeC at hcell
    cases hi : C.info e with
    | none => simp [hi] at hcell
    | some i =>
      obtain ⟨z, s, b⟩ := i
      cases s with
      | zero => simp [hi] at hcell
      | succ s => exact ⟨z, s, b, rfl⟩
  obtain ⟨z, s0, bb, hi⟩ := hinf
  obtain ⟨s, hs0, hse⟩ : ∃ s, 0 < s ∧ s = s0 + 1 := ⟨s0 + 1, by omega, rfl⟩
  rw [← hse] at hi
  have hsm : n * s ≤ 16777216 := by
    unfold smallRow sizeC at hsmall
    rw [hi] at hsmall
    exact Nat.le_of_ble_eq_true hsmall
  obtain ⟨d, hd, hd', hag, hzl, hone⟩ := isAggT_of ok hi
  obtain ⟨i, zv, e1, e2, e3, e4, e5, e6, e7, e8, e9⟩ := ok.info e z s bb hi
  have hmapx : (ps.toList.map fun p => normM C e (ev C fr e p.2).2) = (ps.toList.map (·.2)).map fun x => normM C e (ev C fr e x).2 := by simp
  rw [hmapx] at hg
  obtain ⟨G1, i1, l1, hall⟩ := row_cells (ds := ds) h ok hi hs0 (ps.toList.map (·.2)) (fun x hx => by
    obtain ⟨p, hp, rfl⟩ := List.mem_map.1 hx
    exact hel p hp) hg
  have hat : ∀ (k : Nat) (p : Nat × Operand), ps.toList[k]? = some p → p.1 = k ∧ (({ tmps := ts, defers := ds } : Act).eval p.2).cells.size = s ∧ ∃ cs, cellsOf C e (ev C fr e p.2).1 = some cs ∧ cs.length = s ∧ plainOk z cs = true ∧
      ∀ j, j < s → Frz C G1 w ((({ tmps := ts, defers := ds } : Act).eval p.2).cells.getD j undef) (cs.getD j .undef) := by
    intro k p hp
    have := inOrder_spec ps.toList 0 hord k p hp
    exact ⟨by omega, hall k p.2 (by simp [hp])⟩
  obtain ⟨cells, hrun, hsz, hget⟩ := run_buildSlice_all (ts := ts) (ds := ds) (P := P) ok hT hi hs0 hsm hlen fun k p hp => by
    obtain ⟨q1, q2, _⟩ := hat k p hp
    exact ⟨q1, q2⟩
  have hnl : n ≤ maxLen := by
    have : n ≤ n * s := Nat.le_mul_of_pos_right _ hs0
    simp only [maxLen]; omega
  refine ⟨e, cells, G1, fr1, ps.toList.map fun p => (ev C fr e p.2).1, fun w => ?_, i1, l1, hs, by rw [List.length_map, hlen], fun w' b hb hge hG => ?_⟩
  · simp only [execOp]
    rw [Sem.run_bind, hrun w]
    rfl
  · have hcellk : ∀ k j, k < ps.toList.length → j < s → ∃ (p : Nat × Operand) (cs : List AV), ps.toList[k]? = some p ∧ (ps.toList.map fun p => (ev C fr e p.2).1).getD k .undef = (ev C fr e p.2).1 ∧ cellsOf C e (ev C fr e p.2).1 = some cs ∧ cs.length = s ∧ plainOk z cs = true ∧
        elCell C e (ev C fr e p.2).1 j = cs.getD j .undef ∧ Frz C G1 w ((({ tmps := ts, defers := ds } : Act).eval p.2).cells.getD j undef) (cs.getD j .undef) := by
      intro k j hk hj
      obtain ⟨p, hp⟩ : ∃ p, ps.toList[k]? = some p := ⟨ps.toList[k], by simp [hk]⟩
      obtain ⟨_, _, cs, q1, q2, q3, q4⟩ := hat k p hp
      refine ⟨p, cs, hp, ?_, q1, q2, q3, (elCell_of ok hi q1 hj).2, q4 j hj⟩
      rw [List.getD_eq_getElem?_getD, List.getElem?_map, hp]
      rfl
    have hrow : w'.ownsRow w0.heap.size e s (.slice (some ⟨b, 0, none⟩) n n) n cells.toList :=
      ⟨by simpa using hsz, .inr ⟨b, n, cells, rfl, hge, hb, Nat.le_refl _, hnl, hsz, List.take_of_length_le (by rw [Array.length_toList, hsz]; exact Nat.le_refl _)⟩⟩
    refine ⟨e, _, z, s, bb, _, rfl, hi, by rw [List.length_map, hlen]; exact rowOf.of hrow, fun k j hk hj hz => ?_, fun k j hk hj => ?_⟩
    · rw [List.length_map] at hk
      obtain ⟨p, cs, hp, hpk, q1, q2, q3, q4, q5⟩ := hcellk k j hk hj
      rw [hpk, q4]
      exact plainOk_get z cs j q3 (by omega) (by omega) hz
    · rw [List.length_map] at hk
      obtain ⟨p, cs, hp, hpk, q1, q2, q3, q4, q5⟩ := hcellk k j hk hj
      rw [hpk, q4]
      refine ⟨_, ?_, q5.mono (fun _ h => h) fun b hb => hG b hb⟩
      have hlt : k * s + j < n * s := by
        have h1 : (k + 1) * s ≤ n * s := Nat.mul_le_mul_right _ (by omega)
        rw [Nat.add_mul] at h1; omega
      rw [← hget k p j hp hj]
      have : k * s + j < cells.size := by omega
      simp [this]

theorem st_buildSlice (h : Inv C w0 Gin G gb fr ts w) (ok : Tab.Ok C P) {T n : Nat} {ps : Array (Nat × Operand)} (hs : step C call ⟨dst, .buildSlice T n ps, type, pos, after, guard⟩ fr K = some r) :
    StepOk C P w0 Gin ds r Q G gb fr true ts w ⟨dst, .buildSlice T n ps, type, pos, after, guard⟩ K := by
  obtain ⟨e, cells, G1, fr1, L, hrun, i1, l1, hk, hL, hrow⟩ := buildSlice_core (ds := ds) h ok rfl hs
  obtain ⟨i2, hh2⟩ := i1.alloc (.cells cells e)
  refine wp_val2 i2 (StepRel.grown l1 true (by simp) (fun b hb => Below.heap_alloc w _ b hb) hh2) (x := (.sl e L, .uni .own)) (v := .slice (some ⟨w.heap.size, 0, none⟩) n n) (hrun w) (.inl ?_) ?_ (fun c j T3 l3 u k hx hk hlt => (newRow_home hx hk hlt).elim) l1.dead hk
  · exact hrow _ _ (heap_alloc_new w _) h.below.size fun b hb => Below.heap_alloc w _ b (i1.gs b hb)
  · refine freshSl fun k hk => ?_
    simp only [Value.ownBlock, Option.some.injEq] at hk
    subst hk
    refine ⟨fun hg => Nat.lt_irrefl _ (i1.gs _ hg), fun d cs hd => ?_, fun p a2 u hp hk => ?_⟩
    · have := i1.gb_lt hd; omega
    · rw [hh2] at hp
      have := ((i1.own hp).lt _ hk).2
      omega
end

end Go.Dam

/- Strings as rows of bytes, and back. -/
namespace Go.Dam
open Go.RowKit
set_option linter.unusedVariables false
set_option linter.unusedSimpArgs false

section
variable {C : Tab} {P : Program} {w0 : World} {Gin G : Nat → Prop} {gb : Nat → Nat} {fr : Fr} {ts : Array Value} {w : World} {ds : List Deferred} {r : AV} {Q : Exit → Act → World → Prop}
variable {dst : Option Nat} {type : Nat} {pos : String} {after : Array Edge} {guard : Option (Nat × Bool)} {K : Fr → Option AV} {call : Nat → List AV → Option AV}

theorem bytesK_some {R : Type} {r : R} : ∀ {l : List AV} {K : List UInt8 → Option R}, bytesK l K = some r → ∃ ns : List Int, l = ns.map (fun n => .sc (.int .u8 n)) ∧ K (ns.map fun n => UInt8.ofNat n.toNat) = some r
  | [], K, h => ⟨[], rfl, h⟩
  | a :: l, K, h => by
    simp only [bytesK] at h
    obtain ⟨n, e1, h1⟩ := castI_some h
    obtain ⟨ns, e2, h2⟩ := bytesK_some h1
    exact ⟨n :: ns, by rw [e1, e2]; rfl, h2⟩
theorem foldl_pushes : ∀ (ns : List Int) (b : ByteArray), ns.foldl (fun r n => r.push (UInt8.ofNat n.toNat)) b = ⟨b.data ++ (ns.map fun n => UInt8.ofNat n.toNat).toArray⟩
  | [], b => by simp
  | n :: ns, b => by
    simp only [List.foldl_cons, List.map_cons]
    rw [foldl_pushes ns]
    simp [ByteArray.push]

theorem elCell_u8 {e : Nat} (he : C.ty e = some (.int .u8)) (a : AV) (j : Nat) : elCell C e a j = a := by
  simp [elCell, isAggT, he, isAggD]

theorem st_convert (h : Inv C w0 Gin G gb fr ts w) (ok : Tab.Ok C P) {s d : Nat} {x : Operand} (hs : step C call ⟨dst, .convert s d x, type, pos, after, guard⟩ fr K = some r) :
    StepOk C P w0 Gin ds r Q G gb fr true ts w ⟨dst, .convert s d x, type, pos, after, guard⟩ K := by
  have hs0 := hs
  simp only [step] at hs
  split at hs
  · rename_i k' k h1 h2
    exact (st_convertI h ok h1 hs0).ok trivial true
  · rename_i e h1 h2
    split at hs
    case h_2 => simp at hs
    rename_i he
    obtain ⟨b, hb, hs⟩ := castS_some hs
    split at hs
    case h_2 => simp at hs
    rename_i hc
    simp only [Bool.and_eq_true, Nat.ble_eq] at hc
    obtain ⟨h1c, hsz⟩ := hc
    have hx := ev_sc (ds := ds) h ok hb
    obtain ⟨z, bytes, hi⟩ : ∃ z bytes, C.info e = some (z, 1, bytes) := by
      unfold sizeIs sizeC at h1c
      cases hi : C.info e with
      | none => simp [hi] at h1c
      | some i =>
        obtain ⟨z, n, bytes⟩ := i
        simp only [hi] at h1c
        have h1c := Nat.eq_of_beq_eq_true h1c
        subst h1c
        exact ⟨z, bytes, rfl⟩
    have hrun := run_bytes_of_string (P := P) w s d e b (ok.ty _ _ h1) (ok.ty _ _ h2) (ok.ty _ _ he)
    have hml : b.size ≤ maxLen := by simp only [maxLen]; omega
    have hge : b.size ≤ grownCap w b.size 0 e := grownCap_ge w b.size 0 e
    have hcm : grownCap w b.size 0 e ≤ maxLen := grownCap_le_maxLen w b.size 0 e hml
    generalize grownCap w b.size 0 e = cap at hrun hge hcm
    generalize hrow : bytesRow b cap = row at hrun
    have hbs : b.data.size = b.size := rfl
    have hrs : row.size = cap := by rw [← hrow]; simp [bytesRow]; omega
    obtain ⟨i2, hh2⟩ := h.grown (w' := w.drew.alloc (.cells row e (row.size, row.size + 1))) (row := none) ⟨rfl, rfl, rfl, by simp, fun k hk _ => heap_alloc_old w.drew _ k hk⟩ (fun k hk => by simp at hk)
    refine wp_val2 i2 (StepRel.grown Less.refl true (by simp) (fun k hk => heap_alloc_old w.drew _ k hk) hh2) (x := (.sl e (b.data.toList.map fun c => .sc (.int .u8 c.toNat)), .uni .own)) (v := .slice (some ⟨w.heap.size, 0, none⟩) b.size cap) ?_ (.inl ?_) ?_ (fun c j T3 l3 u k hx hk hlt => (newRow_home hx hk hlt).elim) (fun _ h => h) hs
    · simp only [execOp, hx]
      rw [Sem.run_bind, hrun]
      rfl
    · show OwnR C G w0.heap.size _ _ _
      have hget : ∀ k (hk : k < b.data.size), row[k]? = some (.int .u8 (b.data[k].toNat : Int)) := fun k hk => by
        rw [← hrow]
        have hk' : k < b.size := by omega
        simp [bytesRow, Array.getElem?_append, hk, hk']
      refine ⟨e, _, z, 1, bytes, row.toList.take (b.size * 1), rfl, hi, ?_, fun k j hk hj hz => ?_, fun k j hk hj => ?_⟩
      · rw [List.length_map, Array.length_toList, hbs]
        refine ⟨by simp; omega, .inr ⟨w.heap.size, cap, row, _, rfl, h.below.size, heap_alloc_new w.drew _, .inr (Nat.le_refl _), hge, hcm, by omega, rfl⟩⟩
      · rw [List.length_map, Array.length_toList] at hk
        rw [elCell_u8 he]
        have hd : b.data[k]? = some b.data[k] := Array.getElem?_eq_getElem hk
        simp [List.getD_eq_getElem?_getD, hd, isSc]
      · rw [List.length_map, Array.length_toList] at hk
        have hj0 : j = 0 := by omega
        subst hj0
        rw [elCell_u8 he]
        refine ⟨.int .u8 (b.data[k].toNat : Int), ?_, ?_⟩
        · rw [List.getElem?_take, if_pos (by omega)]
          simp only [Nat.mul_one, Nat.add_zero, Array.getElem?_toList]
          exact hget k hk
        · have : (b.data.toList.map fun c => AV.sc (.int .u8 (c.toNat : Int))).getD k .undef = .sc (.int .u8 (b.data[k].toNat : Int)) := by
            have hd : b.data[k]? = some b.data[k] := Array.getElem?_eq_getElem hk
            simp [List.getD_eq_getElem?_getD, hd]
          rw [this]
          exact .sc _ rfl
    · refine freshSl fun k hk => ?_
      simp only [Value.ownBlock, Option.some.injEq] at hk
      subst hk
      refine ⟨fun hg => Nat.lt_irrefl _ (h.gs _ hg), fun d cs hd => ?_, fun p a2 u hp hk => ?_⟩
      · have := h.gb_lt hd; omega
      · rw [hh2] at hp
        have := ((h.own hp).lt _ hk).2
        omega
  · rename_i e h1 h2
    split at hs
    case h_2 => simp at hs
    rename_i he
    split at hs
    case h_2 => simp at hs
    rename_i h1c
    obtain ⟨l, hl, hs⟩ := castL_some hs
    obtain ⟨ns, hns, hs'⟩ := bytesK_some hs
    subst hns
    obtain ⟨z, bytes, hi⟩ : ∃ z bytes, C.info e = some (z, 1, bytes) := by
      unfold sizeIs sizeC at h1c
      cases hi : C.info e with
      | none => simp [hi] at h1c
      | some i =>
        obtain ⟨z, n, bytes⟩ := i
        simp only [hi] at h1c
        have h1c := Nat.eq_of_beq_eq_true h1c
        subst h1c
        exact ⟨z, bytes, rfl⟩
    obtain ⟨e1, _⟩ := h.ev ok ds s x
    rw [hl] at e1
    obtain ⟨o, _, hro⟩ := RepM.sl e1
    obtain ⟨S, hf⟩ := RepO.frz hro
    obtain ⟨A, cap, s', b', z', ad, cv, hv, hi', hcap, hcm, hA, hc, hp, hr⟩ := hf.slice
    change C.info e = _ at hi'
    change ∀ i j, _ → _ → w.cell? _ = _ at hc
    change ∀ i j, _ → _ → Frz C S w _ (elCell C e _ _) at hr
    rw [hi] at hi'; cases hi'
    have hcv : ∀ k (hk : k < ns.length), cv k 0 = .int .u8 ns[k] := fun k hk => by
      have := hr k 0 (by simpa using hk) (by omega)
      rw [elCell_u8 he] at this
      have e2 : (ns.map fun n => AV.sc (.int .u8 n)).getD k .undef = .sc (.int .u8 ns[k]) := by simp [List.getD_eq_getElem?_getD, hk]
      rw [e2] at this
      generalize hq : cv k 0 = u at this
      cases this
      rfl
    have hrun : (convert s d (({ tmps := ts, defers := ds } : Act).eval x)).run P w = .ok (.string ⟨(ns.map fun n => UInt8.ofNat n.toNat).toArray⟩) w := by
      rw [hv, run_convert_bytes_string w s d e A _ cap (ok.ty _ _ h1) (ok.ty _ _ he) (ok.ty _ _ h2)]
      rcases Nat.eq_zero_or_pos ns.length with h0 | h0
      · have : ns = [] := List.eq_nil_of_length_eq_zero h0
        subst this
        cases A with
        | none => rfl
        | some a =>
          have := run_bytesToString (P := P) w a 0 cap [] (by simpa using run_loadCells_list (P := P) w a [] (by simp))
          exact this
      · obtain ⟨rfl, _, _⟩ := hA (by simpa using h0)
        have hload := run_loadCells_list (P := P) w ad (ns.map (Value.int .u8)) (fun j v hj => by
          have hj' : j < ns.length := by have := (List.getElem?_eq_some_iff.1 hj).1; simpa using this
          have := hc j 0 (by simpa using hj') (by omega)
          rw [Nat.mul_one, Nat.add_zero, hcv j hj'] at this
          rw [this]
          simpa [hj'] using hj)
        simp only [List.length_map] at hload ⊢
        rw [run_bytesToString w ad ns.length cap ns hload, foldl_pushes]
        have he0 : ByteArray.empty.data = #[] := rfl
        rw [he0]
        simp
    exact StepQ.ok (S := fun w' => w' = w) ⟨G, fr, (.sc (.string ⟨(ns.map fun n => UInt8.ofNat n.toNat).toArray⟩), .uni .ro), .string ⟨(ns.map fun n => UInt8.ofNat n.toNat).toArray⟩, fun w' hw => by subst hw; simp only [execOp]; rw [Sem.run_bind, hrun]; rfl, h, Less.refl, sc_rep rfl, Fresh.of_owns rfl _ _, .of_noblk (NoBlk.of_owns rfl _ _), hs'⟩ rfl true
  · simp at hs
end

end Go.Dam
