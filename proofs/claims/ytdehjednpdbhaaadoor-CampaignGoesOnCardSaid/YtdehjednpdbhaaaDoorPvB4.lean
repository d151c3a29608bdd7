/- A part of an interpreter of the model's code that is proved sound, and of laws told by it: DamStep7, DamStep8. -/
import Derived.Test.YtdehjednpdbhaaaDoorPvB3
set_option linter.unusedVariables false
set_option linter.unusedSimpArgs false
/- New variables, one by one. -/
namespace Go.Dam
open Go.RowKit
set_option linter.unusedVariables false
set_option linter.unusedSimpArgs false

section
variable {C : Tab} {P : Program} {w0 : World} {Gin G : Nat → Prop} {gb : Nat → Nat} {fr : Fr} {ts : Array Value} {w : World} {ds : List Deferred} {r : AV} {Q : Exit → Act → World → Prop}
variable {dst : Option Nat} {type : Nat} {pos : String} {after : Array Edge} {guard : Option (Nat × Bool)} {K : Fr → Option AV} {call : Nat → List AV → Option AV}

/-- An operation that yields a value and leaves another world. -/
theorem wp_val2 {o : Oper} {K : Fr → Option AV} {G2 : Nat → Prop} {gb2 : Nat → Nat} {fr2 : Fr} {w2 : World} (h : Inv C w0 Gin G2 gb2 fr2 ts w2) {soft : Bool} (rel : StepRel C G gb fr ts w G2 gb2 fr2 ts w2 soft) {x : AV × Md} {v : Value}
    (hrun : (execOp ({ tmps := ts, defers := ds } : Act).eval o).run P w = .ok (.value v) w2)
    (hx : RepM (stOf C w0.heap.size G2 gb2 fr2 ts w2) x.2 v x.1) (hf : Fresh G2 gb2 fr2 ts w2 x.2 x.1 v)
    (hrow : ∀ c j T l u k, homeS x.2 x.1 v c j = some (.sl T l, u) → u.ownBlock = some k → k < w.heap.size → ∃ p l0 v', fr.homes ts (bvOf w gb) p = some (.sl T l0, v') ∧ v'.ownBlock = some k ∧ l0.length ≤ l.length)
    (hdead : ∀ d, fr.getS d = none1 → fr2.getS d = none1) (hk : K (fr2.put o.dst x) = some r) : StepOk C P w0 Gin ds r Q G gb fr soft ts w o K := by
  unfold StepOk Oper.wp
  rw [hrun]
  exact ⟨G2, gb2, _, _, put_eta ts ds o.dst v, h.put o.dst hx hf ds, hk, rel.put h.size ds o.dst hrow, fun d hd hn => getS_put_dead hd (hdead d hn), v, rfl⟩
theorem noRow {m : Md} (h : m.owns = false) (a : AV) (v : Value) : ∀ c j T l u k, homeS m a v c j = some (.sl T l, u) → u.ownBlock = some k → k < w.heap.size → ∃ p l0 v', fr.homes ts (bvOf w gb) p = some (.sl T l0, v') ∧ v'.ownBlock = some k ∧ l0.length ≤ l.length := by
  intro c j T l u k hx
  rw [homeS_owns h] at hx; simp at hx

theorem StepRel.newBox {G1 : Nat → Prop} {fr1 : Fr} (lss : Less G fr G1 fr1 gb ts w) (soft : Bool) {d : Nat} {cs : List (AV × Own)} {c : Array Value} {o : Obj}
    (hnew : ∀ p a u, (fr1.setBox d cs).homes ts (bvOf (w.alloc o) (gbNew gb d w.heap.size)) p = some (a, u) → fr1.homes ts (bvOf w gb) p = some (a, u) ∨ ∃ i, i < cs.length ∧ (cs.getD i (.undef, .ro)).2 = .own ∧ a = (cs.getD i (.undef, .ro)).1 ∧ u = c.getD i undef)
    (hx : ∀ i k, i < cs.length → (cs.getD i (.undef, .ro)).2 = .own → (c.getD i undef).ownBlock = some k → ∃ p, fr.homes ts (bvOf w gb) p = some ((cs.getD i (.undef, .ro)).1, c.getD i undef)) :
    StepRel C G gb fr ts w G1 (gbNew gb d w.heap.size) (fr1.setBox d cs) ts (w.alloc o) soft where
  size := by simp
  home := fun p' T l' v' k hp hk hlt => by
    rcases hnew p' _ _ hp with hp | ⟨i, q1, q2, q3, q4⟩
    · exact ⟨p', l', v', lss.homes _ _ _ hp, hk, Nat.le_refl _⟩
    · rw [q4] at hk
      obtain ⟨p, hp⟩ := hx i k q1 q2 hk
      rw [← q3] at hp
      exact ⟨p, l', _, hp, hk, Nat.le_refl _⟩
  gs := fun b hb _ => (lss.back b hb).imp id fun ⟨p, a, v, h1, h2, _⟩ => ⟨p, a, v, h1, h2⟩
  box := fun n cs' hn hlt => by
    rw [box?_setBox] at hn
    unfold gbNew at hlt ⊢
    split at hn
    · rename_i e; subst e; rw [if_pos rfl] at hlt; exact absurd hlt (Nat.lt_irrefl _)
    · rename_i e
      obtain ⟨cs, hcs⟩ := (lss.box n).1 ⟨cs', hn⟩
      exact ⟨n, cs, hcs, by rw [if_neg e]⟩
  keep := fun _ b hb => .inl (Below.heap_alloc w o b hb)
  far := fun b hb => .inl (Below.heap_alloc w o b hb)

theorem oneCell_cells {v : Value} (h : v.oneCell' = true) : v.cells = #[v] := by
  cases v <;> first | rfl | (simp [Value.oneCell'] at h)

/-- A value's cells stand for what is told of them. -/
theorem cells_rep {X : St} {m : Md} {v : Value} {a : AV} (ok : Tab.Ok C P) {T : Nat} {z : List AV} {s b : Nat} (hi : C.info T = some (z, s, b)) (hm : RepM X m v a) (hc : cellM m = true) {cs : List AV} (h : cellsOf C T a = some cs) :
    v.cells.size = s ∧ cs.length = s ∧ (∀ j, j < s → RepO X (m.at j) (v.cells.getD j undef) (cs.getD j .undef)) ∧ (aggC C T = true → ∃ vs, v = .agg vs ∧ a = .agg cs) ∧ (aggC C T = false → cs = [a] ∧ v.oneCell' = true) := by
  obtain ⟨d, hd, hd', hag, hl, h1⟩ := isAggT_of ok hi
  unfold cellsOf at h
  rw [hd'] at h
  simp only [sizeC, hi] at h
  cases ha : isAggD d with
  | true =>
    rw [ha] at h
    simp only at h
    split at h
    case h_2 => simp at h
    rename_i l
    split at h
    case isFalse => simp at h
    rename_i hll
    simp only [Option.some.injEq] at h
    subst h
    rw [hag, ha]
    cases m with
    | uni o =>
      rcases hm with hm | ⟨ho, vs, la, rfl, e, hla, hr⟩
      · obtain ⟨S, hf⟩ := RepO.frz hm; exact hf.agg_false.elim
      · cases e
        exact ⟨by show vs.size = s; omega, hll, fun j hj => hr j (by omega), fun _ => ⟨vs, rfl, rfl⟩, by simp⟩
    | cells lo =>
      obtain ⟨vs, la, rfl, e, hla, hlo, hr⟩ := hm
      cases e
      exact ⟨by show vs.size = s; omega, hll, fun j hj => hr j (by omega), fun _ => ⟨vs, rfl, rfl⟩, by simp⟩
    | _ => simp [cellM] at hc
  | false =>
    have hs := h1 ha
    subst hs
    rw [ha] at h
    simp only at h
    rw [hag, ha]
    have hne : ∀ l, a ≠ .agg l := by rintro l rfl; simp at h
    have hcs : cs = [a] := by
      split at h
      · simp at h
      · simp at h
      · simpa using h.symm
    subst hcs
    cases m with
    | uni o =>
      rcases hm with hm | ⟨ho, vs, la, rfl, e, hla, hr⟩
      · have h1 := RepO.one hm
        rw [oneCell_cells h1]
        refine ⟨rfl, rfl, fun j hj => ?_, by simp, fun _ => ⟨rfl, h1⟩⟩
        have : j = 0 := by omega
        subst this
        exact hm
      · exact absurd e (hne la)
    | cells lo =>
      obtain ⟨vs, la, rfl, e, _⟩ := hm
      exact absurd e (hne la)
    | _ => simp [cellM] at hc

theorem length_outsZ (m : Md) : ∀ (z cs : List AV) (j : Nat), z.length = cs.length → (outsZ m z cs j).length = z.length
  | [], [], _, _ => rfl
  | a :: z, c :: cs, j, h => by simp [outsZ, length_outsZ m z cs (j + 1) (by simpa using h)]
  | [], _ :: _, _, h => by simp at h
  | _ :: _, [], _, h => by simp at h
theorem getD_outsZ (m : Md) : ∀ (z cs : List AV) (j i : Nat), z.length = cs.length → i < z.length → (outsZ m z cs j).getD i .ro = .ro ∧ isSc (cs.getD i .undef) = true ∨ (outsZ m z cs j).getD i .ro = m.at (j + i)
  | a :: z, c :: cs, j, 0, h, _ => by
    simp only [outsZ, List.getD_cons_zero, Nat.add_zero]
    split
    · split
      · rename_i h; exact .inl ⟨rfl, h⟩
      · exact .inr rfl
    · exact .inr rfl
  | a :: z, c :: cs, j, i + 1, h, hi => by
    simp only [outsZ, List.getD_cons_succ]
    have := getD_outsZ m z cs (j + 1) i (by simpa using h) (by simpa using hi)
    rwa [show j + 1 + i = j + (i + 1) by omega] at this
  | [], _, _, _, _, hi => by simp at hi
  | _ :: _, [], _, _, h, _ => by simp at h

theorem getD_zip {l : List AV} {m : List Own} (h : l.length = m.length) (j : Nat) : (l.zip m).getD j (.undef, .ro) = (l.getD j .undef, m.getD j .ro) := by
  rcases Nat.lt_or_ge j l.length with hj | hj
  · have h1 : j < m.length := by omega
    rw [List.getD_eq_getElem?_getD, List.getElem?_eq_getElem (by simp; omega), List.getElem_zip]
    simp [List.getD_eq_getElem?_getD, hj, h1]
  · rw [getD_over _ _ (by simp; omega), getD_over _ _ hj, getD_over _ _ (by omega)]

/-- Cells of a value that are written: what they stand for, and whose they are. -/
theorem zip_rep (ok : Tab.Ok C P) {m : Md} {v : Value} {a : AV} {T : Nat} {z : List AV} {s b : Nat} (hi : C.info T = some (z, s, b)) (hm : RepM (stOf C w0.heap.size G gb fr ts w) m v a) (hf : Fresh G gb fr ts w m a v) (hc : cellM m = true) {cs : List AV} (h : cellsOf C T a = some cs) :
    v.cells.size = s ∧ (cs.zip (outsT C T m cs)).length = s ∧
    (∀ j, j < s → RepO (stOf C w0.heap.size G gb fr ts w) ((cs.zip (outsT C T m cs)).getD j (.undef, .ro)).2 (v.cells.getD j undef) ((cs.zip (outsT C T m cs)).getD j (.undef, .ro)).1) ∧
    FreshC G gb fr ts w s (fun i => ((cs.zip (outsT C T m cs)).getD i (.undef, .ro)).2) (fun i => v.cells.getD i undef) := by
  obtain ⟨h1, h2, h3, h4, h5⟩ := cells_rep ok hi hm hc h
  obtain ⟨d, hd, hd', hag, hl, hone⟩ := isAggT_of ok hi
  have hoz : outsT C T m cs = outsZ m z cs 0 := by simp [outsT, hi]
  have hol : (outsZ m z cs 0).length = s := by rw [length_outsZ _ _ _ _ (by omega), hl]
  rw [hoz]
  have hz : ∀ j, (cs.zip (outsZ m z cs 0)).getD j (.undef, .ro) = (cs.getD j .undef, (outsZ m z cs 0).getD j .ro) := fun j => getD_zip (by omega) j
  have hown : ∀ j, j < s → (outsZ m z cs 0).getD j .ro = .own → ∃ x, homeS m a v 0 j = some (x, v.cells.getD j undef) := by
    intro j hj ho
    rcases getD_outsZ m z cs 0 j (by omega) (by omega) with ⟨e, _⟩ | e
    · rw [e] at ho; simp at ho
    · rw [e, Nat.zero_add] at ho
      cases m with
      | uni o =>
        simp only [Md.at] at ho
        subst ho
        rcases hm with hm | ⟨ho, _⟩
        · obtain ⟨S, hfz⟩ := RepO.frz hm
          have hone := hfz.one
          rw [oneCell_cells hone] at h1 ⊢
          have : s = 1 := by simpa using h1.symm
          have : j = 0 := by omega
          subst this
          exact ⟨a, by simp [homeS, Md.home1, own?, av1, val1]⟩
        · simp at ho
      | cells l =>
        simp only [Md.at] at ho
        obtain ⟨vs, la, rfl, _⟩ := hm
        exact ⟨cellN a j, by simp only [homeS, if_true, Md.home1, ho, own?]; rfl⟩
      | _ => simp [cellM] at hc
  refine ⟨h1, by simp [hol, h2], fun j hj => ?_, fun j k hj ho hk => ?_⟩
  · rw [hz]
    rcases getD_outsZ m z cs 0 j (by omega) (by omega) with ⟨e, hsc⟩ | e
    · rw [e]
      have := h3 j hj
      exact this.plain (o' := .ro) hsc
    · rw [e, Nat.zero_add]; exact h3 j hj
  · simp only [hz] at ho
    obtain ⟨x, hx⟩ := hown j hj ho
    obtain ⟨f1, f2, f3, f4⟩ := hf 0 j x _ k hx hk
    refine ⟨f1, f2, f3, fun j' hj' ho' hk' => ?_⟩
    simp only [hz] at ho'
    obtain ⟨x', hx'⟩ := hown j' hj' ho'
    exact (f4 0 j' x' _ hx' hk').2

/-- Own cells of a value that is written are its own rows. -/
theorem zip_own2 {X : St} (ok : Tab.Ok C P) {m : Md} {v : Value} {a : AV} {T : Nat} {z : List AV} {s b : Nat} (hi : C.info T = some (z, s, b)) (hm : RepM X m v a) (hc : cellM m = true) {cs : List AV} (hcs : cellsOf C T a = some cs) :
    ∀ j, j < s → ((cs.zip (outsT C T m cs)).getD j (.undef, .ro)).2 = .own → homeS m a v 0 j = some (((cs.zip (outsT C T m cs)).getD j (.undef, .ro)).1, v.cells.getD j undef) := by
  intro j hj ho
  obtain ⟨h1, h2, h3, h4, h5⟩ := cells_rep ok hi hm hc hcs
  obtain ⟨d, hd, hd', hag, hl, hone⟩ := isAggT_of ok hi
  have hoz : outsT C T m cs = outsZ m z cs 0 := by simp [outsT, hi]
  have hol : (outsZ m z cs 0).length = s := by rw [length_outsZ _ _ _ _ (by omega), hl]
  rw [hoz, getD_zip (by omega) j] at ho ⊢
  simp only at ho ⊢
  rcases getD_outsZ m z cs 0 j (by omega) (by omega) with ⟨e, _⟩ | e
  · rw [e] at ho; simp at ho
  · rw [e, Nat.zero_add] at ho
    cases m with
    | uni o =>
      simp only [Md.at] at ho
      subst ho
      rcases hm with hm | ⟨ho, _⟩
      · cases hag' : aggC C T with
        | true =>
          obtain ⟨vs, rfl, rfl⟩ := h4 hag'
          obtain ⟨S, hfz⟩ := RepO.frz hm
          exact hfz.agg_false.elim
        | false =>
          obtain ⟨rfl, hv⟩ := h5 hag'
          rw [oneCell_cells hv] at h1 ⊢
          have : s = 1 := by simpa using h1.symm
          have : j = 0 := by omega
          subst this
          simp [homeS, Md.home1, own?, av1, val1]
      · simp at ho
    | cells l =>
      simp only [Md.at] at ho
      obtain ⟨vs, la, rfl, rfl, _⟩ := hm
      cases hag' : aggC C T with
      | true =>
        obtain ⟨vs', e1, e2⟩ := h4 hag'
        cases e2
        simp only [homeS, if_true, Md.home1, ho, own?]
        rfl
      | false =>
        obtain ⟨_, hv⟩ := h5 hag'
        simp [Value.oneCell'] at hv
    | _ => simp [cellM] at hc

theorem st_box (h : Inv C w0 Gin G gb fr ts w) (ok : Tab.Ok C P) {T : Nat} {x : Operand} (hs : step C call ⟨dst, .box T x, type, pos, after, guard⟩ fr K = some r) :
    StepOk C P w0 Gin ds r Q G gb fr true ts w ⟨dst, .box T x, type, pos, after, guard⟩ K := by
  simp only [step] at hs
  obtain ⟨h1, _⟩ := h.ev ok ds T x
  split at hs
  case h_2 => simp at hs
  rename_i m fr1 d ht
  split at hs
  case h_2 => simp at hs
  rename_i cs hb hcs
  obtain ⟨i1, l1, r1, f1⟩ := h.take h1 (ev_noblk C fr T x ts ds) ht
  have key : cellM m = true ∧ K ((fr1.setBox d (cs.zip (outsT C T m cs))).put (some d) (.undef, .loc d 0)) = some r := by
    split at hs
    · exact ⟨rfl, hs⟩
    · exact ⟨rfl, hs⟩
    · simp at hs
  obtain ⟨hc, hk⟩ := key
  have hinf : ∃ z s b, C.info T = some (z, s, b) := by
    unfold cellsOf sizeC at hcs
    cases hi : C.info T with
    | none => simp [hi] at hcs
    | some i => exact ⟨i.1, i.2.1, i.2.2, rfl⟩
  obtain ⟨z, s, b, hi⟩ := hinf
  obtain ⟨z1, z2, z3, z4⟩ := zip_rep ok hi r1 f1 hc hcs
  have hn := i1.newBox (d := d) hb (e := T) (cs := cs.zip (outsT C T m cs)) (c := (({ tmps := ts, defers := ds } : Act).eval x).cells) (by rw [z1, z2]) (fun j hj => z3 j (z2 ▸ hj)) (by rw [z2]; exact z4)
  obtain ⟨hn, hnew⟩ := hn
  have hfrom := h.take_from h1 (ev_noblk C fr T x ts ds) ht
  refine wp_val2 (o := ⟨some d, .box T x, type, pos, after, guard⟩) hn (StepRel.newBox l1 true hnew fun i k hi' ho hk => ?_) (x := (.undef, .loc d 0)) (v := .pointer (some ⟨w.heap.size, 0, none⟩)) ?_ ⟨w.heap.size, ?_, rfl, rfl⟩ (Fresh.of_owns rfl _ _) (noRow rfl _ _) l1.dead hk
  · exact hfrom 0 i _ _ k (zip_own2 ok hi r1 hc hcs i (z2 ▸ hi') ho) hk
  · simp [execOp, Instr.box, newVar, newRow]
  · refine bx_stOf.2 ⟨⟨_, by rw [box?_setBox, if_pos rfl]⟩, by simp [gbNew]⟩

theorem zcell_rep {z : List AV} (ok : Tab.Ok C P) {T s b : Nat} (hi : C.info T = some (z, s, b)) {a : AV} (ha : a ∈ z) : RepO (stOf C w0.heap.size G gb fr ts w) (zOwn a) (zval a) a ∧ (zval a).ownBlock = none := by
  obtain ⟨i, zv, h1, h2, h3, h4, h5, h6, h7, h8, h9⟩ := ok.info T z s b hi
  have hz := h7 a ha
  unfold zcell at hz
  split at hz
  · simp at hz
  · simp at hz
  · simp at hz
  · rename_i v h1 h2 h3
    refine ⟨Frz.sc v ?_, ?_⟩
    · cases v <;> first | rfl | simp_all
    · show v.ownBlock = none
      cases v <;> first | rfl | simp_all
  · rename_i T' 
    obtain ⟨⟨z', s', b'⟩, hi'⟩ := ok.zsl T z s b T' [] hi ha
    exact ⟨OwnR.nil hi' _ _ _, rfl⟩
  · simp at hz

theorem st_alloc (h : Inv C w0 Gin G gb fr ts w) (ok : Tab.Ok C P) {T : Nat} (hs : step C call ⟨dst, .alloc T, type, pos, after, guard⟩ fr K = some r) :
    StepOk C P w0 Gin ds r Q G gb fr true ts w ⟨dst, .alloc T, type, pos, after, guard⟩ K := by
  simp only [step] at hs
  split at hs
  case h_2 => simp at hs
  rename_i z s b d hi
  split at hs
  · simp at hs
  rename_i hb
  obtain ⟨i, zv, e1, e2, e3, e4, e5, e6, e7, e8, e9⟩ := ok.info T z s b hi
  have hzo : ∀ j, j < z.length → (zeroOwn z).getD j (.undef, .ro) = (z.getD j .undef, zOwn (z.getD j .undef)) ∧ zv.cells.getD j undef = zval (z.getD j .undef) := by
    intro j hj
    constructor
    · simp [zeroOwn, List.getD_eq_getElem?_getD, hj]
    · rw [e6]; simp [hj]
  have hmem : ∀ j, j < z.length → z.getD j .undef ∈ z := fun j hj => by
    have : z.getD j .undef = z[j] := by simp [hj]
    rw [this]; exact List.getElem_mem _
  have hlen : (zeroOwn z).length = z.length := by simp [zeroOwn]
  have hn := h.newBox (d := d) hb (e := T) (cs := zeroOwn z) (c := zv.cells) (by rw [e6]; simp [zeroOwn]) (fun j hj => by
    rw [hlen] at hj
    obtain ⟨h1, h2⟩ := hzo j hj
    rw [h1, h2]
    exact (zcell_rep ok hi (hmem j hj)).1) (fun j k hj ho hk => by
    rw [hlen] at hj
    obtain ⟨h1, h2⟩ := hzo j hj
    simp only [h2] at hk
    rw [(zcell_rep (w0 := w0) (G := G) (gb := gb) (fr := fr) (ts := ts) (w := w) ok hi (hmem j hj)).2] at hk
    simp at hk)
  obtain ⟨hn, hnew⟩ := hn
  refine wp_val2 (o := ⟨some d, .alloc T, type, pos, after, guard⟩) hn (StepRel.newBox Less.refl true hnew fun j k hj ho hk => ?_) (x := (.undef, .loc d 0)) (v := .pointer (some ⟨w.heap.size, 0, none⟩)) ?_ ⟨w.heap.size, ?_, rfl, rfl⟩ (Fresh.of_owns rfl _ _) (noRow rfl _ _) (fun _ h => h) hs
  · rw [hlen] at hj
    obtain ⟨h1, h2⟩ := hzo j hj
    rw [h2, (zcell_rep (w0 := w0) (G := G) (gb := gb) (fr := fr) (ts := ts) (w := w) ok hi (hmem j hj)).2] at hk
    simp at hk
  · simp [execOp, Instr.alloc, zeroValue, run_typeInfo w e1, e4, newVar, newRow]
  · refine bx_stOf.2 ⟨⟨_, by rw [box?_setBox, if_pos rfl]⟩, by simp [gbNew]⟩
end

end Go.Dam

/- Stores into variables. -/
namespace Go.Dam
open Go.RowKit
set_option linter.unusedVariables false
set_option linter.unusedSimpArgs false

section
variable {C : Tab} {P : Program} {w0 : World} {Gin G : Nat → Prop} {gb : Nat → Nat} {fr : Fr} {ts : Array Value} {w : World} {ds : List Deferred} {r : AV} {Q : Exit → Act → World → Prop}
variable {dst : Option Nat} {type : Nat} {pos : String} {after : Array Edge} {guard : Option (Nat × Bool)} {K : Fr → Option AV} {call : Nat → List AV → Option AV}

theorem Fresh.less {G1 : Nat → Prop} {fr1 : Fr} {m : Md} {a : AV} {v : Value} (h : Fresh G gb fr ts w m a v) (l : Less G fr G1 fr1 gb ts w) (hG : ∀ b, G1 b → G b) : Fresh G1 gb fr1 ts w m a v := by
  intro c j x u k hx hk
  obtain ⟨h1, h2, h3, h4⟩ := h c j x u k hx hk
  refine ⟨fun hg => h1 (hG k hg), fun d cs hd => ?_, fun p a' u' hp => h3 p a' u' (l.homes p a' u' hp), h4⟩
  obtain ⟨cs', hcs'⟩ := (l.box d).1 ⟨cs, hd⟩
  exact h2 d cs' hcs'

theorem clearBox_spec (h : Inv C w0 Gin G gb fr ts w) (d off n : Nat) : Inv C w0 Gin G gb (fr.clearBox d off n) ts w ∧ Less G fr G (fr.clearBox d off n) gb ts w ∧
    (∀ j, off ≤ j → j < off + n → (fr.clearBox d off n).homes ts (bvOf w gb) ⟨true, d, 0, j⟩ = none) ∧
    ∀ p, rangeB d off n p = false → (fr.clearBox d off n).homes ts (bvOf w gb) p = fr.homes ts (bvOf w gb) p := by
  have hin : ∀ j, off ≤ j → j < off + n → rangeB d off n ⟨true, d, 0, j⟩ = true := by
    intro j h1 h2
    simp [rangeB, Nat.ble_eq, Nat.blt_eq, h1, h2]
  unfold Fr.clearBox
  split
  · rename_i b hb
    split
    · refine ⟨h.nix _, Less.nix _, fun j h1 h2 => ?_, fun p hp => ?_⟩
      · rw [homes_nix, if_pos (hin j h1 h2)]
      · rw [homes_nix, if_neg (by simp [hp])]
    · rename_i hno
      refine ⟨h, Less.refl, fun j h1 h2 => ?_, fun p hp => rfl⟩
      simp only [Fr.homes, hb, homeB, if_true]
      refine own?_none fun ho => hno ?_
      rw [List.any_eq_true]
      have hj : j < b.length := by
        rcases Nat.lt_or_ge j b.length with h' | h'
        · exact h'
        · rw [getD_over _ _ h'] at ho; simp at ho
      refine ⟨b.getD j (.undef, .ro), ?_, by rw [ho]; rfl⟩
      have e : b.getD j (.undef, .ro) = b[j] := by simp [hj]
      rw [e]
      refine List.mem_of_getElem? (i := j - off) ?_
      rw [List.getElem?_take, if_pos (by omega), List.getElem?_drop]
      simp [show off + (j - off) = j by omega, hj]
  · rename_i hb
    refine ⟨h, Less.refl, fun j h1 h2 => ?_, fun p hp => rfl⟩
    simp only [Fr.homes, hb, homeB]

theorem run_storeCells_fz (g o : Nat) (t : TypeId) (fz : Nat × Nat) : ∀ (vs : List Value) (i : Nat) (cur : Array Value) (w : World), w.heap[g]? = some (.cells cur t fz) → okFz cur.size fz → o + i + vs.length ≤ cur.size → (∀ v ∈ vs, v.oneCell' = true) →
    (storeCells ⟨g, o, none⟩ vs i).run P w = .ok () (w.setRow g (cur.toList.take (o + i) ++ vs ++ cur.toList.drop (o + i + vs.length)).toArray)
  | [], i, cur, w, hg, _, _, _ => by
    simp only [storeCells, List.append_nil, List.length_nil, Nat.add_zero, List.take_append_drop, Array.toArray_toList]
    rw [setRow_self w g cur t fz hg]
    rfl
  | v :: rest, i, cur, w, hg, hz, hl, h1 => by
    have hi : o + i < cur.size := by simp at hl; omega
    have hadd : (⟨g, o, none⟩ : Addr).add i = ⟨g, o + i, none⟩ := by unfold Addr.add; split <;> simp_all
    have hcell : w.cell? ⟨g, o + i, none⟩ = some cur[o + i] := by simp [World.cell?, hg, hi]
    have hfro : w.frozen? ⟨g, o + i, none⟩ = false := by
      obtain ⟨lo, hi'⟩ := fz
      rcases hz with hz | hz
      · cases hz; simp [World.frozen?, hg]
      · simp only at hz
        have : ¬ lo ≤ o + i := by omega
        simp [World.frozen?, hg, this]
    have hst : (store ((⟨g, o, none⟩ : Addr).add i) v).run P w = .ok () (w.setRow g (cur.setIfInBounds (o + i) v)) := by
      rw [hadd, run_store P w _ v _ (h1 v (by simp)), hcell]
      simp [hfro, setCell_eq_setRow w g (o + i) cur t fz v hg]
    have ih := run_storeCells_fz g o t fz rest (i + 1) (cur.setIfInBounds (o + i) v) (w.setRow g (cur.setIfInBounds (o + i) v)) (setRow_heap w g cur _ t _ hg) (by simpa using hz) (by simp at hl ⊢; omega) (fun x hx => h1 x (by simp [hx]))
    simp only [storeCells, Sem.run_bind, hst, Result.andThen_ok, ih, setRow_setRow]
    congr 3
    have e := list_seg_step cur.toList (o + i) v rest (by simp at hl ⊢; omega)
    simpa [Array.toList_setIfInBounds, Nat.add_assoc] using e

theorem run_storeVar (ok : Tab.Ok C P) {T : Nat} {z : List AV} {s b : Nat} (hi : C.info T = some (z, s, b)) {g o : Nat} {e : TypeId} {c : Array Value} {v : Value} {fz : Nat × Nat} (hg : w.heap[g]? = some (.cells c e fz)) (hz : okFz c.size fz) (hs : v.cells.size = s) (hle : o + s ≤ c.size) (h1 : ∀ j, j < s → (v.cells.getD j undef).oneCell' = true) :
    (storeVar T ⟨g, o, none⟩ v).run P w = .ok () (w.setRow g (c.toList.take o ++ v.cells.toList ++ c.toList.drop (o + s)).toArray) := by
  have := run_storeCells_fz (P := P) g o e fz v.cells.toList 0 c w hg hz (by simp; omega) (fun x hx => by
    obtain ⟨j, hj, rfl⟩ := List.mem_iff_getElem.1 hx
    have hj' : j < v.cells.size := by simpa using hj
    have := h1 j (by omega)
    simpa [hj'] using this)
  simp only [storeVar, Sem.run_bind, run_sizeOf' ok hi, Result.andThen_ok, hs]
  simp only [ne_eq, not_true_eq_false, if_false]
  simp only [Nat.add_zero, Array.length_toList, hs] at this
  exact this

theorem st_storeLoc (h : Inv C w0 Gin G gb fr ts w) (ok : Tab.Ok C P) {T : Nat} {x v : Operand} {cs : List AV} (hcs : cellsOf C T (ev C fr T v).1 = some cs) {d off : Nat} (hx : (ev C fr 0 x).2 = .loc d off)
    {m : Md} {fr1 : Fr} (ht : take fr (ev C fr T v).2 = some (m, fr1)) {b : List (AV × Own)} (hb : (fr1.clearBox d off cs.length).box? d = some b) (hc : (Nat.ble (off + cs.length) b.length && cellM m && !(m.hits (rangeB d off cs.length)) && !(isMapB b)) = true)
    (hs : K ((fr1.clearBox d off cs.length).setBox d (putNth b off (cs.zip (outsT C T m cs)))) = some r) :
    StepOk C P w0 Gin ds r Q G gb fr false ts w ⟨none, .store T x v, type, pos, after, guard⟩ K := by
  simp only [Bool.and_eq_true, Bool.not_eq_true'] at hc
  obtain ⟨⟨⟨hle, hcm⟩, hnh⟩, hmp⟩ := hc
  have hle := Nat.le_of_ble_eq_true hle
  obtain ⟨h1, _⟩ := h.ev ok ds T v
  obtain ⟨hx1, _⟩ := h.ev ok ds 0 x
  obtain ⟨i1, l1, r1, f1⟩ := h.take h1 (ev_noblk C fr T v ts ds) ht
  obtain ⟨i2, l2, hno, hsame⟩ := clearBox_spec i1 d off cs.length
  have hinf : ∃ z s b, C.info T = some (z, s, b) := by
    unfold cellsOf sizeC at hcs
    cases hi : C.info T with
    | none => simp [hi] at hcs
    | some i => exact ⟨i.1, i.2.1, i.2.2, rfl⟩
  obtain ⟨z, s, bb, hi⟩ := hinf
  have r2 : RepM (stOf C w0.heap.size G gb (fr1.clearBox d off cs.length) ts w) m (({ tmps := ts, defers := ds } : Act).eval v) (ev C fr T v).1 := by
    refine r1.mono (hit := fun q => rangeB d off cs.length q = false) ⟨rfl, rfl, fun _ h => h, fun _ _ => rfl, fun q hq a u hqa => ⟨?_, fun _ _ => rfl⟩⟩ l2.bxs (Md.hit_of_hits hnh) fun _ _ _ _ _ _ _ => rfl
    show (fr1.clearBox d off cs.length).homes ts (bvOf w gb) q = _
    rw [hsame q hq]; exact hqa
  have f2 := f1.less l2 fun _ h => h
  obtain ⟨z1, z2, z3, z4⟩ := zip_rep ok hi r2 f2 hcm hcs
  obtain ⟨_, hcl, _⟩ := cells_rep ok hi r2 hcm hcs
  rw [hx] at hx1
  obtain ⟨blk, hblk, hxv, _⟩ := hx1
  obtain ⟨_, hgb⟩ := bx_stOf.1 hblk
  subst hgb
  obtain ⟨cc, e, hh, hsz, hrr⟩ := (i2.boxes d b hb).1.cells hmp
  have hh' : w.heap[gb d]? = some (.cells cc e (0, 0)) := hh
  have hone : ∀ j, j < s → ((({ tmps := ts, defers := ds } : Act).eval v).cells.getD j undef).oneCell' = true := fun j hj => (z3 j hj).one
  have hrun := run_storeVar ok hi (o := off) hh' (.inl rfl) z1 (by omega) hone
  have hnl : (cs.zip (outsT C T m cs)).length = cs.length := by omega
  generalize hvc : (({ tmps := ts, defers := ds } : Act).eval v).cells = vc at *
  have hc'sz : (cc.toList.take off ++ vc.toList ++ cc.toList.drop (off + s)).toArray.size = cc.size := by simp; omega
  have hget : ∀ j, (cc.toList.take off ++ vc.toList ++ cc.toList.drop (off + s)).toArray.getD j undef = if off ≤ j ∧ j < off + s then vc.getD (j - off) undef else cc.getD j undef := by
    intro j
    simp only [Array.getD_eq_getD_getElem?, List.getElem?_toArray, List.append_assoc, List.getElem?_append, List.length_take, Array.length_toList, List.getElem?_take, Array.getElem?_toList, List.getElem?_drop, z1]
    have hm : min off cc.size = off := by omega
    rw [hm]
    by_cases h1 : j < off
    · rw [if_pos h1, if_pos h1, if_neg (by omega)]
    · rw [if_neg h1]
      by_cases h2 : j - off < s
      · rw [if_pos h2, if_pos (by omega)]
      · rw [if_neg h2, if_neg (by omega)]
        congr 2; omega
  have hfin := i2.storeBox (d := d) (off := off) (cs := b) (new := cs.zip (outsT C T m cs)) (c := cc) (c' := (cc.toList.take off ++ vc.toList ++ cc.toList.drop (off + s)).toArray) (e := e) hb hh'
    (fun j h1 h2 => hno j h1 (by omega)) (by omega) hc'sz (fun j hj => by rw [hget j, if_neg (by omega)])
    (fun i hil => by
      rw [hget (off + i), if_pos (by omega), Nat.add_sub_cancel_left]
      exact z3 i (by omega))
    (fun j k hj ho hk => by
      simp only [hget (off + j)] at hk
      rw [if_pos (by omega), Nat.add_sub_cancel_left] at hk
      obtain ⟨q1, q2, q3, q4⟩ := z4 j k (by omega) ho hk
      refine ⟨q1, q2, q3, fun j' hj' ho' hk' => q4 j' (by omega) ho' ?_⟩
      simp only [hget (off + j')] at hk'
      rwa [if_pos (by omega), Nat.add_sub_cancel_left] at hk')
    (w' := w.setRow (gb d) (cc.toList.take off ++ vc.toList ++ cc.toList.drop (off + s)).toArray) (setRow_heap w (gb d) cc _ e (0, 0) hh') (fun k hk => setRow_other w (gb d) k _ hk)
    (i2.below.trans ⟨rfl, rfl, rfl, by simp, fun k hk => setRow_other w (gb d) k _ (by
      obtain ⟨_, hge, _⟩ := i2.boxes d b hb
      omega)⟩) (by simp)
  unfold StepOk Oper.wp
  have hexec : (execOp ({ tmps := ts, defers := ds } : Act).eval ⟨none, .store T x v, type, pos, after, guard⟩).run P w = .ok .skip (w.setRow (gb d) (cc.toList.take off ++ vc.toList ++ cc.toList.drop (off + s)).toArray) := by
    simp only [execOp, Instr.storeAt, hxv, Instr.sureAddr]
    simp [hrun, hvc]
  rw [hexec]
  have hfrom := h.take_from h1 (ev_noblk C fr T v ts ds) ht
  have l12 := l1.trans l2
  refine ⟨G, gb, _, ts, rfl, hfin.1, hs, ?_, fun d' _ hn => l12.dead d' hn, undef, rfl⟩
  have hoth : ∀ k, k ≠ gb d → (w.setRow (gb d) (cc.toList.take off ++ vc.toList ++ cc.toList.drop (off + s)).toArray).heap[k]? = w.heap[k]? := fun k hk => setRow_other w (gb d) k _ hk
  exact {
    size := by simp
    home := fun p' T' l' v' k hp hk hlt => by
      rcases hfin.2 p' _ _ hp with hp | ⟨i, q1, q2, q3, q4⟩
      · exact ⟨p', l', v', l12.homes _ _ _ hp, hk, Nat.le_refl _⟩
      · rw [hget (off + i), if_pos (by omega), Nat.add_sub_cancel_left] at q4
        have := zip_own2 ok hi r2 hcm hcs i (by omega) q2
        rw [hvc, ← q3, ← q4] at this
        obtain ⟨p, hp⟩ := hfrom 0 i _ _ k this hk
        exact ⟨p, l', v', hp, hk, Nat.le_refl _⟩
    gs := fun b' hb' _ => .inl hb'
    box := fun n cs' hn hlt => by
      rw [box?_setBox] at hn
      split at hn
      · rename_i e; subst e
        obtain ⟨c2, hc2⟩ := (l12.box n).1 ⟨b, hb⟩
        exact ⟨n, c2, hc2, rfl⟩
      · obtain ⟨c2, hc2⟩ := (l12.box n).1 ⟨cs', hn⟩
        exact ⟨n, c2, hc2, rfl⟩
    keep := fun e => by simp at e
    far := fun k hk => by
      by_cases e : k = gb d
      · obtain ⟨c2, hc2⟩ := (l12.box d).1 ⟨b, hb⟩
        exact .inr (.inr ⟨d, c2, hc2, e.symm⟩)
      · exact .inl (hoth k e) }
end

end Go.Dam
