/- A part of an interpreter of the model's code that is proved sound, and of laws told by it: DamSeal, DamRun2, DamCon. -/
import Derived.Test.YtdehjednpdbhaaaDoorPvA3
import Derived.Test.YtdehjednpdbhaaaDoorPvC5
set_option linter.unusedVariables false
set_option linter.unusedSimpArgs false
/- A variable whose address is handed back is frozen. -/
namespace Go.Dam
open Go.RowKit
set_option linter.unusedVariables false
set_option linter.unusedSimpArgs false

section
variable {C : Tab} {w0 : World} {Gin G : Nat → Prop} {gb : Nat → Nat} {fr : Fr} {ts : Array Value} {w : World}

theorem homes_forget_sub {keep : List Nat} {bv : Nat → Nat → Value} {p : Place} {x : AV × Value} (h : (fr.forget keep).homes ts bv p = some x) : fr.homes ts bv p = some x := by
  obtain ⟨b, n, c, j⟩ := p
  cases b with
  | false =>
    simp only [Fr.homes, getS_forget] at h ⊢
    split at h
    · exact h
    · rw [homeS_none1] at h; cases h
  | true =>
    simp only [Fr.homes, box?_forget] at h ⊢
    split at h
    · exact h
    · cases h
theorem homes_restrict_sub {keep : List Nat} {p : Place} {x : AV × Value} (h : (fr.restrict keep).homes ts (bvOf w gb) p = some x) : fr.homes ts (bvOf w gb) p = some x := by
  have := homes_forget_sub h
  rw [homes_nix] at this
  split at this
  · cases this
  · exact this

/-- One block more is frozen. -/
theorem Inv.grow (h : Inv C w0 Gin G gb fr ts w) (b : Nat) (hb : b < w.heap.size) (hb0 : w0.heap.size ≤ b) (hbx : ∀ d cs, fr.box? d = some cs → gb d ≠ b)
    (how : ∀ p a v, fr.homes ts (bvOf w gb) p = some (a, v) → v.ownBlock ≠ some b) : Inv C w0 Gin (fun k => G k ∨ k = b) gb fr ts w := by
  have le : Le (stOf C w0.heap.size G gb fr ts w) (stOf C w0.heap.size (fun k => G k ∨ k = b) gb fr ts w) (fun _ => True) := {
    C := rfl, base := rfl, G := fun _ h => .inl h, low := fun _ _ => rfl
    ow := fun q _ a v hq => ⟨hq, fun _ _ => rfl⟩ }
  refine ⟨h.below, fun k hk => ?_, fun k hk hk0 => ?_, h.size, fun n hn => ?_, fun d cs hd => ?_, h.inj, fun p a v k hp hk => ?_, h.sep⟩
  · rcases hk with hk | rfl
    · exact h.gs k hk
    · exact hb
  · rcases hk with hk | rfl
    · exact h.gin k hk hk0
    · omega
  · exact (h.slots n hn).mono le (fun _ _ h => h) (Md.hit_true _) fun _ _ _ _ _ _ _ => rfl
  · obtain ⟨hr, h1, h2⟩ := h.boxes d cs hd
    refine ⟨?_, h1, fun hk => hk.elim h2 (hbx d cs hd)⟩
    rcases hr with ⟨cc, t, h0, hs, hr⟩ | hB
    · exact .inl ⟨cc, t, h0, hs, fun j hj => (hr j hj).mono le (Own.hit_true _) fun _ _ _ => rfl⟩
    · exact .inr (hB.move rfl rfl)
  · obtain ⟨h1, h2⟩ := h.ow p a v k hp hk
    exact ⟨fun hg => hg.elim h1 fun e => how p a v hp (by rw [hk, e]), h2⟩

theorem sealOk_at {cs : List (AV × Own)} (h : sealOk cs = true) (j : Nat) : ((cs.getD j (.undef, .ro)).2 = .ro ∨ (cs.getD j (.undef, .ro)).2 = .own) ∧ ∀ T l, (cs.getD j (.undef, .ro)).1 ≠ .mp T l := by
  rcases Nat.lt_or_ge j cs.length with hj | hj
  · have e : cs.getD j (.undef, .ro) = cs[j] := by simp [hj]
    rw [e]
    have := List.all_eq_true.1 h _ (List.getElem_mem hj)
    revert this
    obtain ⟨a, o⟩ := cs[j]
    cases a <;> cases o <;> simp
  · rw [getD_over _ _ hj]
    exact ⟨.inl rfl, fun T l => by simp⟩

/-- The cells up to n are frozen. -/
theorem Inv.freezeN (d : Nat) {cs : List (AV × Own)} (hs : sealOk cs = true) : ∀ (n : Nat), Inv C w0 Gin G gb fr ts w → fr.box? d = some cs →
    ∃ G1, (∀ b, G b → G1 b) ∧ Inv C w0 Gin G1 gb (fr.freezeN d n) ts w ∧ (∀ p x, (fr.freezeN d n).homes ts (bvOf w gb) p = some x → fr.homes ts (bvOf w gb) p = some x) ∧ (fr.freezeN d n).slots.length = fr.slots.length ∧
      ∃ cs', (fr.freezeN d n).box? d = some cs' ∧ cs'.length = cs.length ∧ ∀ j, (cs'.getD j (.undef, .ro)).1 = (cs.getD j (.undef, .ro)).1 ∧ ((cs'.getD j (.undef, .ro)).2 = .ro ∨ ((cs'.getD j (.undef, .ro)).2 = .own ∧ n ≤ j))
  | 0, h, hd => ⟨G, fun _ h => h, h, fun _ _ h => h, rfl, cs, hd, rfl, fun j => ⟨rfl, (sealOk_at hs j).1.imp id fun h => ⟨h, Nat.zero_le _⟩⟩⟩
  | n + 1, h, hd => by
    obtain ⟨G1, hG, h1, hh, hl, cs1, hd1, hl1, hc1⟩ := Inv.freezeN d hs n h hd
    refine ⟨_, fun b hb => .inl (hG b hb), h1.freeze ⟨true, d, 0, n⟩, fun p x hp => ?_, ?_, upBox (frzF ⟨true, d, 0, n⟩) d 0 cs1, ?_, ?_, fun j => ?_⟩
    · have hp' : ((fr.freezeN d n).freeze ⟨true, d, 0, n⟩).homes ts (bvOf w gb) p = some x := hp
      rw [homes_freeze] at hp'
      split at hp'
      · cases hp'
      · exact hh p x hp'
    · show (((fr.freezeN d n).freeze ⟨true, d, 0, n⟩).slots).length = _
      unfold Fr.freeze Fr.up
      rw [length_upSlots, hl]
    · show ((fr.freezeN d n).up _).box? d = _
      rw [box?_up, hd1]
      rfl
    · rw [length_upBox, hl1]
    · rw [getD_upBox, Nat.zero_add]
      obtain ⟨e1, e2⟩ := hc1 j
      have hmp := (sealOk_at hs j).2
      rw [← e1] at hmp
      rw [upB_av hmp]
      rcases e2 with e2 | ⟨e2, hj⟩
      · have : frzF ⟨true, d, 0, n⟩ ⟨true, d, 0, j⟩ (cs1.getD j (.undef, .ro)).2 = .keep := by rw [frzF_keep, e2]; rfl
        rw [this]
        exact ⟨e1, .inl e2⟩
      · by_cases hjn : j = n
        · subst hjn
          have : frzF ⟨true, d, 0, j⟩ ⟨true, d, 0, j⟩ (cs1.getD j (.undef, .ro)).2 = .froze := by rw [frzF_froze, e2]; exact Place.eqB_self _
          rw [this]
          exact ⟨e1, .inl rfl⟩
        · have : frzF ⟨true, d, 0, n⟩ ⟨true, d, 0, j⟩ (cs1.getD j (.undef, .ro)).2 = .keep := by
            rw [frzF_keep, e2]
            show Place.eqB _ _ = false
            rw [Bool.eq_false_iff]
            intro hc
            have := Place.eqB_iff.1 hc
            simp only [Place.mk.injEq, true_and] at this
            omega
          rw [this]
          exact ⟨e1, .inr ⟨e2, by omega⟩⟩

theorem memN_butN (d : Nat) : ∀ n, memN d (butN d n) = false
  | 0 => rfl
  | n + 1 => by
    unfold butN
    split
    · exact memN_butN d n
    · rename_i h
      unfold memN
      rw [memN_butN d n, Bool.or_false]
      simpa using h

theorem Inv.sealS (h : Inv C w0 Gin G gb fr ts w) (t : Nat) : ∃ G1, (∀ b, G b → G1 b) ∧ Inv C w0 Gin G1 gb (fr.sealS t) ts w := by
  have same : ∃ G1, (∀ b, G b → G1 b) ∧ Inv C w0 Gin G1 gb fr ts w := ⟨G, fun _ h => h, h⟩
  unfold Fr.sealS
  split
  case h_2 => exact same
  rename_i d hm
  split
  case h_2 => exact same
  rename_i cs hd
  split
  case h_2 => exact same
  rename_i hok
  simp only [Bool.and_eq_true, Nat.blt_eq] at hok
  obtain ⟨hs, ht⟩ := hok
  obtain ⟨bt, hbt, hvt, _⟩ : RepM _ (.loc d 0) _ _ := by have := h.slots t ht; rw [hm] at this; exact this
  have hbt' : bt = gb d := by
    have : (fr.box? d).map (fun _ => gb d) = some bt := hbt
    rw [hd] at this
    exact (Option.some.inj this).symm
  subst hbt'
  obtain ⟨G1, hG, h1, hh, hl, cs1, hd1, hl1, hc1⟩ := Inv.freezeN d hs cs.length h hd
  have hro : ∀ j, (cs1.getD j (.undef, .ro)).2 = .ro := fun j => by
    rcases (hc1 j).2 with e | ⟨e, hj⟩
    · exact e
    · rw [getD_over _ _ (by omega)]
  obtain ⟨hrb, hlow, hnG⟩ := h1.boxes d cs1 hd1
  have hmap : isMapB cs1 = false := by
    rw [Bool.eq_false_iff]
    intro hc
    unfold isMapB at hc
    split at hc
    · rename_i T l
      have := (hc1 0).1
      exact (sealOk_at hs 0).2 T l this.symm
    · cases hc
  obtain ⟨c, e, hheap, hcs, hrep⟩ := hrb.cells hmap
  have hlt : gb d < w.heap.size := (Array.getElem?_eq_some_iff.1 hheap).1
  have h2 := h1.restrict (butN d fr.slots.length)
  have hbox2 : ∀ d' cs', ((fr.freezeN d cs.length).restrict (butN d fr.slots.length)).box? d' = some cs' → (fr.freezeN d cs.length).box? d' ≠ none ∧ d' ≠ d := by
    intro d' cs' hd'
    unfold Fr.restrict at hd'
    rw [box?_forget] at hd'
    split at hd'
    · rename_i hmem
      refine ⟨fun hn => ?_, fun e => ?_⟩
      · have : ((fr.freezeN d cs.length).up (nixF fun p => !memN p.n (butN d fr.slots.length))).box? d' = some cs' := hd'
        rw [box?_up, hn] at this
        cases this
      · rw [e, memN_butN] at hmem; cases hmem
    · cases hd'
  have h3 := h2.grow (gb d) hlt hlow (fun d' cs' hd' hg => by
    obtain ⟨hn, hne⟩ := hbox2 d' cs' hd'
    obtain ⟨cs2, hcs2⟩ := Option.ne_none_iff_exists'.1 hn
    exact hne (h1.inj d' d cs2 cs1 hcs2 hd1 hg)) (fun p a v hp hv => (h1.ow p a v (gb d) (homes_restrict_sub hp) hv).2 d cs1 hd1 rfl)
  refine ⟨fun k => G1 k ∨ k = gb d, fun b hb => .inl (hG b hb), ?_⟩
  have hfz : Frz C (fun k => G1 k ∨ k = gb d) w (.pointer (some ⟨gb d, 0, none⟩)) (.ref (cs.map (·.1))) := by
    refine .ref _ (gb d) 0 (fun j => c.getD j undef) (fun _ => .inr rfl) (fun j hj => ?_) fun j hj => ?_
    · simp only [List.length_map] at hj
      rw [Nat.zero_add]
      have hj' : j < c.size := by omega
      unfold World.cell?
      simp only [show w.heap[gb d]? = some (Obj.cells c e (0, 0)) from hheap]
      simp [hj']
    · simp only [List.length_map] at hj
      have := hrep j (by omega)
      rw [hro j] at this
      have ha : (cs.map (·.1)).getD j .undef = (cs1.getD j (.undef, .ro)).1 := by
        rw [(hc1 j).1]
        simp [List.getD_eq_getElem?_getD, hj]
      rw [ha]
      exact Frz.mono this (fun _ h => .inl h) fun _ _ => rfl
  have hlen3 : ((fr.freezeN d cs.length).restrict (butN d fr.slots.length)).slots.length = fr.slots.length := by
    unfold Fr.restrict Fr.nix Fr.forget Fr.up
    simp only []
    rw [length_keepSlots, length_upSlots, hl]
  have h4 := h3.setS (d := t) (x := (.ref (cs.map (·.1)), .uni .ro)) (v := ts.getD t undef) (by rw [hlen3]; exact ht) (fun c' j' => by
    cases hx : ((fr.freezeN d cs.length).restrict (butN d fr.slots.length)).homes ts (bvOf w gb) ⟨false, t, c', j'⟩ with
    | none => rfl
    | some x =>
      have := hh _ x (homes_restrict_sub hx)
      rw [homes_slot, hm] at this
      simp [homeS, Md.home1, own?] at this) (by rw [hvt]; exact .inl hfz) (Fresh.of_owns rfl _ _)
  have hts : ts.setIfInBounds t (ts.getD t undef) = ts := by
    have hlt' : t < ts.size := by rw [h.size]; exact ht
    have e : ts.getD t undef = ts[t] := by unfold Array.getD; rw [dif_pos hlt']; rfl
    rw [e]
    apply Array.ext (by simp)
    intro i h1 h2
    by_cases hi : i = t
    · subst hi; simp
    · rw [Array.getElem_setIfInBounds_ne _ (Ne.symm hi)]
  rw [hts] at h4
  exact h4
theorem Inv.sealRs : ∀ (l : List ResultVar) {G : Nat → Prop} {fr : Fr}, Inv C w0 Gin G gb fr ts w → ∃ G1, (∀ b, G b → G1 b) ∧ Inv C w0 Gin G1 gb (fr.sealRs l) ts w
  | [], G, fr, h => ⟨G, fun _ h => h, h⟩
  | r :: rs, G, fr, h => by
    cases r with
    | tmp t =>
      obtain ⟨G1, hG, h1⟩ := h.sealS t
      obtain ⟨G2, hG2, h2⟩ := Inv.sealRs rs h1
      exact ⟨G2, fun b hb => hG2 b (hG b hb), h2⟩
    | cell t T => exact Inv.sealRs rs h
end

end Go.Dam

/- Functions by their depth of calls. -/
namespace Go.Dam
open Go.RowKit
set_option linter.unusedVariables false
set_option linter.unusedSimpArgs false

section
variable {C : Tab} {P : Program} {w0 : World} {Gin G : Nat → Prop} {gb : Nat → Nat} {fr : Fr} {ts : Array Value} {w : World} {ds : List Deferred} {r : AV}

theorem flat_ro {X : St} (ok : Tab.Ok X.C P) {t : Nat} (hf : X.C.flat t = true) {m : Md} {v : Value} {a : AV} (h : RepM X m v a) {z : List AV} {s b : Nat} (hi : X.C.info t = some (z, s, b)) (ha : aggOk X.C t a)
    (h1 : aggC X.C t = true → ∀ i, i < s → likeZ (z.getD i .undef) (cellN a i)) (h2 : aggC X.C t = false → likeZ (z.getD 0 .undef) a) : RepM X (.uni .ro) v a := by
  obtain ⟨d, hd, hd', hag, hl, hone⟩ := isAggT_of ok hi
  cases hA : aggC X.C t with
  | true =>
    replace h1 := h1 hA
    clear h2
    obtain ⟨cs, hcs⟩ := ha (by rw [hd', ← hag, hA])
    unfold cellsOf at hcs
    rw [hd', ← hag, hA] at hcs
    simp only [sizeC, hi] at hcs
    split at hcs
    case h_2 => simp at hcs
    rename_i l
    split at hcs
    case isFalse => simp at hcs
    rename_i hll
    obtain ⟨vs, rfl, hvs, hr⟩ := castCellsSc h rfl
    refine .inr ⟨.inl rfl, vs, l, rfl, rfl, hvs, fun j hj => ?_⟩
    obtain ⟨o, hro⟩ := hr j hj
    exact hro.plain (o' := .ro) ((h1 j (by omega)).sc (flat_plain ok hf hi (by omega)))
  | false =>
    replace h2 := h2 hA
    have hs := hone (by rw [← hag, hA])
    obtain ⟨u, rfl⟩ := isSc_eq (h2.sc (flat_plain ok hf hi (by omega)))
    have hv := h.sc
    have h1c := h.sc_one
    subst hv
    exact .inl (Frz.sc v h1c)

theorem fitsOwn_spec {ro : Bool} : ∀ {tys : List Nat} {ms : List Md}, fitsOwn C ro tys ms = true → ms.length = tys.length ∧ ∀ (i t : Nat), tys[i]? = some t → C.flat t = true ∨ ro = true ∨ ∃ z s b, C.info t = some (z, s, b) ∧ ∀ j, j < z.length → ∀ T l, z.getD j .undef = .sl T l → ((ms.getD i (.uni .ro)).at j).owns = true
  | [], [], _ => ⟨rfl, by simp⟩
  | [], m :: ms, h => by simp [fitsOwn] at h
  | t :: tys, [], h => by simp [fitsOwn] at h
  | t :: tys, m :: ms, h => by
    simp only [fitsOwn, Bool.and_eq_true, Bool.or_eq_true] at h
    obtain ⟨h1, h2⟩ := h
    obtain ⟨h3, h4⟩ := fitsOwn_spec h2
    refine ⟨by simp [h3], fun i t' hi => ?_⟩
    cases i with
    | succ i => exact h4 i t' (by simpa using hi)
    | zero =>
      simp only [List.getElem?_cons_zero, Option.some.injEq] at hi
      subst hi
      rcases h1 with (h1 | h1) | h1
      · exact .inl h1
      · exact .inr (.inl h1)
      · split at h1
        · rename_i z s b hinf
          refine .inr (.inr ⟨z, s, b, hinf, fun j hj T l hz => by
          rw [List.all_eq_true] at h1
          have := h1 j (by simp [hj])
          rw [hz] at this
          exact this⟩)
        · simp at h1

theorem resMd_getD {ro : Bool} : ∀ (tys : List Nat) (i t : Nat), tys[i]? = some t → (resMd C ro tys).getD i (.uni .ro) = (resMd C ro [t]).getD 0 (.uni .ro)
  | [], i, t, h => by simp at h
  | t' :: tys, 0, t, h => by
    simp only [List.getElem?_cons_zero, Option.some.injEq] at h
    subst h
    simp [resMd]
  | t' :: tys, i + 1, t, h => by
    have := resMd_getD (ro := ro) tys i t (by simpa using h)
    simpa [resMd] using this
theorem roOwn_rep1 {X : St} {m : Md} {v : Value} {a : AV} (hm : roOwn m) (h : RepM X m v a) : Rep1 X m v a := by
  cases m <;> first | exact h | exact hm.elim
theorem roOwn_home {m : Md} (hm : roOwn m) (a : AV) (v : Value) (j : Nat) : homeS m a v 0 j = own? (m.home1 j) (av1 m a j, val1 m v j) := by
  cases m <;> first | (simp [homeS]; done) | exact hm.elim

/-- What a function hands back. -/
theorem doneK_some (h0 : Inv C w0 Gin G gb fr ts w) (ok : Tab.Ok C P) {fn : Func} {ro : Bool} (hr : doneK C ro fn fr = some r) :
    ∃ v G1, (results fn ts).run P w = Result.ok v w ∧ (∀ b, G1 b → b < w.heap.size ∧ (b < w0.heap.size → Gin b)) ∧ RetOk C ro G1 w0.heap.size w fn.resultTypes.toList v r := by
  unfold doneK at hr
  obtain ⟨G, _, h⟩ := h0.sealRs fn.results.toList
  revert h hr
  generalize fr.sealRs fn.results.toList = fr
  intro hr h
  obtain ⟨ys, vs, hk, hlen, hrun, hrep⟩ := resultsK_some h ok fn.results.toList _ hr
  obtain ⟨hres, hyl, hty⟩ := castRes_some ok ys fn.resultTypes.toList _ hk
  clear hk hr
  split at hres
  case h_2 => simp at hres
  rename_i ms fr2 hg
  split at hres
  case isFalse => simp at hres
  rename_i hfit
  simp only [Option.some.injEq] at hres
  generalize fn.resultTypes.toList = tys at *
  obtain ⟨hml, hfit⟩ := fitsOwn_spec hfit
  have hget : ∀ i, i < ys.length → ∃ t, tys[i]? = some t ∧ (((ys.zip tys).map fun r => normM C r.2 r.1.2).getD i (.uni .ro)) = normM C t (ys.getD i none1).2 := by
    intro i hi
    have hi' : i < tys.length := by omega
    refine ⟨tys[i], by simp [hi'], ?_⟩
    have : (ys.zip tys)[i]? = some (ys[i], tys[i]) := by
      rw [List.getElem?_eq_getElem (by simp; omega), List.getElem_zip]
    simp [List.getD_eq_getElem?_getD, this, hi]
  have hzl : ((ys.zip tys).map fun r => normM C r.2 r.1.2).length = ys.length := by simp; omega
  have hnorm : ∀ i, i < ys.length → ∀ t, tys[i]? = some t → RepM (stOf C w0.heap.size G gb fr ts w) (normM C t (ys.getD i none1).2) (vs.getD i undef) (ys.getD i none1).1 ∧ NoBlk (normM C t (ys.getD i none1).2) (ys.getD i none1).1 (vs.getD i undef) := by
    intro i hi t ht
    obtain ⟨r1, n1⟩ := hrep i (by omega)
    obtain ⟨hag, z, s, b, hinf, hz, l1, l2⟩ := hty i t ht
    unfold normM
    split
    · rename_i hf
      exact ⟨flat_ro (X := stOf C w0.heap.size G gb fr ts w) ok hf r1 hinf hag l1 l2, NoBlk.of_owns rfl _ _⟩
    · exact ⟨r1, n1⟩
  obtain ⟨G1, i1, l1, hml2, hall, hcross⟩ := givs_spec (!ro) ((ys.zip tys).map fun r => normM C r.2 r.1.2) h (fun i => vs.getD i undef) (fun i => (ys.getD i none1).1)
    (fun i hi => by
      rw [hzl] at hi
      obtain ⟨t, ht, e⟩ := hget i hi
      rw [e]
      exact (hnorm i hi t ht).1.pend)
    (fun i hi => by
      rw [hzl] at hi
      obtain ⟨t, ht, e⟩ := hget i hi
      rw [e]
      exact (hnorm i hi t ht).2) ms fr2 hg
  rw [hzl] at hall hcross
  -- one by one
  have hone : ∀ i, i < ys.length → ∀ t, tys[i]? = some t → RepM (st0 C G1 w0.heap.size w) ((resMd C ro [t]).getD 0 (.uni .ro)) (vs.getD i undef) (ys.getD i none1).1 ∧
      ∀ c j x u, homeS ((resMd C ro [t]).getD 0 (.uni .ro)) (ys.getD i none1).1 (vs.getD i undef) c j = some (x, u) → homeS (ms.getD i (.uni .ro)) (ys.getD i none1).1 (vs.getD i undef) c j = some (x, u) := by
    intro i hi t ht
    obtain ⟨r1, _, hro, hall', _⟩ := hall i hi
    obtain ⟨hag, z, s, b, hinf, hz, l1', l2'⟩ := hty i t ht
    cases hrt : ro with
    | true =>
      have e : (resMd C ro [t]).getD 0 (.uni .ro) = .uni .ro := by simp [resMd, hrt]
      subst hrt
      rw [e]
      refine ⟨?_, fun c j x u hx => by rw [homeS_owns rfl] at hx; simp at hx⟩
      rcases allRo_frz r1 (hall' rfl) with ⟨vs', la, q1, q2, q3, q4⟩ | h
      · exact .inr ⟨.inl rfl, vs', la, q1, q2, q3, q4⟩
      · exact .inl h
    | false =>
    subst hrt
    exact ret_one (X := stOf C w0.heap.size G1 gb fr2 ts w) ok r1 hro hag hinf hz l1' l2' ((hfit i t ht).imp id fun hh => (hh.resolve_left (by simp)).elim fun z' ⟨s', b', hinf', hh⟩ => by
      rw [hinf] at hinf'; cases hinf'
      exact hh)
  have hresro : ∀ t, roOwn ((resMd C ro [t]).getD 0 (.uni .ro)) := fun t => by
    have := resMd_roOwn (C := C) (ro := ro) [t] _ (List.getElem_mem (by simp [length_resMd] : 0 < (resMd C ro [t]).length))
    simpa [length_resMd] using this
  have hsep1 : ∀ i, i < ys.length → ∀ t, tys[i]? = some t → ∀ c j x u k, homeS ((resMd C ro [t]).getD 0 (.uni .ro)) (ys.getD i none1).1 (vs.getD i undef) c j = some (x, u) → u.ownBlock = some k → ¬ G1 k ∧
      ∀ c' j' x' u', homeS ((resMd C ro [t]).getD 0 (.uni .ro)) (ys.getD i none1).1 (vs.getD i undef) c' j' = some (x', u') → u'.ownBlock = some k → c = c' ∧ j = j' := by
    intro i hi t ht c j x u k hx hk'
    obtain ⟨_, hfr, _⟩ := hall i hi
    obtain ⟨f1, _, _, f4⟩ := hfr c j x u k ((hone i hi t ht).2 c j x u hx) hk'
    exact ⟨f1, fun c' j' x' u' hx' hk2 => f4 c' j' x' u' ((hone i hi t ht).2 c' j' x' u' hx') hk2⟩
  refine ⟨_, G1, run_results hrun, fun b hb => ⟨i1.gs b hb, i1.gin b hb⟩, ?_⟩
  by_cases h1 : tys.length = 1
  · obtain ⟨t, rfl⟩ : ∃ t, tys = [t] := List.length_eq_one_iff.1 h1
    have hy1 : ys.length = 1 := by simpa using hyl
    obtain ⟨y, rfl⟩ := List.length_eq_one_iff.1 hy1
    obtain ⟨v, rfl⟩ := List.length_eq_one_iff.1 (hlen.symm.trans hy1)
    simp only [List.map_cons, List.map_nil] at hres
    subst hres
    obtain ⟨q1, q2⟩ := hone 0 (by simp) t rfl
    refine ⟨q1, fun c j x u k hx hk' => hsep1 0 (by simp) t rfl c j x u k hx hk', fun j t' ht' => ?_⟩
    have hj : j = 0 := by
      have := (List.getElem?_eq_some_iff.1 ht').1
      simpa using this
    subst hj
    exact (hty 0 t' ht').1
  · have hretMd : retMd C ro tys = .tup (resMd C ro tys) := by
      unfold retMd
      split
      · simp at h1
      · rfl
    have hv : tupV vs = .tuple vs.toArray := by
      unfold tupV
      split
      · exfalso; apply h1; rw [← hyl, hlen]; rfl
      · rfl
    have ha : r = .tup (ys.map (·.1)) := by
      rw [← hres]
      split
      · rename_i a e
        exfalso; apply h1
        have : (ys.map (·.1)).length = 1 := by rw [e]; rfl
        rw [← hyl]; simpa using this
      · rfl
    rw [hv, ha]
    have hcomp : ∀ c, c < ys.length → compN (.tup (ys.map (·.1))) c = (ys.getD c none1).1 := fun c hc => by
      simp [compN, List.getD_eq_getElem?_getD, hc]
    have hvs : ∀ c, vs.toArray.getD c undef = vs.getD c undef := fun c => by simp [List.getD_eq_getElem?_getD]
    have hlt : ∀ c, c < (resMd C ro tys).length → c < ys.length ∧ ∃ t, tys[c]? = some t := fun c hc => by
      rw [length_resMd] at hc
      exact ⟨by omega, tys[c], by simp [hc]⟩
    have hhome : ∀ c j x u, homeS (.tup (resMd C ro tys)) (.tup (ys.map (·.1))) (.tuple vs.toArray) c j = some (x, u) → c < ys.length ∧ ∃ t, tys[c]? = some t ∧ homeS ((resMd C ro [t]).getD 0 (.uni .ro)) (ys.getD c none1).1 (vs.getD c undef) 0 j = some (x, u) := by
      intro c j x u hx
      simp only [homeS] at hx
      have hc : c < (resMd C ro tys).length := by
        rcases Nat.lt_or_ge c (resMd C ro tys).length with h' | h'
        · exact h'
        · rw [getD_over _ _ h'] at hx; simp [Md.home1, own?] at hx
      obtain ⟨hc', t, ht⟩ := hlt c hc
      refine ⟨hc', t, ht, ?_⟩
      rw [resMd_getD tys c t ht, hcomp c hc'] at hx
      have e : compV (.tuple vs.toArray) c = vs.getD c undef := hvs c
      rw [e] at hx
      rw [roOwn_home (hresro t)]
      exact hx
    refine ⟨?_, fun c j x u k hx hk' => ?_, fun j t ht => ?_⟩
    · rw [hretMd]
      refine ⟨vs.toArray, _, rfl, rfl, by simp [length_resMd]; omega, fun c hc => ?_⟩
      obtain ⟨hc', t, ht⟩ := hlt c hc
      rw [resMd_getD tys c t ht, hcomp c hc', hvs]
      exact roOwn_rep1 (hresro t) (hone c hc' t ht).1
    · rw [hretMd] at hx ⊢
      obtain ⟨hc, t, ht, hx1⟩ := hhome c j x u hx
      obtain ⟨s1, s2⟩ := hsep1 c hc t ht 0 j x u k hx1 hk'
      refine ⟨s1, fun c' j' x' u' hx' hk2 => ?_⟩
      obtain ⟨hc', t', ht', hx1'⟩ := hhome c' j' x' u' hx'
      by_cases e : c = c'
      · subst e
        rw [ht] at ht'; cases ht'
        exact ⟨rfl, (s2 0 j' x' u' hx1' hk2).2⟩
      · exact (hcross c c' hc hc' e 0 j x u k 0 j' x' u' ((hone c hc t ht).2 _ _ _ _ hx1) hk' ((hone c' hc' t' ht').2 _ _ _ _ hx1') hk2).elim
    · rw [if_neg h1]
      have hj : j < ys.length := by have := (List.getElem?_eq_some_iff.1 ht).1; omega
      rw [hcomp j hj]
      exact (hty j t ht).1
end

/-- The same, where the program's variables lie as they are laid. -/
def ContractL (C : Tab) (P : Program) (f : Nat) (args : List AV) (r : AV) : Prop :=
  ∀ (vals : Array Value) (w : World) (Gin : Nat → Prop), C.lay w → (∀ b, Gin b → b < w.heap.size) → ArgsOk C Gin w (C.share f) vals.toList args →
    CallsTo P f vals w fun v w' => ∃ G', Below w.heap.size w w' ∧ (∀ b, G' b → b < w'.heap.size ∧ (b < w.heap.size → Gin b)) ∧ RetOk C (C.roF f) G' w.heap.size w' (C.res f) v r
structure Tab.Ok2 (C : Tab) (P : Program) : Prop where
  mixed : P.follows .mixedOrders = true
  res : ∀ f fn, C.fn f = some fn → C.ext f = none → C.res f = fn.resultTypes.toList
  plans : ∀ f fn, C.fn f = some fn → C.ext f = none → plansOk (C.plan f) (bodyOf fn) = true
  copies : ∀ f fn, C.fn f = some fn → C.ext f = none → copiesOk P (C.copy f) (bodyOf fn)
  ext : ∀ f g, C.ext f = some g → ∀ args r, g args = some r → ContractL C P f args r
  lay : ∀ w w', C.lay w → Below w.heap.size w w' → C.lay w'

section
variable {C : Tab} {P : Program}
theorem run_calls (ok : Tab.Ok C P) (ok2 : Tab.Ok2 C P) (eqok : EqOk C P) {k : Nat} (ih : ∀ w, C.lay w → CallOk C P w (run C k)) {f : Nat} {args : List AV} {r : AV} (hext : C.ext f = none) (h : run C (k + 1) f args = some r)
    (vals : Array Value) (w : World) (Gin : Nat → Prop) (hlay : C.lay w) (hGin : ∀ b, Gin b → b < w.heap.size) (hargs : ArgsOk C Gin w (C.share f) vals.toList args) :
    (∃ fn, P.funcs[f]? = some fn ∧ fn.body.isSome = true ∧ (fn.name == "runtime.NumGoroutine") = false) ∧
    Calls P f vals w fun | .returned v, w' => (∃ G', Below w.heap.size w w' ∧ (∀ b, G' b → b < w'.heap.size ∧ (b < w.heap.size → Gin b)) ∧ RetOk C (C.roF f) G' w.heap.size w' (C.res f) v r) | _, _ => False := by
      simp only [run, hext] at h
      split at h
      · simp at h
      rename_i fn hfn
      obtain ⟨hf, hb, hn⟩ := ok.fn f fn hfn hext
      refine ⟨⟨fn, hf, hb, hn⟩, ?_⟩
      obtain ⟨c, hc⟩ : ∃ c, fn.body = some c := by
        cases hx : fn.body with
        | none => rw [hx] at hb; simp at hb
        | some c => exact ⟨c, rfl⟩
      have hbody : bodyOf fn = c := by simp [bodyOf, hc]
      obtain ⟨l, hex, hll, hl⟩ := entryK_some (X := ⟨C, w.heap.size, Gin, w, fun _ => none, fun _ => none⟩) ok rfl (fun b hb => .inr hb) (C.share f) fn.params.toList args vals.toList _ h hargs.1 hargs.2
      have hvl : vals.size = l.length := by have := hargs.1; simp at this; omega
      refine calls_of_wp hf hc ?_
      -- the frame at the start
      have hgetS : ∀ n, ({ slots := l ++ List.replicate (fn.ntmps - l.length) none1, boxes := [] } : Fr).getS n = l.getD n none1 := fun n => by
        show (l ++ List.replicate (fn.ntmps - l.length) none1).getD n none1 = l.getD n none1
        simp only [List.getD_eq_getElem?_getD]
        rcases Nat.lt_or_ge n l.length with hn | hn
        · rw [List.getElem?_append_left hn]
        · rw [List.getElem?_append_right hn, List.getElem?_eq_none hn, List.getElem?_replicate]
          split <;> rfl
      have hhomes : ∀ (tss : Array Value) (bv : Nat → Nat → Value), ({ slots := l ++ List.replicate (fn.ntmps - l.length) none1, boxes := [] } : Fr).homes tss bv = fun _ => none := by
        intro tss bv
        funext p
        obtain ⟨b, n, q, j⟩ := p
        cases b with
        | true => simp [Fr.homes, Fr.box?, assoc, homeB]
        | false =>
          simp only [Fr.homes, hgetS]
          rcases Nat.lt_or_ge n l.length with hn | hn
          · exact homeS_owns (hl n (by omega)).2 _ _ _ _
          · rw [getD_over _ _ hn, homeS_none1]
      have hinv : Inv C w Gin Gin (fun _ => 0) { slots := l ++ List.replicate (fn.ntmps - l.length) none1, boxes := [] } (vals ++ Array.replicate (fn.ntmps - vals.size) undef) w := by
        refine ⟨Below.refl _ _, hGin, fun b hb _ => hb, by simp [hvl], fun n hn => ?_, fun d cs hd => by simp [Fr.box?, assoc] at hd, fun d d' cs cs' hd => by simp [Fr.box?, assoc] at hd, fun p a v q hp => by rw [hhomes] at hp; simp at hp, fun p q a v a' v' q' hp => by rw [hhomes] at hp; simp at hp⟩
        rw [hgetS]
        rcases Nat.lt_or_ge n l.length with hn' | hn'
        · obtain ⟨r1, o1⟩ := hl n (by omega)
          have e : (vals ++ Array.replicate (fn.ntmps - vals.size) undef).getD n undef = vals.toList.getD n undef := by
            have : n < vals.size := by omega
            simp [List.getD_eq_getElem?_getD, Array.getElem?_append, this]
          rw [e]
          refine r1.mono ⟨rfl, rfl, fun _ h => h, fun _ _ => rfl, fun q _ a v hq => by simp at hq⟩ (fun d b hb => by simp at hb) (Md.hit_true _) fun _ _ _ _ _ _ _ => rfl
        · rw [getD_over _ _ hn']; exact RepM.none1 _ _
      have := exec_spec (ds := []) ok2.mixed ok eqok (ih w hlay) f k c (by rw [← hbody]; exact ok2.plans f fn hfn hext) (by rw [← hbody]; exact ok2.copies f fn hfn hext) hinv (by rw [hbody] at hex; exact hex)
      refine wp_mono this fun e a' w' hq => ?_
      have fin : After C w Gin [] (doneK C (C.roF f) fn) r a' w' → a'.defers = [] ∧ ∃ v, (results fn a'.tmps).run P w' = Result.ok v w' ∧ ∃ G', Below w.heap.size w w' ∧ (∀ b, G' b → b < w'.heap.size ∧ (b < w.heap.size → Gin b)) ∧ RetOk C (C.roF f) G' w.heap.size w' (C.res f) v r := by
        rintro ⟨G', gb', fr', ts', rfl, i', hk⟩
        obtain ⟨v, G1, h1, h2, h3⟩ := doneK_some i' ok hk
        exact ⟨rfl, v, h1, G1, i'.below, h2, by rw [ok2.res f fn hfn hext]; exact h3⟩
      cases e with
      | normal => exact fin hq
      | ret => exact fin hq
      | exit i =>
        obtain ⟨_, _, _, _, _, _, hk⟩ := hq
        simp at hk
      | _ => exact hq.elim

/-- WHAT THE INTERPRETER TELLS HOLDS OF THE MACHINE. -/
theorem run_ok (ok : Tab.Ok C P) (ok2 : Tab.Ok2 C P) (eqok : EqOk C P) : ∀ k w0, C.lay w0 → CallOk C P w0 (run C k)
  | 0 => fun w0 _ f args r h => by simp [run] at h
  | k + 1 => fun w0 hl0 f args r h => by
    have ih := run_ok ok ok2 eqok k
    cases hext : C.ext f with
    | some g =>
      simp only [run, hext] at h
      exact fun vals w Gin hGin hargs hbw => ok2.ext f g hext args r h vals w Gin (ok2.lay w0 w hl0 hbw) hGin hargs
    | none =>
      intro vals w Gin hGin hargs hbw
      obtain ⟨⟨fn, hf, hb, hn⟩, hc⟩ := run_calls ok ok2 eqok ih hext h vals w Gin (ok2.lay w0 w hl0 hbw) hGin hargs
      exact CallsTo.of_calls hf hb hn hc
end

end Go.Dam

/- Contracts of functions that take numbers and strings, and hand back one of them. -/
namespace Go.Dam
open Go.RowKit
set_option linter.unusedVariables false
set_option linter.unusedSimpArgs false
section
variable {C : Tab} {P : Program}
theorem retScalar {w : World} {f t : Nat} (hres : C.res f = [t]) (hflat : C.flat t = true) (hag : isAggT C t = some false) {v : Value} (h1 : v.oneCell' = true) {base : Nat} : RetOk C (C.roF f) (fun _ => False) base w (C.res f) v (.sc v) := by
  have hm : retMd C (C.roF f) (C.res f) = .uni .ro := by simp [hres, retMd, resMd, hflat]
  refine ⟨?_, fun c j x u k hx => ?_, fun j t' ht => ?_⟩
  · rw [hm]; exact sc_rep h1
  · rw [hm] at hx
    simp only [homeS] at hx
    split at hx
    · simp only [Md.home1] at hx
      split at hx <;> simp [own?] at hx
    · simp at hx
  · rw [hres] at ht
    have : j = 0 ∧ t' = t := by
      cases j with
      | zero => exact ⟨rfl, by simpa using ht.symm⟩
      | succ j => simp at ht
    obtain ⟨rfl, rfl⟩ := this
    intro h
    rw [hag] at h; simp at h
theorem frzVsc {S : Nat → Prop} {w : World} {v x : Value} (h : FrzV C S w v (.sc x)) : v = x := by
  rcases h with ⟨_, _, _, e, _⟩ | h
  · simp at e
  · cases h; rfl
theorem callsTo' {w : World} {f : Nat} {vals : Array Value} {fn : Func} (hf : P.funcs[f]? = some fn) (hb : fn.body.isSome = true) (hn : (fn.name == "runtime.NumGoroutine") = false) {R : Value → World → Prop} {Q : Ending → World → Prop}
    (h : Calls P f vals w Q) (hq : ∀ e w', Q e w' → ∃ v, e = .returned v ∧ R v w') : CallsTo P f vals w R :=
  CallsTo.of_calls hf hb hn (h.mono fun e w' he => by obtain ⟨v, rfl, hv⟩ := hq e w' he; exact hv)
theorem args_sc {Gin : Nat → Prop} {w : World} {bs : List Bool} {vals : Array Value} {xs : List Value} (h : ArgsOk C Gin w bs vals.toList (xs.map .sc)) : vals = xs.toArray := by
  obtain ⟨hl, ha⟩ := h
  have hl' : vals.toList.length = xs.length := by simpa using hl
  have e : vals.toList = xs := by
    refine List.ext_getElem hl' fun i h1 h2 => ?_
    have h3 := (ha i (by simpa using h2)).1
    have e1 : vals.toList.getD i undef = vals.toList[i] := by rw [List.getD_eq_getElem?_getD, List.getElem?_eq_getElem h1]; rfl
    have e2 : (xs.map AV.sc).getD i .undef = .sc xs[i] := by rw [List.getD_eq_getElem?_getD, List.getElem?_map, List.getElem?_eq_getElem h2]; rfl
    rw [e1, e2] at h3
    exact frzVsc h3
  rw [← e]
theorem retRow {w : World} {f t T : Nat} (hres : C.res f = [t]) {s b : Nat} {z0 : List AV} (hflat : C.flat t = false) (hrt : C.roF f = false) (hi : C.info t = some ([.sl T z0], s, b)) (hag : isAggT C t = some false) {v : Value} {base : Nat} {l : List AV}
    (h : OwnR C (fun _ => False) base w v (.sl T l)) : RetOk C (C.roF f) (fun _ => False) base w (C.res f) v (.sl T l) := by
  have hm : retMd C (C.roF f) (C.res f) = .uni .own := by simp [hres, retMd, resMd, hflat, hrt, hi, hag]
  refine ⟨?_, fun c j x u k hx hk => ?_, fun j t' ht => ?_⟩
  · rw [hm]; exact .inl h
  · rw [hm] at hx ⊢
    refine ⟨fun h => h.elim, fun c' j' x' u' hx' _ => ?_⟩
    have key : ∀ c j y, homeS (.uni .own) (.sl T l) v c j = some y → c = 0 ∧ j = 0 := by
      intro c j y hy
      simp only [homeS] at hy
      split at hy
      · rename_i hc
        refine ⟨hc, ?_⟩
        simp only [Md.home1] at hy
        split at hy
        · assumption
        · simp [own?] at hy
      · simp at hy
    obtain ⟨rfl, rfl⟩ := key c j _ hx
    obtain ⟨rfl, rfl⟩ := key c' j' _ hx'
    exact ⟨rfl, rfl⟩
  · rw [hres] at ht
    have : j = 0 ∧ t' = t := by
      cases j with
      | zero => exact ⟨rfl, by simpa using ht.symm⟩
      | succ j => simp at ht
    obtain ⟨rfl, rfl⟩ := this
    intro h; rw [hag] at h; simp at h
end
end Go.Dam
