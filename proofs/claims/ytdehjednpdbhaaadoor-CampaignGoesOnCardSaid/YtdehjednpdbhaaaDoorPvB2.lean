/- A part of an interpreter of the model's code that is proved sound, and of laws told by it: DamStep3, DamStep4, DamStep5. -/
import Derived.Test.YtdehjednpdbhaaaDoorPvB1
set_option linter.unusedVariables false
set_option linter.unusedSimpArgs false
/- Operations on parts and addresses. -/
namespace Go.Dam
open Go.RowKit
set_option linter.unusedVariables false
set_option linter.unusedSimpArgs false

section
variable {C : Tab} {P : Program} {w0 : World} {Gin G : Nat → Prop} {gb : Nat → Nat} {fr : Fr} {ts : Array Value} {w : World} {ds : List Deferred} {r : AV} {Q : Exit → Act → World → Prop}
variable {dst : Option Nat} {type : Nat} {pos : String} {after : Array Edge} {guard : Option (Nat × Bool)} {K : Fr → Option AV} {call : Nat → List AV → Option AV}

theorem owns_mdOf {t : Nat} {og : Nat → Own} {off : Nat} (h : ∀ j, (og j).owns = false) : (mdOf C t og off).owns = false := by
  unfold mdOf
  split
  · rfl
  · split
    · simp only [Md.owns, List.any_map, List.any_eq_false]
      intro j _
      simp [h]
    · exact h off
theorem owns_normM {t : Nat} {m : Md} (h : m.owns = false) : (normM C t m).owns = false := by
  unfold normM; split
  · rfl
  · exact h
theorem anyOwns_getD {l : List Own} (h : l.any Own.owns = false) (j : Nat) : (l.getD j .ro).owns = false := by
  rcases Nat.lt_or_ge j l.length with hj | hj
  · have h1 : l.getD j .ro = l[j] := by simp [hj]
    rw [h1]
    rw [List.any_eq_false] at h
    simpa using h _ (List.getElem_mem hj)
  · rw [getD_over _ _ hj]; rfl
theorem getD_extract {vs : Array Value} {f s i : Nat} (hi : i < s) (hl : f + s ≤ vs.size) : (vs.extract f (f + s)).getD i undef = vs.getD (f + i) undef := by
  simp only [Array.getD_eq_getD_getElem?, Array.getElem?_extract]
  rw [if_pos (by omega)]
theorem Frz.agg_false {C : Tab} {S : Nat → Prop} {w : World} {v : Value} {l : List AV} (h : Frz C S w v (.agg l)) : False := by cases h
theorem size_extract {vs : Array Value} {f s : Nat} (hl : f + s ≤ vs.size) : (vs.extract f (f + s)).size = s := by simp; omega

theorem upTo_spec {t off n : Nat} (h : upTo C t off n = true) {z : List AV} {s b : Nat} (hi : C.info t = some (z, s, b)) : off + s ≤ n := by
  simp only [upTo, sizeC, hi] at h
  exact Nat.le_of_ble_eq_true h

theorem fieldOf_some (ok : Tab.Ok C P) {T j f ft : Nat} (h : fieldOf C T j = some (f, ft)) : ∃ fs : Array Field, ∃ fd : Field, P.underlying T = some (.struct fs) ∧ fs[j]? = some fd ∧ fd.offset = f ∧ fd.type = ft := by
  unfold fieldOf at h
  split at h
  case h_2 => simp at h
  rename_i fs hT
  split at h
  case h_2 => simp at h
  rename_i fd hf
  simp only [Option.some.injEq, Prod.mk.injEq] at h
  exact ⟨fs, fd, ok.ty _ _ hT, hf, h.1, h.2⟩

theorem ev_owns_agg {t : Nat} {x : Operand} {l : List AV} (ha : (ev C fr t x).1 = .agg l) : (ev C fr t x).2.owns = false := by
  cases x with
  | tmp i => exact owns_viewM _ _ _
  | const v =>
    simp only [ev] at ha ⊢
    split
    · rename_i hn
      rw [if_pos hn] at ha
      split at ha
      · simp at ha
      · simp [none1] at ha
    · exact owns_constM v
  | func f => simp only [ev]; split <;> rfl
  | global g => rfl

theorem st_field (h : Inv C w0 Gin G gb fr ts w) (ok : Tab.Ok C P) {T j : Nat} {x : Operand} (hs : step C call ⟨dst, .field T x j, type, pos, after, guard⟩ fr K = some r) :
    StepQ C P w0 Gin ds r (fun _ => True) G gb fr ts w ⟨dst, .field T x j, type, pos, after, guard⟩ K := by
  simp only [step] at hs
  split at hs
  case h_1 => simp at hs
  rename_i f ft hf
  obtain ⟨fs, fd, hT, hfd, rfl, rfl⟩ := fieldOf_some ok hf
  obtain ⟨h1, _⟩ := h.ev ok ds T x
  have hrun : ∀ vs : Array Value, ∀ z s b, ({ tmps := ts, defers := ds } : Act).eval x = .agg vs → C.info fd.type = some (z, s, b) → fd.offset + s ≤ vs.size →
      ∀ w, (execOp ({ tmps := ts, defers := ds } : Act).eval ⟨dst, .field T x j, type, pos, after, guard⟩).run P w = .ok (.value (valV C fd.type (vs.extract fd.offset (fd.offset + s)))) w := by
    intro vs z s b hv hi hl w
    simp [execOp, Instr.field, run_underlying hT, hfd, hv, asAgg, run_part ok hi hl]
  split at hs
  · rename_i o hm
    split at hs
    case h_2 => simp at hs
    rename_i l ha
    split at hs
    case isFalse => simp at hs
    rename_i hup
    have hno := ev_owns_agg ha
    rw [hm, ha] at h1
    rw [hm] at hno
    obtain ⟨z, s, b, hi, hz, hk, hl⟩ := tellK_some ok hs
    rcases h1 with h1 | ⟨ho, vs, la, hv, e, hla, hr⟩
    · obtain ⟨S, hf⟩ := RepO.frz h1; exact hf.agg_false.elim
    cases e
    have hle := upTo_spec hup hi
    refine wp_value h (x := (valA C fd.type (fun j => cellN (ev C fr T x).1 (fd.offset + j)) s, normM C fd.type (.uni o))) (hrun vs z s b hv hi (by omega)) ?_ (NoBlk.of_owns (owns_normM hno) _ _) hk
    refine normM_rep (X := stOf C w0.heap.size G gb fr ts w) rfl ok hi (fun _ => ho) (size_extract (vs := vs) (f := fd.offset) (by omega)) (fun i hil => ?_) hl
    rw [getD_extract hil (by omega), ha]
    exact hr (fd.offset + i) (by omega)
  · rename_i l hm
    split at hs
    case isFalse => simp at hs
    rename_i hup
    rw [hm] at h1
    obtain ⟨vs, la, hv, e, hla, hll, hr⟩ := h1
    have hno := ev_owns_agg e
    rw [hm] at hno
    obtain ⟨z, s, b, hi, hz, hk, hl⟩ := tellK_some ok hs
    have hle := upTo_spec hup hi
    refine wp_value h (x := (valA C fd.type (fun j => cellN (ev C fr T x).1 (fd.offset + j)) s, mdOf C fd.type (fun j => l.getD j .ro) fd.offset)) (hrun vs z s b hv hi (by omega)) ?_ (NoBlk.of_owns (owns_mdOf (anyOwns_getD hno)) _ _) hk
    refine mdOf_rep (X := stOf C w0.heap.size G gb fr ts w) (og := fun j => l.getD j .ro) (f := cellN (ev C fr T x).1) rfl ok hi (size_extract (vs := vs) (f := fd.offset) (by omega)) (fun i hil => ?_) hl
    rw [getD_extract hil (by omega)]
    exact hr (fd.offset + i) (by omega)
  · simp at hs

theorem run_fieldAt {T j : Nat} {fs : Array Field} {fd : Field} (ok : Tab.Ok C P) (hT : P.underlying T = some (.struct fs)) (hf : fs[j]? = some fd) (hc : hasCells C fd.type = true) (b o : Nat) :
    (Instr.fieldAt T (.pointer (some ⟨b, o, none⟩)) j).run P w = .ok (.pointer (some ⟨b, o + fd.offset, none⟩)) w := by
  unfold hasCells at hc
  split at hc
  case h_2 => simp at hc
  rename_i n hn
  unfold sizeC at hn
  split at hn
  case h_2 => simp at hn
  rename_i z s bb hi
  simp only [Option.some.injEq] at hn
  have hadd : (⟨b, o, none⟩ : Addr).add fd.offset = ⟨b, o + fd.offset, none⟩ := by unfold Addr.add; split <;> simp_all
  simp [Instr.fieldAt, run_underlying hT, hf, Instr.sureAddr, fieldPlace, run_sizeOf' ok hi, hn, hadd]

theorem st_fieldAddr (h : Inv C w0 Gin G gb fr ts w) (ok : Tab.Ok C P) {T j : Nat} {x : Operand} (hs : step C call ⟨dst, .fieldAddr T x j, type, pos, after, guard⟩ fr K = some r) :
    StepQ C P w0 Gin ds r (fun _ => True) G gb fr ts w ⟨dst, .fieldAddr T x j, type, pos, after, guard⟩ K := by
  simp only [step] at hs
  split at hs
  case h_1 => simp at hs
  rename_i f ft hf
  obtain ⟨fs, fd, hT, hfd, rfl, rfl⟩ := fieldOf_some ok hf
  split at hs
  · simp at hs
  rename_i hc
  simp only [Bool.not_eq_true', Bool.not_eq_false] at hc
  obtain ⟨h1, _⟩ := h.ev ok ds 0 x
  have hrun : ∀ b o, ({ tmps := ts, defers := ds } : Act).eval x = .pointer (some ⟨b, o, none⟩) →
      ∀ w, (execOp ({ tmps := ts, defers := ds } : Act).eval ⟨dst, .fieldAddr T x j, type, pos, after, guard⟩).run P w = .ok (.value (.pointer (some ⟨b, o + fd.offset, none⟩))) w := by
    intro b o hv w
    simp only [execOp, hv]
    rw [Sem.run_bind, run_fieldAt ok hT hfd hc]
    rfl
  split at hs
  · rename_i d off hm
    rw [hm] at h1
    obtain ⟨b, hb, hv, ha⟩ := h1
    exact wp_value h (x := (.undef, .loc d (off + fd.offset))) (hrun _ _ hv) ⟨b, hb, rfl, rfl⟩ (NoBlk.of_owns rfl _ _) hs
  · rename_i o off hm
    rw [hm] at h1
    obtain ⟨b, k, la, hv, ha, h1⟩ := h1
    exact wp_value h (x := ((ev C fr 0 x).1, .adr o (off + fd.offset))) (hrun _ _ hv) ⟨b, k, la, by rw [Nat.add_assoc], ha, h1⟩ (NoBlk.of_owns rfl _ _) hs
  · rename_i p i off hm
    rw [hm] at h1
    obtain ⟨T', l, z, s, b', g, cap, cs, hq, hi, hil, hv, ha, hcs, hj⟩ := h1
    exact wp_value h (x := ((ev C fr 0 x).1, .elem p i (off + fd.offset))) (hrun _ _ hv) ⟨T', l, z, s, b', g, cap, cs, hq, hi, hil, by rw [Nat.add_assoc], ha, hcs, hj⟩ (NoBlk.of_owns rfl _ _) hs
  · rename_i o hm
    obtain ⟨l, hl, hs⟩ := castRef_some hs
    rw [hm, hl] at h1
    have hv := RepM.ref (m := .uni o) h1
    obtain ⟨b, k, hv⟩ := hv
    rcases h1 with h1 | ⟨_, _, _, _, e, _⟩
    · rw [hv] at h1
      exact wp_value h (x := (.ref l, .adr o fd.offset)) (hrun _ _ hv) ⟨b, k, l, rfl, rfl, h1⟩ (NoBlk.of_owns rfl _ _) hs
    · simp at e
  · simp at hs
end

end Go.Dam

/- Elements, parts of rows, loads. -/
namespace Go.Dam
open Go.RowKit
set_option linter.unusedVariables false
set_option linter.unusedSimpArgs false

theorem Addr.add_none {ad : Addr} (h : ad.spot = none) (n : Nat) : ad.add n = ⟨ad.block, ad.off + n, none⟩ := by
  obtain ⟨b, o, sp⟩ := ad
  simp only at h
  subst h
  unfold Addr.add
  split <;> simp_all

section
variable {C : Tab} {P : Program} {w0 : World} {Gin G : Nat → Prop} {gb : Nat → Nat} {fr : Fr} {ts : Array Value} {w : World} {ds : List Deferred} {r : AV} {Q : Exit → Act → World → Prop}
variable {dst : Option Nat} {type : Nat} {pos : String} {after : Array Edge} {guard : Option (Nat × Bool)} {K : Fr → Option AV} {call : Nat → List AV → Option AV}

theorem cellsAt_spec (ok : Tab.Ok C P) {e : Nat} {el : AV} {cs : List AV} {z : List AV} {s b : Nat} (hi : C.info e = some (z, s, b)) (h : cellsAt C e el = some cs) : cs.length = s ∧ ∀ j, j < s → cs.getD j .undef = elCell C e el j := by
  obtain ⟨d, hd, hd', hag, hl, h1⟩ := isAggT_of ok hi
  unfold cellsAt at h
  rw [hd'] at h
  simp only [sizeC, hi] at h
  cases ha : isAggD d with
  | true =>
    rw [ha] at h
    simp only [Option.some.injEq] at h
    subst h
    refine ⟨length_tell .., fun j hj => ?_⟩
    rw [getD_tell _ _ _ _ hj, Nat.zero_add]
    simp [elCell, hd', ha]
  | false =>
    have hs := h1 ha
    subst hs
    rw [ha] at h
    simp only [Option.some.injEq] at h
    subst h
    refine ⟨rfl, fun j hj => ?_⟩
    have : j = 0 := by omega
    subst this
    simp [elCell, hd', ha]

/-- An element's address. -/
theorem Frz.at (ok : Tab.Ok C P) {S : Nat → Prop} {v : Value} {T : Nat} {l : List AV} (h : Frz C S w v (.sl T l)) {n : Nat} {el : AV} (hn : l[n]? = some el) {cs : List AV} (hc : cellsAt C T el = some cs) :
    ∃ ad cap z s b, v = .slice (some ad) l.length cap ∧ ad.spot = none ∧ C.info T = some (z, s, b) ∧ Frz C S w (.pointer (some ⟨ad.block, ad.off + n * s, none⟩)) (.ref cs) := by
  obtain ⟨A, cap, s, b, z, ad, cv, hv, hi, h1, h2, hA, hcell, hp, hr⟩ := h.slice
  have hlt : n < l.length := (List.getElem?_eq_some_iff.1 hn).1
  have hel : l.getD n .undef = el := by simp [List.getD_eq_getElem?_getD, hn]
  obtain ⟨rfl, hS, hsp⟩ := hA (by omega)
  obtain ⟨hl, hcs⟩ := cellsAt_spec ok hi hc
  refine ⟨ad, cap, z, s, b, hv, hsp, hi, .ref cs ad.block (ad.off + n * s) (cv n) (fun _ => hS) (fun j hj => ?_) fun j hj => ?_⟩
  · have := hcell n j hlt (by omega)
    rw [Addr.add_none hsp] at this
    rw [Nat.add_assoc]; exact this
  · rw [hcs j (by omega), ← hel]
    exact hr n j hlt (by omega)

theorem run_indexAt_slice (ok : Tab.Ok C P) {T e : Nat} (hT : C.ty T = some (.slice e)) {z : List AV} {s b : Nat} (hi : C.info e = some (z, s, b)) {ad : Addr} (hsp : ad.spot = none) {len cap : Nat} {n : Int} (h0 : 0 ≤ n) (hn : n.toNat < len) :
    (Instr.indexAt T (.slice (some ad) len cap) (.int .i64 n)).run P w = .ok (.pointer (some ⟨ad.block, ad.off + n.toNat * s, none⟩)) w := by
  have : n < len := by omega
  simp [Instr.indexAt, asIntOf, run_underlying (ok.ty _ _ hT), h0, this, run_sizeOf' ok hi, Addr.add_none hsp]

theorem st_indexSlice (h : Inv C w0 Gin G gb fr ts w) (ok : Tab.Ok C P) {T e : Nat} {x ix : Operand} (hT : C.ty T = some (.slice e))
    (hs : (castI .i64 (ev C fr 0 ix).1 fun n => castL e (ev C fr T x).1 fun l => match (ev C fr T x).2 with
      | .uni w => if 0 ≤ n then match l[n.toNat]? with
          | some el => match cellsAt C e el with
            | some cs => K (fr.put dst (.ref cs, match w with | .brw p true => .elem p n.toNat 0 | w => .adr w 0))
            | none => none
          | none => none
        else none
      | _ => none) = some r) :
    StepQ C P w0 Gin ds r (fun _ => True) G gb fr ts w ⟨dst, .indexAddr T x ix, type, pos, after, guard⟩ K := by
  obtain ⟨n, hn, hs⟩ := castI_some hs
  obtain ⟨l, hl, hs⟩ := castL_some hs
  have hix := ev_sc (ds := ds) h ok hn
  obtain ⟨h1, _⟩ := h.ev ok ds T x
  split at hs
  case h_2 => simp at hs
  rename_i o hm
  split at hs
  case isFalse => simp at hs
  rename_i h0
  split at hs
  case h_2 => simp at hs
  rename_i el hel
  split at hs
  case h_2 => simp at hs
  rename_i cs hcs
  rw [hm, hl] at h1
  have hnb := ev_noblk C fr T x ts ds
  rw [hm, hl] at hnb
  have hlt : n.toNat < l.length := (List.getElem?_eq_some_iff.1 hel).1
  obtain ⟨o', e1, h1⟩ := h1.sl
  cases e1
  have hrun : ∀ ad cap z s b, ({ tmps := ts, defers := ds } : Act).eval x = .slice (some ad) l.length cap → ad.spot = none → C.info e = some (z, s, b) →
      ∀ w, (execOp ({ tmps := ts, defers := ds } : Act).eval ⟨dst, .indexAddr T x ix, type, pos, after, guard⟩).run P w = .ok (.value (.pointer (some ⟨ad.block, ad.off + n.toNat * s, none⟩))) w := by
    intro ad cap z s b hv hsp hi w
    simp only [execOp, hv, hix]
    rw [Sem.run_bind, run_indexAt_slice ok hT hi hsp h0 hlt]
    rfl
  cases o with
  | ro =>
    obtain ⟨ad, cap, z, s, b, hv, hsp, hi, hf⟩ := Frz.at ok h1 hel hcs
    exact wp_value h (x := (.ref cs, .adr .ro 0)) (hrun ad cap z s b hv hsp hi) ⟨_, _, cs, rfl, rfl, hf⟩ (NoBlk.of_owns rfl _ _) hs
  | lent =>
    obtain ⟨ad, cap, z, s, b, hv, hsp, hi, hf⟩ := Frz.at ok h1 hel hcs
    exact wp_value h (x := (.ref cs, .adr .lent 0)) (hrun ad cap z s b hv hsp hi) ⟨_, _, cs, rfl, rfl, hf⟩ (NoBlk.of_owns rfl _ _) hs
  | own =>
    obtain ⟨S, hf⟩ := RepO.frz h1
    obtain ⟨ad, cap, z, s, b, hv, hsp, hi, hf⟩ := Frz.at ok hf hel hcs
    have := hnb 0 0 (.sl e l) _ (by simp [homeS, Md.home1, own?, av1, val1]; rfl)
    rw [hv] at this
    simp [Value.ownBlock] at this
  | brw p f =>
    obtain ⟨qa, qv, hq, hf, hfull⟩ := h1
    obtain ⟨ad, cap, z, s, b, hv, hsp, hi, hfe⟩ := Frz.at ok hf hel hcs
    cases f with
    | false => exact wp_value h (x := (.ref cs, .adr (.brw p false) 0)) (hrun ad cap z s b hv hsp hi) ⟨_, _, cs, rfl, rfl, qa, qv, hq, hfe, by simp⟩ (NoBlk.of_owns rfl _ _) hs
    | true =>
      obtain ⟨e1, e2⟩ := hfull rfl
      have hown := h.own hq
      rw [← e1, ← e2] at hown hq
      obtain ⟨T', l', z', s', b', xs, e3, hi', how, hp', hr'⟩ := hown
      cases e3
      rw [hi] at hi'; cases hi'
      obtain ⟨hxl, how⟩ := how
      rw [hv] at how
      rcases how with ⟨e4, _⟩ | ⟨g, cap', cur, _, e4, _⟩
      · simp at e4
      · cases e4
        rw [hv] at hq
        obtain ⟨hcl, hcj⟩ := cellsAt_spec ok hi hcs
        refine wp_value h (x := (.ref cs, .elem p n.toNat 0)) (hrun _ cap z s b hv hsp hi) ⟨e, l, z, s, b, g, cap, cs, hq, hi, hlt, by simp, rfl, hcl, fun j hj => ?_⟩ (NoBlk.of_owns rfl _ _) hs
        have : l.getD n.toNat .undef = el := by simp [List.getD_eq_getElem?_getD, hel]
        rw [this]; exact hcj j hj

theorem st_indexArr (h : Inv C w0 Gin G gb fr ts w) (ok : Tab.Ok C P) {T len e : Nat} {x ix : Operand} (hT : C.ty T = some (.array len e))
    (hs : (castI .i64 (ev C fr 0 ix).1 fun n => match sizeC C e with
      | some s => if 0 ≤ n ∧ n < len then match (ev C fr 0 x).2 with
          | .loc d off => K (fr.put dst (.undef, .loc d (off + n.toNat * s)))
          | .adr w off => K (fr.put dst ((ev C fr 0 x).1, .adr w (off + n.toNat * s)))
          | .elem p i off => K (fr.put dst ((ev C fr 0 x).1, .elem p i (off + n.toNat * s)))
          | _ => none
        else none
      | none => none) = some r) :
    StepQ C P w0 Gin ds r (fun _ => True) G gb fr ts w ⟨dst, .indexAddr T x ix, type, pos, after, guard⟩ K := by
  obtain ⟨n, hn, hs⟩ := castI_some hs
  have hix := ev_sc (ds := ds) h ok hn
  obtain ⟨h1, _⟩ := h.ev ok ds 0 x
  split at hs
  case h_2 => simp at hs
  rename_i s hsz
  split at hs
  case isFalse => simp at hs
  rename_i h0
  unfold sizeC at hsz
  split at hsz
  case h_2 => simp at hsz
  rename_i z s' b hi
  simp only [Option.some.injEq] at hsz
  subst hsz
  have hrun : ∀ b o, ({ tmps := ts, defers := ds } : Act).eval x = .pointer (some ⟨b, o, none⟩) →
      ∀ w, (execOp ({ tmps := ts, defers := ds } : Act).eval ⟨dst, .indexAddr T x ix, type, pos, after, guard⟩).run P w = .ok (.value (.pointer (some ⟨b, o + n.toNat * s', none⟩))) w := by
    intro b o hv w
    simp [execOp, hv, hix, Instr.indexAt, asIntOf, run_underlying (ok.ty _ _ hT), Instr.sureAddr, h0, run_sizeOf' ok hi, Addr.add_none]
  split at hs
  · rename_i d off hm
    rw [hm] at h1
    obtain ⟨b, hb, hv, ha⟩ := h1
    exact wp_value h (x := (.undef, .loc d (off + n.toNat * s'))) (hrun _ _ hv) ⟨b, hb, rfl, rfl⟩ (NoBlk.of_owns rfl _ _) hs
  · rename_i o off hm
    rw [hm] at h1
    obtain ⟨b, k, la, hv, ha, h1⟩ := h1
    exact wp_value h (x := ((ev C fr 0 x).1, .adr o (off + n.toNat * s'))) (hrun _ _ hv) ⟨b, k, la, by rw [Nat.add_assoc], ha, h1⟩ (NoBlk.of_owns rfl _ _) hs
  · rename_i p i off hm
    rw [hm] at h1
    obtain ⟨T', l, z, s, b', g, cap, cs, hq, hi, hil, hv, ha, hcs, hj⟩ := h1
    exact wp_value h (x := ((ev C fr 0 x).1, .elem p i (off + n.toNat * s'))) (hrun _ _ hv) ⟨T', l, z, s, b', g, cap, cs, hq, hi, hil, by rw [Nat.add_assoc], ha, hcs, hj⟩ (NoBlk.of_owns rfl _ _) hs
  · simp at hs
end

end Go.Dam

/- Slices of slices, loads, functions. -/
namespace Go.Dam
open Go.RowKit
set_option linter.unusedVariables false
set_option linter.unusedSimpArgs false

section
variable {C : Tab} {P : Program} {w0 : World} {Gin G : Nat → Prop} {gb : Nat → Nat} {fr : Fr} {ts : Array Value} {w : World} {ds : List Deferred} {r : AV} {Q : Exit → Act → World → Prop}
variable {dst : Option Nat} {type : Nat} {pos : String} {after : Array Edge} {guard : Option (Nat × Bool)} {K : Fr → Option AV} {call : Nat → List AV → Option AV}

theorem boundK_some (h : Inv C w0 Gin G gb fr ts w) (ok : Tab.Ok C P) {dflt : Int} {x : Option Operand} {K : Int → Option AV} (hs : boundK C fr dflt x K = some r) :
    ∃ n, K n = some r ∧ ((x = none ∧ n = dflt) ∨ ∃ z, x = some z ∧ ({ tmps := ts, defers := ds } : Act).eval z = .int .i64 n) := by
  cases x with
  | none => exact ⟨dflt, hs, .inl ⟨rfl, rfl⟩⟩
  | some z =>
    obtain ⟨n, hn, hs⟩ := castI_some hs
    exact ⟨n, hs, .inr ⟨z, rfl, ev_sc (ds := ds) h ok hn⟩⟩

theorem run_bounds {isSlice : Bool} {len cap : Nat} {lo hi : Option Value} {a b : Int} (ha : (lo = none ∧ a = 0) ∨ lo = some (.int .i64 a)) (hb : (hi = none ∧ b = len) ∨ hi = some (.int .i64 b)) (h0 : 0 ≤ a) (h1 : a ≤ b) (h2 : b ≤ cap) (hlc : len ≤ cap) :
    (Instr.sliceBounds isSlice len cap lo hi none).run P w = .ok (a.toNat, b.toNat, cap) w := by
  have h3 : 0 ≤ b := by omega
  have e : ((b.toNat : Nat) : Int) = b := by omega
  rcases ha with ⟨rfl, rfl⟩ | rfl <;> rcases hb with ⟨rfl, rfl⟩ | rfl
  · simp [Instr.sliceBounds]
  · simp [Instr.sliceBounds, run_sliceBound, h3, h2]
  · have : a ≤ (len : Int) := h1
    simp [Instr.sliceBounds, run_sliceBound, h0, this]
  · have h1' : a ≤ ((b.toNat : Nat) : Int) := by omega
    have hb1 := run_sliceBound (P := P) w .i64 b cap (if isSlice then .sliceAcap else .sliceAlen) h3 h2
    have ha1 := run_sliceBound (P := P) w .i64 a b.toNat .sliceB h0 h1'
    simp [Instr.sliceBounds, hb1, ha1]

/-- A part of a row. -/
theorem Frz.part {S : Nat → Prop} {T : Nat} {l : List AV} {A : Option Addr} {cap : Nat} {z : List AV} {s b : Nat} (hi : C.info T = some (z, s, b)) (h : Frz C S w (.slice A l.length cap) (.sl T l)) {i k : Nat} (hik : i ≤ k) (hk : k ≤ l.length) :
    Frz C S w (.slice (if cap = i then A else A.map (·.add (i * s))) (k - i) (cap - i)) (.sl T ((l.take k).drop i)) := by
  obtain ⟨A', cap', s', b', z', ad, cv, hv, hi', h1, h2, hA, hcell, hp, hr⟩ := h.slice
  cases hv
  rw [hi] at hi'; cases hi'
  have hlen : ((l.take k).drop i).length = k - i := by simp; omega
  have hget : ∀ n, n < k - i → ((l.take k).drop i).getD n .undef = l.getD (i + n) .undef := by
    intro n hn
    have : n < k - i := hn
    simp only [List.getD_eq_getElem?_getD, List.getElem?_drop, List.getElem?_take]
    rw [if_pos (by omega)]
  rw [← hlen]
  refine .sl T _ _ (cap - i) s b z (if i * s = 0 then ad else ad.add (i * s)) (fun n j => cv (i + n) j) hi (by rw [hlen]; omega) (by omega) (fun hpos => ?_) (fun n j hn hj => ?_) (fun n j hn hj hz => ?_) fun n j hn hj => ?_
  · rw [hlen] at hpos
    obtain ⟨rfl, hS, hsp⟩ := hA (by omega)
    rw [if_neg (by omega)]
    by_cases h0 : i * s = 0
    · rw [if_pos h0]; exact ⟨by simp [h0, Addr.add], hS, hsp⟩
    · rw [if_neg h0]; exact ⟨rfl, by rw [Addr.add_none hsp]; exact hS, by rw [Addr.add_none hsp]⟩
  · rw [hlen] at hn
    obtain ⟨rfl, hS, hsp⟩ := hA (by omega)
    have := hcell (i + n) j (by omega) hj
    rw [Addr.add_none hsp] at this
    have e : (i + n) * s + j = i * s + (n * s + j) := by rw [Nat.add_mul]; omega
    rw [e] at this
    by_cases h0 : i * s = 0
    · rw [if_pos h0, Addr.add_none hsp, ← this, h0, Nat.zero_add]
    · rw [if_neg h0, Addr.add_none hsp, Addr.add_none (by rfl), ← this, Nat.add_assoc]
  · rw [hlen] at hn
    rw [hget n hn]; exact hp (i + n) j (by omega) hj hz
  · rw [hlen] at hn
    rw [hget n hn]; exact hr (i + n) j (by omega) hj

theorem st_slice (h : Inv C w0 Gin G gb fr ts w) (ok : Tab.Ok C P) {T : Nat} {x : Operand} {lo hi mx : Option Operand} (hs : step C call ⟨dst, .slice T x lo hi mx, type, pos, after, guard⟩ fr K = some r) :
    StepQ C P w0 Gin ds r (fun _ => True) G gb fr ts w ⟨dst, .slice T x lo hi mx, type, pos, after, guard⟩ K := by
  simp only [step] at hs
  split at hs
  · rename_i e hT
    split at hs
    case h_2 => simp at hs
    rename_i o hm
    obtain ⟨l, hl, hs⟩ := castL_some hs
    obtain ⟨a, hs, ha⟩ := boundK_some (ds := ds) h ok hs
    obtain ⟨b, hs, hb⟩ := boundK_some (ds := ds) h ok hs
    split at hs
    case isFalse => simp at hs
    rename_i hab
    obtain ⟨h1, _⟩ := h.ev ok ds T x
    have hnb := ev_noblk C fr T x ts ds
    rw [hm, hl] at h1 hnb
    obtain ⟨A, cap, hv, hlc, hcm⟩ := h1.slice
    obtain ⟨o', e1, h1⟩ := h1.sl
    cases e1
    obtain ⟨⟨z, s, bb⟩, hinf⟩ := ok.elem T e hT
    have hrun : ∀ w, (execOp ({ tmps := ts, defers := ds } : Act).eval ⟨dst, .slice T x lo hi none, type, pos, after, guard⟩).run P w = .ok (.value (.slice (if cap = a.toNat then A else A.map (·.add (a.toNat * s))) (b.toNat - a.toNat) (cap - a.toNat))) w := by
      intro w
      have hbd := run_bounds (P := P) (w := w) (isSlice := true) (len := l.length) (cap := cap) (lo := lo.map ({ tmps := ts, defers := ds } : Act).eval) (hi := hi.map ({ tmps := ts, defers := ds } : Act).eval) (a := a) (b := b)
        (by rcases ha with ⟨rfl, rfl⟩ | ⟨zz, rfl, e⟩
            · exact .inl ⟨rfl, rfl⟩
            · exact .inr (by simp [e]))
        (by rcases hb with ⟨rfl, rfl⟩ | ⟨zz, rfl, e⟩
            · exact .inl ⟨rfl, rfl⟩
            · exact .inr (by simp [e])) hab.1 hab.2.1 (by omega) hlc
      simp [execOp, Instr.sliceAt, Instr.slice, hv, run_underlying (ok.ty _ _ hT), hbd, run_sizeOf' ok hinf]
    have hik : a.toNat ≤ b.toNat := by omega
    have hk : b.toNat ≤ l.length := by omega
    rw [hv] at h1 hnb
    cases o with
    | ro => exact wp_value h (x := (.sl e ((l.take b.toNat).drop a.toNat), .uni .ro)) hrun (.inl (Frz.part hinf h1 hik hk)) (NoBlk.of_owns rfl _ _) hs
    | lent => exact wp_value h (x := (.sl e ((l.take b.toNat).drop a.toNat), .uni .lent)) hrun (.inl (Frz.part hinf h1 hik hk)) (NoBlk.of_owns rfl _ _) hs
    | own =>
      have hb0 := hnb 0 0 (.sl e l) _ (by simp [homeS, Md.home1, own?, av1, val1]; rfl)
      have hA : A = none := by
        cases A with
        | none => rfl
        | some ad => simp [Value.ownBlock] at hb0
      subst hA
      obtain ⟨T', l', z', s', b', xs, e3, hi', how, _⟩ := (show OwnR _ _ _ _ _ _ from h1)
      cases e3
      obtain ⟨_, how⟩ := how
      rcases how with ⟨e4, e5⟩ | ⟨_, _, _, _, e4, _⟩
      · have : l = [] := by simpa using e5
        subst this
        simp only [Value.slice.injEq] at e4
        obtain ⟨_, _, rfl⟩ := e4
        have ha0 : a = 0 := by simp at hab; omega
        have hb0 : b = 0 := by simp at hab; omega
        subst ha0 hb0
        refine wp_value h (x := (.sl e (([].take (0 : Int).toNat).drop (0 : Int).toNat), .uni .own)) hrun (.inl ?_) ?_ hs
        · show OwnR C G w0.heap.size w _ _
          have := OwnR.nil hinf G w0.heap.size w
          simpa using this
        · exact fun c j x u hx => by
            simp only [homeS] at hx
            split at hx
            · obtain ⟨_, h2⟩ := own?_some hx
              cases h2
              simp [val1, Value.ownBlock]
            · simp at hx
      · simp at e4
    | brw p f =>
      obtain ⟨qa, qv, hq, hf, hfull⟩ := h1
      exact wp_value h (x := (.sl e ((l.take b.toNat).drop a.toNat), .uni (.brw p false))) hrun (.inl ⟨qa, qv, hq, Frz.part hinf hf hik hk, by simp⟩) (NoBlk.of_owns rfl _ _) hs
  · rename_i hT
    obtain ⟨sv, hsv, hs⟩ := castS_some hs
    obtain ⟨a, hs, ha⟩ := boundK_some (ds := ds) h ok hs
    obtain ⟨b, hs, hb⟩ := boundK_some (ds := ds) h ok hs
    split at hs
    case isFalse => simp at hs
    rename_i hab
    have hv := ev_sc (ds := ds) h ok hsv
    refine wp_sc h rfl ?_ hs
    intro w
    have hbd := run_bounds (P := P) (w := w) (isSlice := false) (len := sv.size) (cap := sv.size) (lo := lo.map ({ tmps := ts, defers := ds } : Act).eval) (hi := hi.map ({ tmps := ts, defers := ds } : Act).eval) (a := a) (b := b)
      (by rcases ha with ⟨rfl, rfl⟩ | ⟨zz, rfl, e⟩
          · exact .inl ⟨rfl, rfl⟩
          · exact .inr (by simp [e]))
      (by rcases hb with ⟨rfl, rfl⟩ | ⟨zz, rfl, e⟩
          · exact .inl ⟨rfl, rfl⟩
          · exact .inr (by simp [e])) hab.1 hab.2.1 hab.2.2 (Nat.le_refl _)
    simp [execOp, Instr.sliceAt, Instr.slice, hv, run_underlying (ok.ty _ _ hT), hbd]
  · simp at hs

theorem st_makeFunc (h : Inv C w0 Gin G gb fr ts w) (ok : Tab.Ok C P) {g : Fn} {first captured : Array Operand} (hs : step C call ⟨dst, .makeFunc g first captured, type, pos, after, guard⟩ fr K = some r) :
    StepQ C P w0 Gin ds r (fun _ => True) G gb fr ts w ⟨dst, .makeFunc g first captured, type, pos, after, guard⟩ K := by
  simp only [step] at hs
  split at hs
  case h_2 => simp at hs
  rename_i f hf
  split at hs
  case isFalse => simp at hs
  rename_i hc
  simp only [Bool.and_eq_true, List.all_eq_true] at hc
  have hfirst : first = #[] := by apply Array.ext'; simpa using hf
  subst hfirst
  have hcap : ∀ c ∈ captured.toList, ∃ d off b, (ev C fr 0 c).2 = .loc d off ∧ (stOf C w0.heap.size G gb fr ts w).bx d = some b ∧ ({ tmps := ts, defers := ds } : Act).eval c = .pointer (some ⟨b, off, none⟩) := by
    intro c hcm
    have := hc.2 c hcm
    have h1 := (h.ev ok ds 0 c).1
    split at this
    · rename_i d off hm
      rw [hm] at h1
      obtain ⟨b, hb, hv, _⟩ := h1
      exact ⟨d, off, b, hm, hb, hv⟩
    · simp at this
  refine wp_value h (x := (.undef, .fn f (captured.toList.map fun c => match (ev C fr 0 c).2 with | .loc d off => (d, off) | _ => (0, 0)))) (v := .func (.func f) #[] (captured.map ({ tmps := ts, defers := ds } : Act).eval)) (by simp [execOp, Instr.makeFunc]) ⟨?_, ?_, .inl rfl, hc.1⟩ (NoBlk.of_owns rfl _ _) hs
  · congr 1
    apply Array.ext'
    simp only [Array.toList_map, List.map_map]
    refine List.map_congr_left fun c hcm => ?_
    obtain ⟨d, off, b, hm, hb, hv⟩ := hcap c hcm
    simp only [Function.comp, hm, capV, hb, hv, Option.getD_some]
  · intro c hcm
    obtain ⟨c', hc', rfl⟩ := List.mem_map.1 hcm
    obtain ⟨d, off, b, hm, hb, hv⟩ := hcap c' hc'
    simp only [hm]
    exact ⟨b, hb⟩
end

end Go.Dam
