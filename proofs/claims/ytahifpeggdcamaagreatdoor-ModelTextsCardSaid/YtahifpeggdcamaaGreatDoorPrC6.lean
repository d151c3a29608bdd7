/- A part of an interpreter of the model's code that is proved sound, and of laws told by it: DamRun2. -/
import Derived.Test.YtahifpeggdcamaaGreatDoorPrC5
set_option linter.unusedVariables false
set_option linter.unusedSimpArgs false
/- Functions by their depth of calls. -/
namespace Go.Dam
open Go.RowKit
set_option linter.unusedVariables false
set_option linter.unusedSimpArgs false

section
variable {C : Tab} {P : Program} {w0 : World} {Gin G : Nat → Prop} {gb : Nat → Nat} {fr : Fr} {ts : Array Value} {w : World} {ds : List Deferred} {r : AV}

theorem flat_ro {X : St} (ok : Tab.Ok X.C P) {t : Nat} (hf : X.C.flat t = true) {m : Md} {v : Value} {a : AV} (h : RepM X m v a) {z : List AV} {s b : Nat} (hi : X.C.info t = some (z, s, b)) (ha : aggOk X.C t a)
    (h1 : aggC X.C t = true → ∀ i, i < s → likeZ (z.getD i .undef) (cellN a i)) (h2 : aggC X.C t = false → likeZ (z.getD 0 .undef) a) : RepM X (.uni .ro) v a := by
  obtain ⟨d, hd, hd', hag, hl, hone⟩ := isAggT_of ok hi
  cases hA : aggC X.C t with
  | true =>
    replace h1 := h1 hA
    clear h2
    obtain ⟨cs, hcs⟩ := ha (by rw [hd', ← hag, hA])
    unfold cellsOf at hcs
    rw [hd', ← hag, hA] at hcs
    simp only [sizeC, hi] at hcs
    split at hcs
    case h_2 => simp at hcs
    rename_i l
    split at hcs
    case isFalse => simp at hcs
    rename_i hll
    obtain ⟨vs, rfl, hvs, hr⟩ := castCellsSc h rfl
    refine .inr ⟨.inl rfl, vs, l, rfl, rfl, hvs, fun j hj => ?_⟩
    obtain ⟨o, hro⟩ := hr j hj
    exact hro.plain (o' := .ro) ((h1 j (by omega)).sc (flat_plain ok hf hi (by omega)))
  | false =>
    replace h2 := h2 hA
    have hs := hone (by rw [← hag, hA])
    obtain ⟨u, rfl⟩ := isSc_eq (h2.sc (flat_plain ok hf hi (by omega)))
    have hv := h.sc
    have h1c := h.sc_one
    subst hv
    exact .inl (Frz.sc v h1c)

theorem fitsOwn_spec {ro : Bool} : ∀ {tys : List Nat} {ms : List Md}, fitsOwn C ro tys ms = true → ms.length = tys.length ∧ ∀ (i t : Nat), tys[i]? = some t → C.flat t = true ∨ ro = true ∨ ∃ z s b, C.info t = some (z, s, b) ∧ ∀ j, j < z.length → ∀ T l, z.getD j .undef = .sl T l → ((ms.getD i (.uni .ro)).at j).owns = true
  | [], [], _ => ⟨rfl, by simp⟩
  | [], m :: ms, h => by simp [fitsOwn] at h
  | t :: tys, [], h => by simp [fitsOwn] at h
  | t :: tys, m :: ms, h => by
    simp only [fitsOwn, Bool.and_eq_true, Bool.or_eq_true] at h
    obtain ⟨h1, h2⟩ := h
    obtain ⟨h3, h4⟩ := fitsOwn_spec h2
    refine ⟨by simp [h3], fun i t' hi => ?_⟩
    cases i with
    | succ i => exact h4 i t' (by simpa using hi)
    | zero =>
      simp only [List.getElem?_cons_zero, Option.some.injEq] at hi
      subst hi
      rcases h1 with (h1 | h1) | h1
      · exact .inl h1
      · exact .inr (.inl h1)
      · split at h1
        · rename_i z s b hinf
          refine .inr (.inr ⟨z, s, b, hinf, fun j hj T l hz => by
          rw [List.all_eq_true] at h1
          have := h1 j (by simp [hj])
          rw [hz] at this
          exact this⟩)
        · simp at h1

theorem resMd_getD {ro : Bool} : ∀ (tys : List Nat) (i t : Nat), tys[i]? = some t → (resMd C ro tys).getD i (.uni .ro) = (resMd C ro [t]).getD 0 (.uni .ro)
  | [], i, t, h => by simp at h
  | t' :: tys, 0, t, h => by
    simp only [List.getElem?_cons_zero, Option.some.injEq] at h
    subst h
    simp [resMd]
  | t' :: tys, i + 1, t, h => by
    have := resMd_getD (ro := ro) tys i t (by simpa using h)
    simpa [resMd] using this
theorem roOwn_rep1 {X : St} {m : Md} {v : Value} {a : AV} (hm : roOwn m) (h : RepM X m v a) : Rep1 X m v a := by
  cases m <;> first | exact h | exact hm.elim
theorem roOwn_home {m : Md} (hm : roOwn m) (a : AV) (v : Value) (j : Nat) : homeS m a v 0 j = own? (m.home1 j) (av1 m a j, val1 m v j) := by
  cases m <;> first | (simp [homeS]; done) | exact hm.elim

/-- What a function hands back. -/
theorem doneK_some (h : Inv C w0 Gin G gb fr ts w) (ok : Tab.Ok C P) {fn : Func} {ro : Bool} (hr : doneK C ro fn fr = some r) :
    ∃ v G1, (results fn ts).run P w = Result.ok v w ∧ (∀ b, G1 b → b < w.heap.size ∧ (b < w0.heap.size → Gin b)) ∧ RetOk C ro G1 w0.heap.size w fn.resultTypes.toList v r := by
  unfold doneK at hr
  obtain ⟨ys, vs, hk, hlen, hrun, hrep⟩ := resultsK_some h ok fn.results.toList _ hr
  obtain ⟨hres, hyl, hty⟩ := castRes_some ok ys fn.resultTypes.toList _ hk
  clear hk hr
  split at hres
  case h_2 => simp at hres
  rename_i ms fr2 hg
  split at hres
  case isFalse => simp at hres
  rename_i hfit
  simp only [Option.some.injEq] at hres
  generalize fn.resultTypes.toList = tys at *
  obtain ⟨hml, hfit⟩ := fitsOwn_spec hfit
  have hget : ∀ i, i < ys.length → ∃ t, tys[i]? = some t ∧ (((ys.zip tys).map fun r => normM C r.2 r.1.2).getD i (.uni .ro)) = normM C t (ys.getD i none1).2 := by
    intro i hi
    have hi' : i < tys.length := by omega
    refine ⟨tys[i], by simp [hi'], ?_⟩
    have : (ys.zip tys)[i]? = some (ys[i], tys[i]) := by
      rw [List.getElem?_eq_getElem (by simp; omega), List.getElem_zip]
    simp [List.getD_eq_getElem?_getD, this, hi]
  have hzl : ((ys.zip tys).map fun r => normM C r.2 r.1.2).length = ys.length := by simp; omega
  have hnorm : ∀ i, i < ys.length → ∀ t, tys[i]? = some t → RepM (stOf C w0.heap.size G gb fr ts w) (normM C t (ys.getD i none1).2) (vs.getD i undef) (ys.getD i none1).1 ∧ NoBlk (normM C t (ys.getD i none1).2) (ys.getD i none1).1 (vs.getD i undef) := by
    intro i hi t ht
    obtain ⟨r1, n1⟩ := hrep i (by omega)
    obtain ⟨hag, z, s, b, hinf, hz, l1, l2⟩ := hty i t ht
    unfold normM
    split
    · rename_i hf
      exact ⟨flat_ro (X := stOf C w0.heap.size G gb fr ts w) ok hf r1 hinf hag l1 l2, NoBlk.of_owns rfl _ _⟩
    · exact ⟨r1, n1⟩
  obtain ⟨G1, i1, l1, hml2, hall, hcross⟩ := givs_spec (!ro) ((ys.zip tys).map fun r => normM C r.2 r.1.2) h (fun i => vs.getD i undef) (fun i => (ys.getD i none1).1)
    (fun i hi => by
      rw [hzl] at hi
      obtain ⟨t, ht, e⟩ := hget i hi
      rw [e]
      exact (hnorm i hi t ht).1.pend)
    (fun i hi => by
      rw [hzl] at hi
      obtain ⟨t, ht, e⟩ := hget i hi
      rw [e]
      exact (hnorm i hi t ht).2) ms fr2 hg
  rw [hzl] at hall hcross
  -- one by one
  have hone : ∀ i, i < ys.length → ∀ t, tys[i]? = some t → RepM (st0 C G1 w0.heap.size w) ((resMd C ro [t]).getD 0 (.uni .ro)) (vs.getD i undef) (ys.getD i none1).1 ∧
      ∀ c j x u, homeS ((resMd C ro [t]).getD 0 (.uni .ro)) (ys.getD i none1).1 (vs.getD i undef) c j = some (x, u) → homeS (ms.getD i (.uni .ro)) (ys.getD i none1).1 (vs.getD i undef) c j = some (x, u) := by
    intro i hi t ht
    obtain ⟨r1, _, hro, hall', _⟩ := hall i hi
    obtain ⟨hag, z, s, b, hinf, hz, l1', l2'⟩ := hty i t ht
    cases hrt : ro with
    | true =>
      have e : (resMd C ro [t]).getD 0 (.uni .ro) = .uni .ro := by simp [resMd, hrt]
      subst hrt
      rw [e]
      refine ⟨?_, fun c j x u hx => by rw [homeS_owns rfl] at hx; simp at hx⟩
      rcases allRo_frz r1 (hall' rfl) with ⟨vs', la, q1, q2, q3, q4⟩ | h
      · exact .inr ⟨.inl rfl, vs', la, q1, q2, q3, q4⟩
      · exact .inl h
    | false =>
    subst hrt
    exact ret_one (X := stOf C w0.heap.size G1 gb fr2 ts w) ok r1 hro hag hinf hz l1' l2' ((hfit i t ht).imp id fun hh => (hh.resolve_left (by simp)).elim fun z' ⟨s', b', hinf', hh⟩ => by
      rw [hinf] at hinf'; cases hinf'
      exact hh)
  have hresro : ∀ t, roOwn ((resMd C ro [t]).getD 0 (.uni .ro)) := fun t => by
    have := resMd_roOwn (C := C) (ro := ro) [t] _ (List.getElem_mem (by simp [length_resMd] : 0 < (resMd C ro [t]).length))
    simpa [length_resMd] using this
  have hsep1 : ∀ i, i < ys.length → ∀ t, tys[i]? = some t → ∀ c j x u k, homeS ((resMd C ro [t]).getD 0 (.uni .ro)) (ys.getD i none1).1 (vs.getD i undef) c j = some (x, u) → u.ownBlock = some k → ¬ G1 k ∧
      ∀ c' j' x' u', homeS ((resMd C ro [t]).getD 0 (.uni .ro)) (ys.getD i none1).1 (vs.getD i undef) c' j' = some (x', u') → u'.ownBlock = some k → c = c' ∧ j = j' := by
    intro i hi t ht c j x u k hx hk'
    obtain ⟨_, hfr, _⟩ := hall i hi
    obtain ⟨f1, _, _, f4⟩ := hfr c j x u k ((hone i hi t ht).2 c j x u hx) hk'
    exact ⟨f1, fun c' j' x' u' hx' hk2 => f4 c' j' x' u' ((hone i hi t ht).2 c' j' x' u' hx') hk2⟩
  refine ⟨_, G1, run_results hrun, fun b hb => ⟨i1.gs b hb, i1.gin b hb⟩, ?_⟩
  by_cases h1 : tys.length = 1
  · obtain ⟨t, rfl⟩ : ∃ t, tys = [t] := List.length_eq_one_iff.1 h1
    have hy1 : ys.length = 1 := by simpa using hyl
    obtain ⟨y, rfl⟩ := List.length_eq_one_iff.1 hy1
    obtain ⟨v, rfl⟩ := List.length_eq_one_iff.1 (hlen.symm.trans hy1)
    simp only [List.map_cons, List.map_nil] at hres
    subst hres
    obtain ⟨q1, q2⟩ := hone 0 (by simp) t rfl
    refine ⟨q1, fun c j x u k hx hk' => hsep1 0 (by simp) t rfl c j x u k hx hk', fun j t' ht' => ?_⟩
    have hj : j = 0 := by
      have := (List.getElem?_eq_some_iff.1 ht').1
      simpa using this
    subst hj
    exact (hty 0 t' ht').1
  · have hretMd : retMd C ro tys = .tup (resMd C ro tys) := by
      unfold retMd
      split
      · simp at h1
      · rfl
    have hv : tupV vs = .tuple vs.toArray := by
      unfold tupV
      split
      · exfalso; apply h1; rw [← hyl, hlen]; rfl
      · rfl
    have ha : r = .tup (ys.map (·.1)) := by
      rw [← hres]
      split
      · rename_i a e
        exfalso; apply h1
        have : (ys.map (·.1)).length = 1 := by rw [e]; rfl
        rw [← hyl]; simpa using this
      · rfl
    rw [hv, ha]
    have hcomp : ∀ c, c < ys.length → compN (.tup (ys.map (·.1))) c = (ys.getD c none1).1 := fun c hc => by
      simp [compN, List.getD_eq_getElem?_getD, hc]
    have hvs : ∀ c, vs.toArray.getD c undef = vs.getD c undef := fun c => by simp [List.getD_eq_getElem?_getD]
    have hlt : ∀ c, c < (resMd C ro tys).length → c < ys.length ∧ ∃ t, tys[c]? = some t := fun c hc => by
      rw [length_resMd] at hc
      exact ⟨by omega, tys[c], by simp [hc]⟩
    have hhome : ∀ c j x u, homeS (.tup (resMd C ro tys)) (.tup (ys.map (·.1))) (.tuple vs.toArray) c j = some (x, u) → c < ys.length ∧ ∃ t, tys[c]? = some t ∧ homeS ((resMd C ro [t]).getD 0 (.uni .ro)) (ys.getD c none1).1 (vs.getD c undef) 0 j = some (x, u) := by
      intro c j x u hx
      simp only [homeS] at hx
      have hc : c < (resMd C ro tys).length := by
        rcases Nat.lt_or_ge c (resMd C ro tys).length with h' | h'
        · exact h'
        · rw [getD_over _ _ h'] at hx; simp [Md.home1, own?] at hx
      obtain ⟨hc', t, ht⟩ := hlt c hc
      refine ⟨hc', t, ht, ?_⟩
      rw [resMd_getD tys c t ht, hcomp c hc'] at hx
      have e : compV (.tuple vs.toArray) c = vs.getD c undef := hvs c
      rw [e] at hx
      rw [roOwn_home (hresro t)]
      exact hx
    refine ⟨?_, fun c j x u k hx hk' => ?_, fun j t ht => ?_⟩
    · rw [hretMd]
      refine ⟨vs.toArray, _, rfl, rfl, by simp [length_resMd]; omega, fun c hc => ?_⟩
      obtain ⟨hc', t, ht⟩ := hlt c hc
      rw [resMd_getD tys c t ht, hcomp c hc', hvs]
      exact roOwn_rep1 (hresro t) (hone c hc' t ht).1
    · rw [hretMd] at hx ⊢
      obtain ⟨hc, t, ht, hx1⟩ := hhome c j x u hx
      obtain ⟨s1, s2⟩ := hsep1 c hc t ht 0 j x u k hx1 hk'
      refine ⟨s1, fun c' j' x' u' hx' hk2 => ?_⟩
      obtain ⟨hc', t', ht', hx1'⟩ := hhome c' j' x' u' hx'
      by_cases e : c = c'
      · subst e
        rw [ht] at ht'; cases ht'
        exact ⟨rfl, (s2 0 j' x' u' hx1' hk2).2⟩
      · exact (hcross c c' hc hc' e 0 j x u k 0 j' x' u' ((hone c hc t ht).2 _ _ _ _ hx1) hk' ((hone c' hc' t' ht').2 _ _ _ _ hx1') hk2).elim
    · rw [if_neg h1]
      have hj : j < ys.length := by have := (List.getElem?_eq_some_iff.1 ht).1; omega
      rw [hcomp j hj]
      exact (hty j t ht).1
end

/-- What a call of f with these arguments does. -/
def Contract (C : Tab) (P : Program) (f : Nat) (args : List AV) (r : AV) : Prop :=
  ∀ (vals : Array Value) (w : World) (Gin : Nat → Prop), (∀ b, Gin b → b < w.heap.size) → ArgsOk C Gin w (C.share f) vals.toList args →
    CallsTo P f vals w fun v w' => ∃ G', Below w.heap.size w w' ∧ (∀ b, G' b → b < w'.heap.size ∧ (b < w.heap.size → Gin b)) ∧ RetOk C (C.roF f) G' w.heap.size w' (C.res f) v r
structure Tab.Ok2 (C : Tab) (P : Program) : Prop where
  mixed : P.follows .mixedOrders = true
  res : ∀ f fn, C.fn f = some fn → C.ext f = none → C.res f = fn.resultTypes.toList
  plans : ∀ f fn, C.fn f = some fn → C.ext f = none → plansOk (C.plan f) (bodyOf fn) = true
  copies : ∀ f fn, C.fn f = some fn → C.ext f = none → copiesOk P (C.copy f) (bodyOf fn)
  ext : ∀ f g, C.ext f = some g → ∀ args r, g args = some r → Contract C P f args r

section
variable {C : Tab} {P : Program}
theorem run_calls (ok : Tab.Ok C P) (ok2 : Tab.Ok2 C P) (eqok : EqOk C P) {k : Nat} (ih : CallOk C P (run C k)) {f : Nat} {args : List AV} {r : AV} (hext : C.ext f = none) (h : run C (k + 1) f args = some r)
    (vals : Array Value) (w : World) (Gin : Nat → Prop) (hGin : ∀ b, Gin b → b < w.heap.size) (hargs : ArgsOk C Gin w (C.share f) vals.toList args) :
    (∃ fn, P.funcs[f]? = some fn ∧ fn.body.isSome = true ∧ (fn.name == "runtime.NumGoroutine") = false) ∧
    Calls P f vals w fun | .returned v, w' => (∃ G', Below w.heap.size w w' ∧ (∀ b, G' b → b < w'.heap.size ∧ (b < w.heap.size → Gin b)) ∧ RetOk C (C.roF f) G' w.heap.size w' (C.res f) v r) | _, _ => False := by
      simp only [run, hext] at h
      split at h
      · simp at h
      rename_i fn hfn
      obtain ⟨hf, hb, hn⟩ := ok.fn f fn hfn hext
      refine ⟨⟨fn, hf, hb, hn⟩, ?_⟩
      obtain ⟨c, hc⟩ : ∃ c, fn.body = some c := by
        cases hx : fn.body with
        | none => rw [hx] at hb; simp at hb
        | some c => exact ⟨c, rfl⟩
      have hbody : bodyOf fn = c := by simp [bodyOf, hc]
      obtain ⟨l, hex, hll, hl⟩ := entryK_some (X := ⟨C, w.heap.size, Gin, w, fun _ => none, fun _ => none⟩) ok rfl (fun b hb => .inr hb) (C.share f) fn.params.toList args vals.toList _ h hargs.1 hargs.2
      have hvl : vals.size = l.length := by have := hargs.1; simp at this; omega
      refine calls_of_wp hf hc ?_
      -- the frame at the start
      have hgetS : ∀ n, ({ slots := l ++ List.replicate (fn.ntmps - l.length) none1, boxes := [] } : Fr).getS n = l.getD n none1 := fun n => by
        show (l ++ List.replicate (fn.ntmps - l.length) none1).getD n none1 = l.getD n none1
        simp only [List.getD_eq_getElem?_getD]
        rcases Nat.lt_or_ge n l.length with hn | hn
        · rw [List.getElem?_append_left hn]
        · rw [List.getElem?_append_right hn, List.getElem?_eq_none hn, List.getElem?_replicate]
          split <;> rfl
      have hhomes : ∀ (tss : Array Value) (bv : Nat → Nat → Value), ({ slots := l ++ List.replicate (fn.ntmps - l.length) none1, boxes := [] } : Fr).homes tss bv = fun _ => none := by
        intro tss bv
        funext p
        obtain ⟨b, n, q, j⟩ := p
        cases b with
        | true => simp [Fr.homes, Fr.box?, assoc, homeB]
        | false =>
          simp only [Fr.homes, hgetS]
          rcases Nat.lt_or_ge n l.length with hn | hn
          · exact homeS_owns (hl n (by omega)).2 _ _ _ _
          · rw [getD_over _ _ hn, homeS_none1]
      have hinv : Inv C w Gin Gin (fun _ => 0) { slots := l ++ List.replicate (fn.ntmps - l.length) none1, boxes := [] } (vals ++ Array.replicate (fn.ntmps - vals.size) undef) w := by
        refine ⟨Below.refl _ _, hGin, fun b hb _ => hb, by simp [hvl], fun n hn => ?_, fun d cs hd => by simp [Fr.box?, assoc] at hd, fun d d' cs cs' hd => by simp [Fr.box?, assoc] at hd, fun p a v q hp => by rw [hhomes] at hp; simp at hp, fun p q a v a' v' q' hp => by rw [hhomes] at hp; simp at hp⟩
        rw [hgetS]
        rcases Nat.lt_or_ge n l.length with hn' | hn'
        · obtain ⟨r1, o1⟩ := hl n (by omega)
          have e : (vals ++ Array.replicate (fn.ntmps - vals.size) undef).getD n undef = vals.toList.getD n undef := by
            have : n < vals.size := by omega
            simp [List.getD_eq_getElem?_getD, Array.getElem?_append, this]
          rw [e]
          refine r1.mono ⟨rfl, rfl, fun _ h => h, fun _ _ => rfl, fun q _ a v hq => by simp at hq⟩ (fun d b hb => by simp at hb) (Md.hit_true _) fun _ _ _ _ _ _ _ => rfl
        · rw [getD_over _ _ hn']; exact RepM.none1 _ _
      have := exec_spec (ds := []) ok2.mixed ok eqok ih f k c (by rw [← hbody]; exact ok2.plans f fn hfn hext) (by rw [← hbody]; exact ok2.copies f fn hfn hext) hinv (by rw [hbody] at hex; exact hex)
      refine wp_mono this fun e a' w' hq => ?_
      have fin : After C w Gin [] (doneK C (C.roF f) fn) r a' w' → a'.defers = [] ∧ ∃ v, (results fn a'.tmps).run P w' = Result.ok v w' ∧ ∃ G', Below w.heap.size w w' ∧ (∀ b, G' b → b < w'.heap.size ∧ (b < w.heap.size → Gin b)) ∧ RetOk C (C.roF f) G' w.heap.size w' (C.res f) v r := by
        rintro ⟨G', gb', fr', ts', rfl, i', hk⟩
        obtain ⟨v, G1, h1, h2, h3⟩ := doneK_some i' ok hk
        exact ⟨rfl, v, h1, G1, i'.below, h2, by rw [ok2.res f fn hfn hext]; exact h3⟩
      cases e with
      | normal => exact fin hq
      | ret => exact fin hq
      | exit i =>
        obtain ⟨_, _, _, _, _, _, hk⟩ := hq
        simp at hk
      | _ => exact hq.elim

/-- WHAT THE INTERPRETER TELLS HOLDS OF THE MACHINE. -/
theorem run_ok (ok : Tab.Ok C P) (ok2 : Tab.Ok2 C P) (eqok : EqOk C P) : ∀ k, CallOk C P (run C k)
  | 0 => fun f args r h => by simp [run] at h
  | k + 1 => fun f args r h => by
    have ih := run_ok ok ok2 eqok k
    cases hext : C.ext f with
    | some g =>
      simp only [run, hext] at h
      exact ok2.ext f g hext args r h
    | none =>
      intro vals w Gin hGin hargs
      obtain ⟨⟨fn, hf, hb, hn⟩, hc⟩ := run_calls ok ok2 eqok ih hext h vals w Gin hGin hargs
      exact CallsTo.of_calls hf hb hn hc
end

end Go.Dam
