/- A part of an interpreter of the model's code that is proved sound, and of laws told by it: DamReg4, DamReg5. -/
import Derived.Test.YtdehjednpdbhaaaDoorPvC3
set_option linter.unusedVariables false
set_option linter.unusedSimpArgs false
/- Regions whose order is drawn: every order. -/
namespace Go.Dam
open Go.RowKit
set_option linter.unusedVariables false
set_option linter.unusedSimpArgs false

section
variable {C : Tab} {P : Program} {w0 : World} {Gin G : Nat → Prop} {gb : Nat → Nat} {fr : Fr} {ts : Array Value} {w : World} {ds : List Deferred} {r : AV} {Q : Exit → Act → World → Prop}
variable {ops : Array Oper} {call : Nat → List AV → Option AV} {Kn : Fr → Option AV}
variable {rest : List (Nat × PK)} {done pres pd : List Nat} {pb : Nat → Nat} {listed : Array Bool}

/-- A block that came up before its turn has it now. -/
theorem RS.adopt {i : Nat} (h : RS C P w0 Gin ds r ops call Kn ((i, .late) :: rest) done pres pd pb listed G gb fr ts w) (ok : Tab.Ok C P) (hpd : i ∈ pd) :
    ∃ G' gb' fr' pd', RS C P w0 Gin ds r ops call Kn rest (i :: done) pres pd' pb listed G' gb' fr' ts w ∧ (∀ j, j ∈ pd' ↔ j ∈ pd ∧ j ≠ i) ∧
      Rg C (fr.homes ts (bvOf w gb), Zs ops ts pd pb) w (fr'.homes ts (bvOf w gb'), Zs ops ts pd' pb) w := by
  obtain ⟨o, ho, hb, hnd, ha, hip, hblk, hplan⟩ := planGo_cons h.plan
  have hil : hasLate i ((i, PK.late) :: rest) = true := by simp [hasLate]
  obtain ⟨o', d, h1, _, hd, hn, _, hap, hself, hdl, hrunA⟩ := h.pre i hip hil
  rw [ho] at h1; cases h1
  have hrun := h.run
  simp only [runPlan, ho] at hrun
  obtain ⟨b, hw, hrun⟩ := wantedK_some h.inv hrun
  have hne : ∀ j, hasLate j rest = true → j ≠ i := fun j hl e => by
    subst e
    exact planGo_fresh hplan (.inr hl) (List.mem_cons_self ..)
  have hoth : ∀ j oj, j ∈ pres → hasLate j rest = true → ops[j]? = some oj → ∀ d', oj.dst = some d' → o.dst ≠ some d' := fun j oj hj hl hoj =>
    (h.apart hj (hasLate_cons hl) hoj (.inr hil) (Ne.symm (hne j hl)) ho hb).1
  have hpd' : ∀ j, j ∈ pd.filter (fun x => !(x == i)) ↔ j ∈ pd ∧ j ≠ i := fun j => by simp
  have hpdl : ∀ j, j ∈ pd → j ≠ i → j ∈ pres ∧ hasLate j rest = true := fun j hj hne' => by
    obtain ⟨q1, q2⟩ := h.pdl j hj
    exact ⟨q1, hasLate_tail hne' q2⟩
  -- the rest of the state
  have fin : ∀ {G' : Nat → Prop} {gb' : Nat → Nat} {fr' : Fr}, Inv C w0 Gin G' gb' fr' ts w → runPlan C call ops rest fr' Kn = some r → (∀ k, Foot G' gb' fr' ts w k → Foot G gb fr ts w k ∨ (Region.wanted o (yielded ops ts) = true ∧ k = pb i)) →
      (∀ d', o.dst ≠ some d' → fr.getS d' = none1 → fr'.getS d' = none1) →
      (∀ p' T l' v' k, fr'.homes ts (bvOf w gb') p' = some (.sl T l', v') → v'.ownBlock = some k → ¬ (Region.wanted o (yielded ops ts) = true ∧ k = pb i) → ∃ p l v, fr.homes ts (bvOf w gb) p = some (.sl T l, v) ∧ v.ownBlock = some k ∧ l.length ≤ l'.length) →
      ∃ G' gb' fr' pd', RS C P w0 Gin ds r ops call Kn rest (i :: done) pres pd' pb listed G' gb' fr' ts w ∧ (∀ j, j ∈ pd' ↔ j ∈ pd ∧ j ≠ i) ∧ Rg C (fr.homes ts (bvOf w gb), Zs ops ts pd pb) w (fr'.homes ts (bvOf w gb'), Zs ops ts pd' pb) w := by
    intro G' gb' fr' hi hr hfoot hdead hhome
    refine ⟨G', gb', fr', pd.filter (fun x => !(x == i)), ⟨hi, hr, hplan, h.size, fun j hj => ?_, fun j hj => ?_, fun j hj => ?_, fun j hj hl => ?_, fun j oj hj hoj hw' => ?_, fun j j' oj oj' hj hj' hoj hoj' hw1 hw2 hp => ?_, fun j hj => (List.mem_cons.1 hj).elim (fun e => e ▸ (Array.getElem?_eq_some_iff.1 ho).1) (h.dlt j)⟩, hpd', ?_⟩
    · rw [h.list j hj, List.mem_cons, hpd']
      constructor
      · rintro (h | h)
        · exact .inl (.inr h)
        · by_cases e : j = i
          · exact .inl (.inl e)
          · exact .inr ⟨h, e⟩
      · rintro ((h | h) | h)
        · exact .inr (h ▸ hpd)
        · exact .inl h
        · exact .inr h.1
    · by_cases e : j = i
      · subst e; exact .inl (List.mem_cons_self ..)
      · rcases h.cover j hj with h | h
        · exact .inl (List.mem_cons_of_mem _ h)
        · exact .inr (turn_cons e h)
    · obtain ⟨q1, q2⟩ := (hpd' j).1 hj
      exact hpdl j q1 q2
    · obtain ⟨oj, dj, q1, q2, q3, q4, q5, q6, q7, q8, q9⟩ := h.pre j hj (hasLate_cons hl)
      exact ⟨oj, dj, q1, q2, q3, hdead dj (hoth j oj hj hl q1 dj q3) q4, fun e he => List.mem_cons_of_mem _ (q5 e he), apartAll_tail q6, q7, q8, q9⟩
    · obtain ⟨q1, q2⟩ := (hpd' j).1 hj
      obtain ⟨obj, dj, r1, r2, r3, r4, r5, r6⟩ := h.pend j oj q1 hoj hw'
      refine ⟨obj, dj, r1, r2, r3, r4, fun hf => ?_, r6⟩
      rcases hfoot _ hf with hf | ⟨hwi, hf⟩
      · exact r5 hf
      · exact q2 (h.dist j i oj o q1 hpd hoj ho hw' hwi hf)
    · exact h.dist j j' oj oj' ((hpd' j).1 hj).1 ((hpd' j').1 hj').1 hoj hoj' hw1 hw2 hp
    · refine ⟨h.inv.sep, Nat.le_refl _, LiveEq.refl _ _ _ _, fun p' T l' v' k hp hk _ hz => hhome p' T l' v' k hp hk fun ⟨hwi, e⟩ => hz ⟨i, o, hpd, ho, hwi, e.symm⟩, fun k _ ⟨j, oj, hj, hoj, hw', hp⟩ => ⟨j, oj, ((hpd' j).1 hj).1, hoj, hw', hp⟩⟩
  cases b with
  | true =>
    simp only at hrun
    split at hrun
    case isFalse => simp at hrun
    obtain ⟨obj, d', hd', hrA, hb1, hge, hfree, hts⟩ := h.pend i o hpd ho hw
    obtain ⟨G', gb', fr', i', hr, f1, f2, f3⟩ := Dam.adopt h.inv ok ha hd' hrun hrA hb1 hge hfree hts
    exact fin i' hr (fun k hk => (f1 k hk).imp id fun e => ⟨hw, e⟩) f3 fun p' T l' v' k hp hk hne' => f2 p' T l' v' k hp hk fun e => hne' ⟨hw, e⟩
  | false =>
    simp only at hrun
    rw [hd, put_dead hn] at hrun
    exact fin h.inv hrun (fun k hk => .inl hk) (fun _ _ h => h) fun p' T l' v' k hp hk _ => ⟨p', l', v', hp, hk, Nat.le_refl _⟩

/-- Turns that are not had. -/
def left (pd : List Nat) : List (Nat × PK) → Nat
  | [] => 0
  | (i, k) :: rest => (if k.isPre || memN i pd then 0 else 1) + left pd rest
theorem left_mono {pd pd' : List Nat} (h : ∀ i, i ∈ pd → i ∈ pd') : ∀ rest, left pd' rest ≤ left pd rest
  | [] => Nat.le_refl _
  | (i, k) :: rest => by
    have := left_mono h rest
    unfold left
    by_cases hk : (k.isPre || memN i pd) = true
    · have : (k.isPre || memN i pd') = true := by
        simp only [Bool.or_eq_true, memN_iff] at hk ⊢
        exact hk.imp id (h i)
      rw [if_pos hk, if_pos this]; omega
    · rw [if_neg hk]
      split <;> omega
theorem left_late {j : Nat} (hj : j ∉ pd) : ∀ {rest}, hasLate j rest = true → left (j :: pd) rest + 1 ≤ left pd rest
  | [], h => by simp [hasLate] at h
  | (i, k) :: rest, h => by
    have hm := left_mono (pd := pd) (pd' := j :: pd) (fun i hi => List.mem_cons_of_mem _ hi) rest
    by_cases hh : k = .late ∧ i = j
    · obtain ⟨rfl, rfl⟩ := hh
      unfold left
      have h1 : memN i (i :: pd) = true := memN_iff.2 (List.mem_cons_self ..)
      have h2 : memN i pd = false := by
        cases hx : memN i pd with
        | false => rfl
        | true => exact absurd (memN_iff.1 hx) hj
      simp [PK.isPre, h1, h2]; omega
    · have ht : hasLate j rest = true := by
        simp only [hasLate, Bool.or_eq_true] at h
        rcases h with h | h
        · cases k with
          | late => simp only [beq_iff_eq] at h; exact absurd ⟨rfl, h⟩ hh
          | _ => simp at h
        · exact h
      have := left_late hj ht
      unfold left
      by_cases hk : (k.isPre || memN i pd) = true
      · have h3 : (k.isPre || memN i (j :: pd)) = true := by
          simp only [Bool.or_eq_true, memN_iff] at hk ⊢
          exact hk.imp id (List.mem_cons_of_mem _)
        rw [if_pos hk, if_pos h3]; omega
      · rw [if_neg hk]
        split <;> omega

def DS (ops : Array Oper) (j : Nat) : Prop := ∃ o, ops[j]? = some o ∧ isStore o.op = true

theorem RS.ready_head {i : Nat} {k : PK} (h : RS C P w0 Gin ds r ops call Kn ((i, k) :: rest) done pres pd pb listed G gb fr ts w) (hpd : i ∉ pd) : i ∈ Region.ready .any ops listed := by
  obtain ⟨o, ho, hb, hnd, _⟩ := planGo_cons h.plan
  have hin : i < ops.size := (Array.getElem?_eq_some_iff.1 ho).1
  refine mem_ready.2 ⟨?_, o, ho, fun e he hbd => ?_⟩
  · cases hx : listed.getD i true with
    | false => rfl
    | true => rcases (h.list i hin).1 hx with h | h
              · exact absurd h hnd
              · exact absurd h hpd
  · have hd : e.on ∈ done := hb _ (bnd_iff.2 ⟨e, he, hbd, rfl⟩)
    have hlt := h.dlt _ hd
    have h1 := (h.list e.on hlt).2 (.inl hd)
    have hl : e.on < listed.size := by rw [h.size]; exact hlt
    simpa [hl] using h1

/-- What has come up has what it waits for behind it. -/
theorem RS.listed_lt (h : RS C P w0 Gin ds r ops call Kn rest done pres pd pb listed G gb fr ts w) {e : Nat} (he : listed.getD e false = true) : e ∈ done ∨ e ∈ pd := by
  rcases Nat.lt_or_ge e listed.size with hlt | hge
  · have : listed.getD e true = true := by simp [hlt] at he ⊢; exact he
    exact (h.list e (h.size ▸ hlt)).1 this
  · simp [Array.getElem?_eq_none hge] at he

/-- Beside the head of a plan that is no quiet operation only blocks may come up whose time has begun. -/
theorem RS.others {i : Nat} {k : PK} (h : RS C P w0 Gin ds r ops call Kn ((i, k) :: rest) done pres pd pb listed G gb fr ts w) (hk : k.isPre = false) (hpd : i ∉ pd) (hblk : blocked ops i rest rest = true)
    {done' : List Nat} (hplan : planGo ops done' pres rest = true) {j : Nat} (hj : j ∈ Region.ready .any ops listed) (hne : j ≠ i) : j ∈ pres ∧ hasLate j rest = true ∧ j ∉ pd ∧ ∃ o, ops[j]? = some o := by
  obtain ⟨hun, oj, hoj, hall⟩ := mem_ready.1 hj
  obtain ⟨o, ho, hb, hnd, _⟩ := planGo_cons h.plan
  have hjn : j < ops.size := (Array.getElem?_eq_some_iff.1 hoj).1
  have hjd : j ∉ done ∧ j ∉ pd := by
    have := h.list j hjn
    rw [hun] at this
    simp only [Bool.false_eq_true, false_iff, not_or] at this
    exact this
  have ht : turn j rest := turn_cons hne ((h.cover j hjn).resolve_left hjd.1)
  have hjp : j ∈ pres := by
    refine blocked_spec (L := fun e => e ∈ done ∨ e ∈ pd) (i := i) (all := rest) ?_ ?_ ?_ hplan hblk ht
    · rintro (h' | h')
      · exact hnd h'
      · exact hpd h'
    · rintro e he (h' | h')
      · exact planGo_fresh h.plan (.inl (by simp only [hasNorm, he, Bool.or_true])) h'
      · exact planGo_norm h.plan (by simp only [hasNorm, he, Bool.or_true]) (h.pdl e h').1
    · intro o' ho' e he
      rw [hoj] at ho'; cases ho'
      obtain ⟨x, hx, hbd, rfl⟩ := bnd_iff.1 he
      exact h.listed_lt (hall x hx hbd)
  refine ⟨hjp, ?_, hjd.2, oj, hoj⟩
  rcases ht with ht | ht
  · exact absurd hjp (planGo_norm hplan ht)
  · exact ht

theorem Rg.of_rel (h : Inv C w0 Gin G gb fr ts w) {G' : Nat → Prop} {gb' : Nat → Nat} {fr' : Fr} {ts' : Array Value} {w' : World} (hrel : StepRel C G gb fr ts w G' gb' fr' ts' w' true) {Z Z' : Nat → Prop} (hz : ∀ b, b < w.heap.size → Z' b → Z b) :
    Rg C (fr.homes ts (bvOf w gb), Z) w (fr'.homes ts' (bvOf w' gb'), Z') w' :=
  ⟨h.sep, hrel.size, fun b hb _ => hrel.keep rfl b hb, fun p' T l' v' k hp hk hlt _ => hrel.home p' T l' v' k hp hk hlt, hz⟩

theorem wpOp_of {i : Nat} {o : Oper} (ho : ops[i]? = some o) {a : Act} {w : World} {K : Act → World → Prop} (h1 : Region.wanted o (yielded ops a.tmps) = true → o.wp P a w K Q) (h2 : Region.wanted o (yielded ops a.tmps) = false → K (a.put o.dst undef) w) : wpOp P ops Q i K a w := by
  unfold wpOp
  simp only [ho]
  split
  · rename_i hw; exact .inl (h1 hw)
  · rename_i hw; exact h2 (by simpa using hw)

theorem Zs_put {x : Option Nat} {v : Value} (h : ∀ i o, i ∈ pd → ops[i]? = some o → Region.wanted o (yielded ops (({ tmps := ts, defers := ds } : Act).put x v).tmps) = Region.wanted o (yielded ops ts)) {b : Nat}
    (hz : Zs ops (({ tmps := ts, defers := ds } : Act).put x v).tmps pd pb b) : Zs ops ts pd pb b := by
  obtain ⟨i, o, h1, h2, h3, h4⟩ := hz
  exact ⟨i, o, h1, h2, by rw [← h i o h1 h2]; exact h3, h4⟩

/-- The head of a plan: its pending neighbours' guards are not touched. -/
theorem RS.guards {i : Nat} {k : PK} (h : RS C P w0 Gin ds r ops call Kn ((i, k) :: rest) done pres pd pb listed G gb fr ts w) (hk : k.isPre = false) (hpd : i ∉ pd) {o : Oper} (ho : ops[i]? = some o) (v : Value) :
    ∀ j oj, j ∈ pd → ops[j]? = some oj → Region.wanted oj (yielded ops (({ tmps := ts, defers := ds } : Act).put o.dst v).tmps) = Region.wanted oj (yielded ops ts) := by
  intro j oj hj hoj
  obtain ⟨o', ho', hb, hnd, _⟩ := planGo_cons h.plan
  rw [ho] at ho'; cases ho'
  obtain ⟨q1, q2⟩ := h.pdl j hj
  obtain ⟨o1, d, h1, ha, _⟩ := h.pre j q1 q2
  rw [hoj] at h1; cases h1
  have hne : i ≠ j := fun e => hpd (e ▸ hj)
  have hx := h.apart q1 q2 hoj (turn_head hk) hne ho hb
  exact (looks_put (ts := ts) (ds := ds) hx.2 (alloc_noSelect ha) v).2

/-- The head's turn, wanted or not, as one step of the machine. -/
theorem RS.turnHead {i : Nat} {k : PK} (h : RS C P w0 Gin ds r ops call Kn ((i, k) :: rest) done pres pd pb listed G gb fr ts w) (ok : Tab.Ok C P) (eqok : EqOk C P) (hc : CallOk C P w0 call) (hk : k.isPre = false) (hpd : i ∉ pd)
    {fuel : Nat} (ih : ∀ {done pres pd : List Nat} {pb : Nat → Nat} {listed : Array Bool} {G : Nat → Prop} {gb : Nat → Nat} {fr : Fr} {ts : Array Value} {w : World}, RS C P w0 Gin ds r ops call Kn rest done pres pd pb listed G gb fr ts w → left pd rest ≤ fuel →
      wpAnyG P .any ops Q (Rg C) (DS ops) fuel listed (fr.homes ts (bvOf w gb), Zs ops ts pd pb) { tmps := ts, defers := ds } w) (hleft : left pd rest ≤ fuel) :
    wpOp P ops Q i (fun a' w' => ∃ γ', Rg C γ' w' γ' w' ∧ (DS ops i ∨ Rg C (fr.homes ts (bvOf w gb), Zs ops ts pd pb) w γ' w') ∧ wpAnyG P .any ops Q (Rg C) (DS ops) fuel (listed.setIfInBounds i true) γ' a' w') { tmps := ts, defers := ds } w := by
  obtain ⟨o, ho, hb, hnd, _⟩ := planGo_cons h.plan
  have hrun := h.run
  have hrun : wantedK ops fr o (fun fr b => match b with
          | true => if loadOk C fr o then step C call o fr (fun fr1 => runPlan C call ops rest fr1 Kn) else none
          | false => runPlan C call ops rest (fr.put o.dst none1) Kn) = some r := by
    simp only [runPlan, ho] at hrun
    cases k with
    | pre => simp [PK.isPre] at hk
    | norm => exact hrun
    | late => exact hrun
  obtain ⟨b, hw, hrun⟩ := wantedK_some h.inv hrun
  refine wpOp_of ho (fun hw' => ?_) fun hw' => ?_
  · rw [hw'] at hw; subst hw
    simp only at hrun
    split at hrun
    case isFalse => simp at hrun
    obtain ⟨h1, _⟩ := step_ok (Q := Q) (ds := ds) h.inv ok eqok hc h.far hrun
    refine Oper.wp_mono (fun a' w' ha => ?_) h1
    obtain ⟨G', gb', fr', ts', rfl, i', hk', hrel, hdead, v, rfl⟩ := ha
    have hn := h.next hk hpd ho i' hk' hrel hdead
    refine ⟨(fr'.homes _ (bvOf w' gb'), Zs ops _ pd pb), Rg.refl i'.sep, ?_, ih hn hleft⟩
    cases hs : isStore o.op with
    | true => exact .inl ⟨o, ho, hs⟩
    | false =>
      have : softOp o.op = true := by
        revert hs
        cases o.op <;> simp [softOp, isStore]
      rw [this] at hrel
      exact .inr (Rg.of_rel h.inv hrel fun b _ hz => Zs_put (h.guards hk hpd ho v) hz)
  · rw [hw'] at hw; subst hw
    have i' := h.inv.put o.dst (x := none1) (v := undef) (RepM.none1 _ _) (Fresh.of_owns rfl _ _) ds
    have hrel : StepRel C G gb fr ts w G gb (fr.put o.dst none1) (({ tmps := ts, defers := ds } : Act).put o.dst undef).tmps w true := (StepRel.refl true).put h.inv.size ds o.dst fun c j T l u k hx => by
      rw [homeS_none1] at hx; simp at hx
    have hn := h.next hk hpd ho i' hrun hrel fun d hd hn => getS_put_dead hd hn
    rw [put_eta ts ds o.dst undef]
    exact ⟨((fr.put o.dst none1).homes _ (bvOf w gb), Zs ops _ pd pb), Rg.refl i'.sep, .inr (Rg.of_rel h.inv hrel fun b _ hz => Zs_put (h.guards hk hpd ho undef) hz), ih hn hleft⟩
end

end Go.Dam

/- Regions whose order is drawn: whatever the order, what the plan tells. -/
namespace Go.Dam
open Go.RowKit
set_option linter.unusedVariables false
set_option linter.unusedSimpArgs false

section
variable {C : Tab} {P : Program} {w0 : World} {Gin : Nat → Prop} {ds : List Deferred} {r : AV} {Q : Exit → Act → World → Prop}
variable {ops : Array Oper} {call : Nat → List AV → Option AV} {Kn : Fr → Option AV}

theorem left_congr {pd pd' : List Nat} : ∀ {rest : List (Nat × PK)}, (∀ j, turn j rest → (j ∈ pd ↔ j ∈ pd')) → left pd rest = left pd' rest
  | [], _ => rfl
  | (i, k) :: rest, h => by
    have h1 := left_congr (pd := pd) (pd' := pd') (rest := rest) fun j hj => h j (by
      rcases hj with hj | hj
      · exact .inl (by simp only [hasNorm, hj, Bool.or_true])
      · exact .inr (by simp only [hasLate, hj, Bool.or_true]))
    have h2 : (k.isPre || memN i pd) = (k.isPre || memN i pd') := by
      cases hk : k.isPre with
      | true => rfl
      | false =>
        have := h i (turn_head hk)
        simp only [Bool.false_or]
        rw [Bool.eq_iff_iff, memN_iff, memN_iff]
        exact this
    unfold left
    rw [h1, h2]

theorem plan_any (hpost : ∀ a w, After C w0 Gin ds Kn r a w → Q .normal a w) (hpan : ∀ c a w, ¬ Q (.panic c) a w) (ok : Tab.Ok C P) (eqok : EqOk C P) (hc : CallOk C P w0 call) (hsel : Region.noSelect ops = true) :
    ∀ (fuel : Nat) (rest : List (Nat × PK)) {done pres pd : List Nat} {pb : Nat → Nat} {listed : Array Bool} {G : Nat → Prop} {gb : Nat → Nat} {fr : Fr} {ts : Array Value} {w : World},
      RS C P w0 Gin ds r ops call Kn rest done pres pd pb listed G gb fr ts w → left pd rest ≤ fuel →
      wpAnyG P .any ops Q (Rg C) (DS ops) fuel listed (fr.homes ts (bvOf w gb), Zs ops ts pd pb) { tmps := ts, defers := ds } w := by
  intro fuel
  induction fuel with
  | zero =>
    intro rest
    induction rest with
    | nil =>
      intro done pres pd pb listed G gb fr ts w h _
      refine wpAnyG_done ?_ (hpost _ _ ⟨G, gb, fr, ts, rfl, h.inv, h.run⟩) _
      refine List.eq_nil_iff_forall_not_mem.2 fun j hj => ?_
      obtain ⟨hun, oj, hoj, _⟩ := mem_ready.1 hj
      have hjn : j < ops.size := (Array.getElem?_eq_some_iff.1 hoj).1
      have := (h.list j hjn).2 (.inl ((h.cover j hjn).resolve_right (by rintro (h | h) <;> simp [hasNorm, hasLate] at h)))
      rw [hun] at this; simp at this
    | cons x rest ihr =>
      intro done pres pd pb listed G gb fr ts w h hl
      obtain ⟨i, k⟩ := x
      unfold left at hl
      cases k with
      | pre => exact ihr (h.begin ok) (by omega)
      | norm =>
        have : i ∈ pd := by
          by_cases hm : memN i pd = true
          · exact memN_iff.1 hm
          · simp [PK.isPre, hm] at hl
        obtain ⟨_, h2⟩ := h.pdl i this
        exact absurd (h.pdl i this).1 (planGo_norm h.plan (by simp [hasNorm]))
      | late =>
        have hm : i ∈ pd := by
          by_cases hm : memN i pd = true
          · exact memN_iff.1 hm
          · simp [PK.isPre, hm] at hl
        obtain ⟨G', gb', fr', pd', h', hpd', hrel⟩ := h.adopt ok hm
        refine wpAnyG_ghost 0 hrel (ihr h' ?_)
        rw [← left_congr (pd := pd) (pd' := pd') fun j hj => ?_]
        · omega
        · have hne : j ≠ i := fun e => by
            subst e
            exact planGo_fresh h'.plan hj (List.mem_cons_self ..)
          rw [hpd' j]
          exact ⟨fun h => ⟨h, hne⟩, fun h => h.1⟩
  | succ fuel ih =>
    intro rest
    induction rest with
    | nil =>
      intro done pres pd pb listed G gb fr ts w h _
      refine wpAnyG_done ?_ (hpost _ _ ⟨G, gb, fr, ts, rfl, h.inv, h.run⟩) _
      refine List.eq_nil_iff_forall_not_mem.2 fun j hj => ?_
      obtain ⟨hun, oj, hoj, _⟩ := mem_ready.1 hj
      have hjn : j < ops.size := (Array.getElem?_eq_some_iff.1 hoj).1
      have := (h.list j hjn).2 (.inl ((h.cover j hjn).resolve_right (by rintro (h | h) <;> simp [hasNorm, hasLate] at h)))
      rw [hun] at this; simp at this
    | cons x rest ihr =>
      intro done pres pd pb listed G gb fr ts w h hl
      obtain ⟨i, k⟩ := x
      -- whichever comes up
      have branch : k.isPre = false → i ∉ pd → (∃ done', planGo ops done' pres rest = true) → blocked ops i rest rest = true → wpAnyG P .any ops Q (Rg C) (DS ops) (fuel + 1) listed (fr.homes ts (bvOf w gb), Zs ops ts pd pb) { tmps := ts, defers := ds } w := by
        rintro hk hpd ⟨done', hplan⟩ hblk
        have hleft : left pd rest ≤ fuel := by
          unfold left at hl
          have hm : memN i pd = false := by
            cases hx : memN i pd with
            | false => rfl
            | true => exact absurd (memN_iff.1 hx) hpd
          rw [hk, hm] at hl
          simp at hl; omega
        refine ⟨fun e => ?_, fun j hj => ?_⟩
        · have := h.ready_head hpd
          rw [e] at this; cases this
        · by_cases hji : j = i
          · subst hji
            exact h.turnHead ok eqok hc hk hpd (fun h' hl' => ih rest h' hl') hleft
          · obtain ⟨hjp, hjl, hjd, oj, hoj⟩ := h.others hk hpd hblk hplan hj hji
            have hjl' : hasLate j ((i, k) :: rest) = true := hasLate_cons hjl
            obtain ⟨o1, d, h1, ha, hd, hn, hb, _, _, _, hrA⟩ := h.pre j hjp hjl'
            rw [hoj] at h1; cases h1
            have hlj : left (j :: pd) ((i, k) :: rest) ≤ fuel := by
              have := left_late hjd hjl'
              omega
            refine wpOp_of hoj (fun hw => ?_) fun hw => ?_
            · obtain ⟨obj, hr⟩ := hrA hw
              unfold Oper.wp
              rw [hr w]
              obtain ⟨h', hh, hsz, hold, hz⟩ := h.early hoj hjp hjl' hjd (v := obj.2 w.heap.size) (w' := w.alloc obj.1) (b := w.heap.size) (.inl ⟨hw, obj, hr, rfl, rfl, rfl⟩)
              show ∃ γ', _
              rw [put_eta ts ds oj.dst (obj.2 w.heap.size)]
              refine ⟨(fr.homes _ (bvOf (w.alloc obj.1) gb), Zs ops _ (j :: pd) _), Rg.refl h'.inv.sep, .inr ⟨h.inv.sep, hsz, fun b hb _ => .inl (hold b hb), fun p' T l' v' k hp hk _ _ => ?_, hz⟩, ih _ h' hlj⟩
              simp only [hh] at hp
              exact ⟨p', l', v', hp, hk, Nat.le_refl _⟩
            · obtain ⟨h', hh, hsz, hold, hz⟩ := h.early hoj hjp hjl' hjd (v := undef) (w' := w) (b := 0) (.inr ⟨hw, rfl⟩)
              rw [put_eta ts ds oj.dst undef]
              refine ⟨(fr.homes _ (bvOf w gb), Zs ops _ (j :: pd) _), Rg.refl h'.inv.sep, .inr ⟨h.inv.sep, hsz, fun b hb _ => .inl (hold b hb), fun p' T l' v' k hp hk _ _ => ?_, hz⟩, ih _ h' hlj⟩
              simp only [hh] at hp
              exact ⟨p', l', v', hp, hk, Nat.le_refl _⟩
      cases k with
      | pre =>
        unfold left at hl
        exact ihr (h.begin ok) (by omega)
      | late =>
        obtain ⟨o, ho, hb, hnd, ha, hip, hblk, hplan⟩ := planGo_cons h.plan
        by_cases hm : i ∈ pd
        · obtain ⟨G', gb', fr', pd', h', hpd', hrel⟩ := h.adopt ok hm
          refine wpAnyG_ghost _ hrel (ihr h' ?_)
          rw [← left_congr (pd := pd) (pd' := pd') fun j hj => ?_]
          · unfold left at hl; omega
          · have hne : j ≠ i := fun e => by
              subst e
              exact planGo_fresh h'.plan hj (List.mem_cons_self ..)
            rw [hpd' j]
            exact ⟨fun h => ⟨h, hne⟩, fun h => h.1⟩
        · exact branch rfl hm ⟨_, hplan⟩ hblk
      | norm =>
        obtain ⟨o, ho, hb, hnd, hip, hcase, hplan⟩ := planGo_cons h.plan
        have hpd : i ∉ pd := fun e => hip (h.pdl i e).1
        by_cases hq : quietOp o.op = true
        case neg =>
          rw [if_neg hq] at hcase
          exact branch rfl hpd ⟨_, hplan⟩ hcase
        rw [if_pos hq] at hcase
        simp only [Bool.and_eq_true, Bool.or_eq_true, Bool.not_eq_true', List.all_eq_true] at hcase
        obtain ⟨hap, hst⟩ := hcase
        have hleft : left pd rest ≤ fuel := by
          unfold left at hl
          have hm : memN i pd = false := by
            cases hx : memN i pd with
            | false => rfl
            | true => exact absurd (memN_iff.1 hx) hpd
          rw [hm] at hl
          simp [PK.isPre] at hl; omega
        have hrun := h.run
        simp only [runPlan, ho] at hrun
        obtain ⟨b, hw, hrun⟩ := wantedK_some h.inv hrun
        -- who comes up must have its turn in the rest
        have hfree : ∀ j oj, ops[j]? = some oj → j ≠ i → listed.getD j true = false → (∀ e ∈ oj.after, Region.binds .any e = true → e.on ≠ i) → o.apart ops oj = true := by
          intro j oj hoj hne hun hno
          have hjn : j < ops.size := (Array.getElem?_eq_some_iff.1 hoj).1
          have hjd : j ∉ done := fun e => by
            have := (h.list j hjn).2 (.inl e)
            rw [hun] at this; simp at this
          refine apartAll_spec hap (turn_cons hne ((h.cover j hjn).resolve_left hjd)) hne hoj fun e => ?_
          obtain ⟨x, hx, hbd, rfl⟩ := bnd_iff.1 e
          exact hno x hx hbd rfl
        have hsel' := fun j o cs b ho => Region.noSelect_spec hsel j o cs b ho
        have tr : ∀ (γ : Gh) w γ' w' γ'' w'', Rg C γ w γ' w' → Rg C γ' w' γ'' w'' → Rg C γ w γ'' w'' := fun _ _ _ _ _ _ h1 h2 => h1.trans h2
        cases b with
        | false =>
          simp only at hrun
          have i' := h.inv.put o.dst (x := none1) (v := undef) (RepM.none1 _ _) (Fresh.of_owns rfl _ _) ds
          have hrel : StepRel C G gb fr ts w G gb (fr.put o.dst none1) (({ tmps := ts, defers := ds } : Act).put o.dst undef).tmps w true := (StepRel.refl true).put h.inv.size ds o.dst fun c j T l u k hx => by
            rw [homeS_none1] at hx; simp at hx
          have hn := h.next rfl hpd ho i' hrun hrel fun d hd hn => getS_put_dead hd hn
          refine wpAnyG_first (γ1 := ((fr.put o.dst none1).homes _ (bvOf w gb), Zs ops _ pd pb)) ho hsel' (fun c a w hq => absurd hq (hpan c _ w)) tr fuel listed _ _ w hfree (h.ready_head hpd) (Rg.refl h.inv.sep)
            (Rg.of_rel h.inv hrel fun b _ hz => Zs_put (h.guards rfl hpd ho undef) hz) (Rg.refl i'.sep) (v := undef) (.inl (.inr ⟨hw, rfl⟩)) ?_
          rw [put_eta ts ds o.dst undef]
          exact ih rest hn hleft
        | true =>
          simp only at hrun
          split at hrun
          case isFalse => simp at hrun
          rename_i hlo
          obtain ⟨_, h2⟩ := step_ok (Q := Q) (ds := ds) h.inv ok eqok hc h.far hrun
          obtain ⟨v, hval, haft⟩ := (h2 hq hlo).after true
          obtain ⟨G', gb', fr', ts', hts, i', hk', hrel, hdead, v', hts'⟩ := haft
          have hts : (({ tmps := ts, defers := ds } : Act).put o.dst v).tmps = ts' := by rw [hts]
          subst hts
          have hn := h.next rfl hpd ho i' hk' hrel hdead
          refine wpAnyG_first (γ1 := (fr'.homes _ (bvOf w gb'), Zs ops _ pd pb)) ho hsel' (fun c a w hq => absurd hq (hpan c _ w)) tr fuel listed _ _ w hfree (h.ready_head hpd) (Rg.refl h.inv.sep)
            (Rg.of_rel h.inv hrel fun b _ hz => Zs_put (h.guards rfl hpd ho v) hz) (Rg.refl i'.sep) (v := v) ?_ ?_
          · cases hld : isLoad o.op with
            | false => exact .inl (.inl ⟨hw, fun w' _ => hval w' fun e => by rw [hld] at e; simp at e⟩)
            | true =>
              refine .inr ⟨⟨fun j => j ∈ waits ops [i] rest, ?_⟩, .inl ⟨hw, fun w' ⟨γ', hr⟩ => hval w' fun _ => hr.2.2.1⟩⟩
              have hent : ∀ j, j ∈ waits ops [i] rest → j = i ∨ (turn j rest ∧ ∃ oj, ops[j]? = some oj ∧ ∃ x ∈ bnd oj, x ∈ waits ops [i] rest) := fun j hj => (waits_spec hj).imp (by simp) id
              have hnd' : ∀ j, j ∈ waits ops [i] rest → j ∉ done := fun j hj => by
                rcases hent j hj with rfl | ⟨ht, _⟩
                · exact hnd
                · exact fun e => planGo_fresh hplan ht (List.mem_cons_of_mem _ e)
              refine ⟨fun j hj => ?_, fun j hj hne => ?_, fun j ⟨oj, hoj, hs⟩ hun => ?_⟩
              · have hjn : j < ops.size := by
                  rcases hent j hj with rfl | ⟨_, oj, hoj, _⟩
                  · exact (Array.getElem?_eq_some_iff.1 ho).1
                  · exact (Array.getElem?_eq_some_iff.1 hoj).1
                cases hx : listed.getD j true with
                | false => rfl
                | true =>
                  rcases (h.list j hjn).1 hx with hd | hp
                  · exact absurd hd (hnd' j hj)
                  · rcases hent j hj with rfl | ⟨_, oj, hoj, x, hx1, hx2⟩
                    · exact absurd hp hpd
                    · obtain ⟨q1, q2⟩ := h.pdl j hp
                      obtain ⟨o1, _, h1, _, _, _, hb1, _⟩ := h.pre j q1 q2
                      rw [hoj] at h1; cases h1
                      exact absurd (hb1 x hx1) (hnd' x hx2)
              · rcases hent j hj with rfl | ⟨_, oj, hoj, x, hx1, hx2⟩
                · exact absurd rfl hne
                · obtain ⟨e, he, hbd, rfl⟩ := bnd_iff.1 hx1
                  exact ⟨oj, hoj, e, he, hbd, hx2⟩
              · have hjn : j < ops.size := (Array.getElem?_eq_some_iff.1 hoj).1
                have hjd : j ∉ done := fun e => by
                  have := (h.list j hjn).2 (.inl e)
                  rw [hun] at this; simp at this
                have hne : j ≠ i := fun e => by
                  subst e
                  rw [ho] at hoj; cases hoj
                  have h3 : ∀ p : Op, isStore p = true → isLoad p = true → False := fun p => by cases p <;> simp [isStore, isLoad]
                  exact h3 _ hs hld
                have ht : turn j rest := turn_cons hne ((h.cover j hjn).resolve_left hjd)
                rcases hst with hst | hst
                · rw [hld] at hst; simp at hst
                · exact memN_iff.1 (hst j (stores_spec ht hoj hs))
          · rw [put_eta ts ds o.dst v]
            exact ih rest hn hleft
end

end Go.Dam
