/- A part of an interpreter of the model's code that is proved sound, and of laws told by it: DamExec, DamRun. -/
import Derived.Test.YtdehjednpdbhaaaDoorPvC4
import Derived.Deep.LoopGhost
set_option linter.unusedVariables false
set_option linter.unusedSimpArgs false
/- Code. -/
namespace Go.Dam
open Go.RowKit
set_option linter.unusedVariables false
set_option linter.unusedSimpArgs false

/-- The plans of a function's drawn regions are right. -/
def plansOk (pl : Nat → Option (List (Nat × PK))) : Code → Bool
  | .region id ops d => match d, pl id with
    | true, some l => planOk ops l
    | _, _ => true
  | .seq a b => plansOk pl a && plansOk pl b
  | .cond _ x y => plansOk pl x && plansOk pl y
  | .block _ b => plansOk pl b
  | .loop b => plansOk pl b
  | _ => true

/-- The drawn regions with a number. -/
def drawnAt (id : Nat) : Code → List (Array Oper)
  | .region i ops true => if Nat.beq i id then [ops] else []
  | .seq a b => drawnAt id a ++ drawnAt id b
  | .cond _ x y => drawnAt id x ++ drawnAt id y
  | .block _ b => drawnAt id b
  | .loop b => drawnAt id b
  | _ => []
def putAll (ts : Array Value) : List Nat → List Value → Array Value
  | d :: l, v :: vs => putAll (ts.setIfInBounds d v) l vs
  | _, _ => ts
/-- What is told of a drawn region that copies, holds of it, whatever the order. -/
def CopyOk (P : Program) (c : CopyR) (id : Nat) (ops : Array Oper) : Prop :=
  ∀ (ts : Array Value) (ds : List Deferred) (w : World) (b b' : Nat) (cx cy : Array Value) (ex ey : TypeId) (Q : Exit → Act → World → Prop), ts.size = c.m →
    ts.getD c.x undef = .pointer (some ⟨b, 0, none⟩) → ts.getD c.y undef = .pointer (some ⟨b', 0, none⟩) → b ≠ b' → w.heap[b]? = some (.cells cx ex (0, 0)) → w.heap[b']? = some (.cells cy ey (0, 0)) →
    c.off + c.n ≤ cx.size → c.off + c.n ≤ cy.size → (∀ j, j < c.n → ∃ n : Int, cx.getD (c.off + j) undef = .int .i64 n) → (∀ j, j < c.n → ∃ n : Int, cy.getD (c.off + j) undef = .int .i64 n) →
    (∀ (vs : List Value) (w' : World) (cy' : Array Value), vs.length = c.dsts.length → w'.os = w.os → w'.tape = w.tape → w'.output = w.output → w'.heap.size = w.heap.size → (∀ k, k ≠ b' → w'.heap[k]? = w.heap[k]?) →
      w'.heap[b']? = some (.cells cy' ey (0, 0)) → cy'.size = cy.size → (∀ j, cy'.getD j undef = if c.off ≤ j ∧ j < c.off + c.n then cx.getD j undef else cy.getD j undef) → Q .normal { tmps := putAll ts c.dsts vs, defers := ds } w') →
    (Code.region id ops true).wp P Q { tmps := ts, defers := ds } w

section
variable {C : Tab} {P : Program} {w0 : World} {Gin G : Nat → Prop} {gb : Nat → Nat} {fr : Fr} {ts : Array Value} {w : World} {ds : List Deferred} {r : AV} {Q : Exit → Act → World → Prop}
variable {ops : Array Oper} {call : Nat → List AV → Option AV} {Kn : Fr → Option AV}

theorem noZ : FarZ w0 G gb fr ts w (fun _ => False) := fun _ h => h.elim

/-- Operations in the text's order. -/
theorem runOps_spec (ok : Tab.Ok C P) (eqok : EqOk C P) (hc : CallOk C P w0 call) (hpost : ∀ a w, After C w0 Gin ds Kn r a w → Q .normal a w) :
    ∀ (l : List Oper) (idx : List Nat), (∀ k : Nat, idx[k]?.bind (fun i : Nat => ops[i]?) = l[k]?) → idx.length = l.length → ∀ {G : Nat → Prop} {gb : Nat → Nat} {fr : Fr} {ts : Array Value} {w : World}, Inv C w0 Gin G gb fr ts w → runOps C call ops l fr Kn = some r →
      wpOps P ops Q idx { tmps := ts, defers := ds } w
  | [], idx, hix, hlen, G, gb, fr, ts, w, h, hrun => by
    have : idx = [] := List.length_eq_zero_iff.1 hlen
    subst this
    exact hpost _ _ ⟨G, gb, fr, ts, rfl, h, hrun⟩
  | o :: l, [], hix, hlen, G, gb, fr, ts, w, h, hrun => by simp at hlen
  | o :: l, i :: idx, hix, hlen, G, gb, fr, ts, w, h, hrun => by
    have ho : ops[i]? = some o := by simpa using hix 0
    have htail : ∀ k : Nat, idx[k]?.bind (fun i : Nat => ops[i]?) = l[k]? := fun k => by simpa using hix (k + 1)
    have hl' : idx.length = l.length := by simpa using hlen
    simp only [runOps] at hrun
    obtain ⟨b, hw, hrun⟩ := wantedK_some h hrun
    rw [wpOps_cons]
    refine wpOp_of ho (fun hw' => ?_) fun hw' => ?_
    · rw [hw'] at hw; subst hw
      simp only at hrun
      obtain ⟨h1, _⟩ := step_ok (Q := Q) (ds := ds) h ok eqok hc noZ hrun
      refine Oper.wp_mono (fun a' w' ha => ?_) h1
      obtain ⟨G', gb', fr', ts', rfl, i', hk', _⟩ := ha
      exact runOps_spec ok eqok hc hpost l idx htail hl' i' hk'
    · rw [hw'] at hw; subst hw
      rw [put_eta ts ds o.dst undef]
      exact runOps_spec ok eqok hc hpost l idx htail hl' (h.put o.dst (x := skip1) (v := undef) ⟨#[], [], rfl, rfl, rfl, fun c hc => by simp at hc⟩ (Fresh.of_owns rfl _ _) ds) hrun

theorem covers_spec {l : List (Nat × PK)} : ∀ {n : Nat}, covers l n = true → ∀ i, i < n → turn i l
  | 0, _, i, h => by omega
  | n + 1, hc, i, h => by
    simp only [covers, Bool.and_eq_true, Bool.or_eq_true] at hc
    by_cases e : i = n
    · subst e; exact hc.1
    · exact covers_spec hc.2 i (by omega)
theorem left_turns : ∀ (l : List (Nat × PK)), left [] l = turns l
  | [] => rfl
  | (i, k) :: rest => by
    have := left_turns rest
    cases k <;> simp [left, turns, PK.isPre, memN, this]

theorem Inv.drew (h : Inv C w0 Gin G gb fr ts w) : Inv C w0 Gin G gb fr ts { w with drawn := w.drawn + 1 } :=
  (h.world (w' := { w with drawn := w.drawn + 1 }) h.below.drew (Nat.le_refl _) (fun _ _ => rfl) (fun _ _ _ => rfl) fun _ _ _ _ _ _ => rfl).1

theorem region_draw (hm : P.follows .mixedOrders = true) (ok : Tab.Ok C P) (eqok : EqOk C P) (hc : CallOk C P w0 call) (hpost : ∀ a w, After C w0 Gin ds Kn r a w → Q .normal a w) (hpan : ∀ c a w, ¬ Q (.panic c) a w)
    {l : List (Nat × PK)} (hp : planOk ops l = true) (h : Inv C w0 Gin G gb fr ts w) (hrun : runPlan C call ops l fr Kn = some r) (id : Nat) : (Code.region id ops true).wp P Q { tmps := ts, defers := ds } w := by
  simp only [planOk, Bool.and_eq_true] at hp
  obtain ⟨⟨⟨h1, h2⟩, h3⟩, h4⟩ := hp
  have h3 := Nat.eq_of_beq_eq_true h3
  refine wp_region_any hm (wpAny_of_G _ _ _ _ _ (plan_any hpost hpan ok eqok hc h1 ops.size l (done := []) (pres := []) (pd := []) (pb := fun _ => 0) (listed := Array.replicate ops.size false)
    ⟨h.drew, hrun, h4, by simp, fun i hi => by simp [hi], fun i hi => .inr (covers_spec h2 i hi), by simp, by simp, by simp, by simp, by simp⟩ (by rw [left_turns, h3]; exact Nat.le_refl _)))

/-- Where code may end. -/
def Post (C : Tab) (w0 : World) (Gin : Nat → Prop) (ds : List Deferred) (r : AV) (Kn : Fr → Option AV) (Kx : Nat → Fr → Option AV) (Kr : Fr → Option AV) : Exit → Act → World → Prop
  | .normal, a, w => After C w0 Gin ds Kn r a w
  | .exit i, a, w => After C w0 Gin ds (Kx i) r a w
  | .ret, a, w => After C w0 Gin ds Kr r a w
  | _, _, _ => False

theorem plainCell_spec {x : AV × Own} (h : plainCell x = true) : ∃ n : Int, x = (.sc (.int .i64 n), .ro) := by
  obtain ⟨a, o⟩ := x
  unfold plainCell at h
  split at h
  · rename_i n heq; cases heq; exact ⟨n, rfl⟩
  · simp at h
theorem isLoc_spec {d : Nat} {m : Md} (h : isLoc d m = true) : m = .loc d 0 := by
  unfold isLoc at h
  split at h
  · rename_i d'; rw [Nat.eq_of_beq_eq_true h]
  · simp at h
theorem kill_spec : ∀ (l : List Nat) (vs : List Value) {fr : Fr} {ts : Array Value} {w : World}, vs.length = l.length → Inv C w0 Gin G gb fr ts w → Inv C w0 Gin G gb (killSlots fr l) (putAll ts l vs) w
  | [], vs, fr, ts, w, _, h => by
    cases vs <;> exact h
  | d :: l, [], fr, ts, w, hl, h => by simp at hl
  | d :: l, v :: vs, fr, ts, w, hl, h => by
    have i' := h.put (some d) (x := none1) (v := v) (RepM.none1 _ _) (Fresh.of_owns rfl _ _) []
    have e : (({ tmps := ts, defers := [] } : Act).put (some d) v).tmps = ts.setIfInBounds d v := rfl
    rw [e] at i'
    exact kill_spec l vs (by simpa using hl) i'
theorem region_copy {c : CopyR} {id : Nat} (hcp : CopyOk P c id ops) (hpost : ∀ a w, After C w0 Gin ds Kn r a w → Q .normal a w) (h : Inv C w0 Gin G gb fr ts w) (hr : copyK c fr Kn = some r) : (Code.region id ops true).wp P Q { tmps := ts, defers := ds } w := by
  unfold copyK at hr
  split at hr
  case h_2 => simp at hr
  rename_i bx bY hbx hbY
  split at hr
  case isFalse => simp at hr
  rename_i hc
  simp only [Bool.and_eq_true, Bool.not_eq_true', Nat.ble_eq, List.all_eq_true] at hc
  obtain ⟨⟨⟨hmx, hmy⟩, hm⟩, hx, hy, hne, hlx, hly, hpx, hpy⟩ := hc
  have hm := Nat.eq_of_beq_eq_true hm
  have hne : c.x ≠ c.y := fun e => by rw [e] at hne; simp at hne
  have hx := isLoc_spec hx
  have hy := isLoc_spec hy
  have slot : ∀ d, (fr.getS d).2 = .loc d 0 → ts.getD d undef = .pointer (some ⟨gb d, 0, none⟩) := by
    intro d hd
    have hdl : d < fr.slots.length := by
      rcases Nat.lt_or_ge d fr.slots.length with h | h
      · exact h
      · simp [Fr.getS, List.getD_eq_getElem?_getD, List.getElem?_eq_none h, none1] at hd
    have := h.slots d hdl
    rw [hd] at this
    obtain ⟨b, hb, hv, _⟩ := this
    obtain ⟨_, hg⟩ := bx_stOf.1 hb
    rw [hv, hg]
  obtain ⟨hBx, hgx, _⟩ := h.boxes _ _ hbx
  obtain ⟨hBy, hgy, _⟩ := h.boxes _ _ hbY
  obtain ⟨cx, ex, hhx, hsx, hrx⟩ := hBx.cells hmx
  obtain ⟨cy, ey, hhy, hsy, hry⟩ := hBy.cells hmy
  have hgne : gb c.x ≠ gb c.y := fun e => hne (h.inj _ _ _ _ hbx hbY e)
  have int : ∀ {bb : List (AV × Own)} {cc : Array Value}, c.off + c.n ≤ bb.length → (∀ x ∈ (bb.drop c.off).take c.n, plainCell x = true) →
      (∀ j, j < bb.length → RepO (stOf C w0.heap.size G gb fr ts w) (bb.getD j (.undef, .ro)).2 (cc.getD j undef) (bb.getD j (.undef, .ro)).1) → ∀ j, j < c.n → ∃ n : Int, cc.getD (c.off + j) undef = .int .i64 n ∧ bb.getD (c.off + j) (.undef, .ro) = (.sc (.int .i64 n), .ro) := by
    intro bb cc hl hp hr j hj
    have hm : bb.getD (c.off + j) (.undef, .ro) ∈ (bb.drop c.off).take c.n := by
      have h1 : j < ((bb.drop c.off).take c.n).length := by simp; omega
      have h2 : ((bb.drop c.off).take c.n)[j] = bb.getD (c.off + j) (.undef, .ro) := by
        simp [List.getD_eq_getElem?_getD, show c.off + j < bb.length by omega]
      rw [← h2]; exact List.getElem_mem h1
    obtain ⟨n, hn⟩ := plainCell_spec (hp _ hm)
    have := hr (c.off + j) (by omega)
    rw [hn] at this
    refine ⟨n, ?_, hn⟩
    have h3 : Frz C G w (cc.getD (c.off + j) undef) (.sc (.int .i64 n)) := this
    have key : ∀ {v x : Value}, Frz C G w v (.sc x) → v = x := fun h => by cases h; rfl
    exact key h3
  refine hcp ts ds w (gb c.x) (gb c.y) cx cy ex ey Q (by rw [h.size]; exact hm) (slot _ hx) (slot _ hy) hgne hhx hhy (by omega) (by omega) (fun j hj => ?_) (fun j hj => ?_) ?_
  · obtain ⟨n, h1, _⟩ := int hlx hpx hrx j hj; exact ⟨n, h1⟩
  · obtain ⟨n, h1, _⟩ := int hly hpy hry j hj; exact ⟨n, h1⟩
  intro vs w' cy' hvs e1 e2 e3 e4 hoth hnew hsz hget
  have hnl : ((bx.drop c.off).take c.n).length = c.n := by simp; omega
  have hng : ∀ i, i < c.n → ((bx.drop c.off).take c.n).getD i (.undef, .ro) = bx.getD (c.off + i) (.undef, .ro) := fun i hi => by
    simp [List.getD_eq_getElem?_getD, List.getElem?_take, hi]
  have hst := h.storeBox (d := c.y) (off := c.off) (cs := bY) (new := (bx.drop c.off).take c.n) (c := cy) (c' := cy') (e := ey) hbY hhy
    (fun j h1 h2 => by
      rw [hnl] at h2
      obtain ⟨n, _, hn⟩ := int hly hpy hry (j - c.off) (by omega)
      rw [show c.off + (j - c.off) = j by omega] at hn
      simp only [Fr.homes, homeB, hbY, if_true, hn, own?])
    (by rw [hnl]; exact hly) hsz
    (fun j hj => by rw [hget j, if_neg (by rw [hnl] at hj; exact hj)])
    (fun i hi => by
      rw [hnl] at hi
      obtain ⟨n, hn1, hn2⟩ := int hlx hpx hrx i hi
      rw [hng i hi, hn2, hget (c.off + i), if_pos (by omega), hn1]
      exact (Frz.sc (Value.int .i64 n) rfl : Frz C G w (Value.int .i64 n) (.sc (Value.int .i64 n))))
    (fun i k hi ho hk => by
      rw [hnl] at hi
      obtain ⟨n, hn1, hn2⟩ := int hlx hpx hrx i hi
      simp only [hng i hi, hn2] at ho
      cases ho)
    (w' := w') hnew hoth (h.below.trans ⟨e1, e2, e3, by omega, fun k hk => hoth k (by omega)⟩) (by omega)
  exact hpost _ _ ⟨G, gb, _, _, rfl, kill_spec c.dsts vs hvs hst.1, hr⟩
/-- What is told of a function's regions that copy. -/
def copiesOk (P : Program) (cp : Nat → Option CopyR) (code : Code) : Prop := ∀ id c, cp id = some c → ∀ ops ∈ drawnAt id code, CopyOk P c id ops

theorem exec_spec (hm : P.follows .mixedOrders = true) (ok : Tab.Ok C P) (eqok : EqOk C P) (hc : CallOk C P w0 call) (f k : Nat) :
    ∀ (c : Code), plansOk (C.plan f) c = true → copiesOk P (C.copy f) c → ∀ {G : Nat → Prop} {gb : Nat → Nat} {fr : Fr} {ts : Array Value} {w : World} {Kn : Fr → Option AV} {Kx : Nat → Fr → Option AV} {Kr : Fr → Option AV}, Inv C w0 Gin G gb fr ts w →
      exec C call f k c fr Kn Kx Kr = some r → c.wp P (Post C w0 Gin ds r Kn Kx Kr) { tmps := ts, defers := ds } w := by
  intro c
  induction c with
  | skip =>
    intro _ _ G gb fr ts w Kn Kx Kr h hr
    exact wp_skip ⟨G, gb, fr, ts, rfl, h, hr⟩
  | label l =>
    intro _ _ G gb fr ts w Kn Kx Kr h hr
    exact wp_label ⟨G, gb, fr, ts, rfl, h, hr⟩
  | region id ops d =>
    intro hp hcps G gb fr ts w Kn Kx Kr h hr
    simp only [exec] at hr
    cases d with
    | true =>
      simp only at hr
      split at hr
      · rename_i c hcc
        exact region_copy (hcps id c hcc ops (by simp [drawnAt])) (fun a w h => h) h hr
      split at hr
      case h_2 => simp at hr
      rename_i l hl
      simp only [plansOk, hl] at hp
      exact region_draw hm ok eqok hc (fun a w h => h) (fun _ _ _ h => h) hp h hr id
    | false =>
      simp only at hr
      refine wp_region (runOps_spec ok eqok hc (fun a w h => h) ops.toList (List.range ops.size) (fun q => ?_) (by simp) h hr)
      rcases Nat.lt_or_ge q ops.size with hq | hq
      · simp [hq]
      · simp [hq]
  | seq a b iha ihb =>
    intro hp hcps G gb fr ts w Kn Kx Kr h hr
    simp only [plansOk, Bool.and_eq_true] at hp
    refine wp_seq (wp_mono (iha hp.1 (fun id c hcc ops ho => hcps id c hcc ops (by simp [drawnAt, ho])) h hr) fun e a' w' hq => ?_)
    cases e with
    | normal =>
      obtain ⟨G', gb', fr', ts', rfl, i', hk'⟩ := hq
      exact ihb hp.2 (fun id c hcc ops ho => hcps id c hcc ops (by simp [drawnAt, ho])) i' hk'
    | _ => exact hq
  | cond c x y ihx ihy =>
    intro hp hcps G gb fr ts w Kn Kx Kr h hr
    simp only [plansOk, Bool.and_eq_true] at hp
    simp only [exec] at hr
    obtain ⟨t, ht, hr⟩ := castB_some hr
    have hv := ev_sc (ds := ds) h ok ht
    cases t with
    | true => exact wp_cond_true hv (ihx hp.1 (fun id c hcc ops ho => hcps id c hcc ops (by simp [drawnAt, ho])) h hr)
    | false => exact wp_cond_false hv (ihy hp.2 (fun id c hcc ops ho => hcps id c hcc ops (by simp [drawnAt, ho])) h hr)
  | block id b ih =>
    intro hp hcps G gb fr ts w Kn Kx Kr h hr
    simp only [exec] at hr
    refine wp_block (wp_mono (ih hp (fun id c hcc ops ho => hcps id c hcc ops (by simpa [drawnAt] using ho)) h hr) fun e a' w' hq => ?_)
    cases e with
    | exit i =>
      obtain ⟨G', gb', fr', ts', ha, i', hk'⟩ := hq
      simp only at hk'
      show if i = id then _ else _
      by_cases e : i = id
      · rw [if_pos e] at hk' ⊢; exact ⟨G', gb', fr', ts', ha, i', hk'⟩
      · rw [if_neg e] at hk' ⊢; exact ⟨G', gb', fr', ts', ha, i', hk'⟩
    | _ => exact hq
  | loop b ih =>
    intro hp hcps G gb fr ts w Kn Kx Kr h hr
    simp only [exec] at hr
    refine wp_loop_ghost (fun n a' w' => After C w0 Gin ds (loopN (fun fr1 K => exec C call f k b fr1 K Kx Kr) (C.keep f (firstRegion b)) n) r a' w') k ⟨G, gb, _, ts, rfl, h.cut _, hr⟩ ?_
    intro n a' w' hI
    obtain ⟨G', gb', fr', ts', rfl, i', hk'⟩ := hI
    cases n with
    | zero => simp [loopN] at hk'
    | succ n =>
      simp only [loopN] at hk'
      refine wp_mono (ih hp (fun id c hcc ops ho => hcps id c hcc ops (by simpa [drawnAt] using ho)) i' hk') fun e a2 w2 hq => ?_
      cases e with
      | normal =>
        obtain ⟨G2, gb2, fr2, ts2, rfl, i2, hk2⟩ := hq
        exact ⟨n, Nat.lt_succ_self n, G2, gb2, _, ts2, rfl, i2.cut _, hk2⟩
      | _ => exact hq
  | exit id =>
    intro _ _ G gb fr ts w Kn Kx Kr h hr
    exact wp_exit ⟨G, gb, fr, ts, rfl, h, hr⟩
  | ret =>
    intro _ _ G gb fr ts w Kn Kx Kr h hr
    exact wp_ret ⟨G, gb, fr, ts, rfl, h, hr⟩
  | _ => intro _ _ G gb fr ts w Kn Kx Kr h hr; simp [exec] at hr
end

end Go.Dam

/- A function's arguments, its results; functions by their depth of calls. -/
namespace Go.Dam
open Go.RowKit
set_option linter.unusedVariables false
set_option linter.unusedSimpArgs false

section
variable {C : Tab} {P : Program} {w0 : World} {Gin G : Nat → Prop} {gb : Nat → Nat} {fr : Fr} {ts : Array Value} {w : World} {ds : List Deferred} {r : AV}

theorem castE_eq {R : Type} (ok : Tab.Ok C P) {t : Nat} {a : AV} {K : AV → Option R} {r : R} (h : castE C t a K = some r) :
    aggOk C t a ∧ K a = some r ∧ ∃ z s b, C.info t = some (z, s, b) ∧ z.length = s ∧ (aggC C t = true → ∀ i, i < s → likeZ (z.getD i .undef) (cellN a i)) ∧ (aggC C t = false → likeZ (z.getD 0 .undef) a) := by
  have key : ∀ {K : AV → Option R}, castT C t a K = some r → ∃ z s b, C.info t = some (z, s, b) ∧ z.length = s ∧ (aggC C t = true → ∀ i, i < s → likeZ (z.getD i .undef) (cellN a i)) ∧ (aggC C t = false → likeZ (z.getD 0 .undef) a) := by
    intro K h
    unfold castT at h
    split at h
    · rename_i ht
      obtain ⟨z, s, b, hi, hz, hk, hl⟩ := tellK_some ok h
      obtain ⟨d, hd, hd', hag', _, hone⟩ := isAggT_of ok hi
      rw [hd'] at ht
      refine ⟨z, s, b, hi, hz, fun _ i hi' => by have := hl i hi'; rwa [Nat.zero_add] at this, fun e => ?_⟩
      rw [hag', Option.some.inj ht] at e; simp at e
    · rename_i ht
      obtain ⟨z, s, b, hi, hz, hk, hl⟩ := tellK_some ok h
      obtain ⟨d, hd, hd', hag', _, hone⟩ := isAggT_of ok hi
      rw [hd'] at ht
      refine ⟨z, s, b, hi, hz, fun e => ?_, fun e => hl 0 (by have := hone (Option.some.inj ht); omega)⟩
      rw [hag', Option.some.inj ht] at e; simp at e
    · simp at h
  unfold castE at h
  split at h
  · rename_i ht
    split at h
    case h_2 => simp at h
    rename_i cs hcs
    have ha : aggOk C t a := fun _ => ⟨cs, hcs⟩
    exact ⟨ha, castT_eq ok ha h, key h⟩
  · rename_i hne
    have ha : aggOk C t a := fun e => absurd e hne
    exact ⟨ha, castT_eq ok ha h, key h⟩

/-- A value told by its type needs no block if its cells are numbers, bools and strings. -/
theorem flat_frz (ok : Tab.Ok C P) {t : Nat} (hf : C.flat t = true) {S : Nat → Prop} {v : Value} {a : AV} (h : FrzV C S w v a) {z : List AV} {s b : Nat} (hi : C.info t = some (z, s, b)) (ha : aggOk C t a)
    (h1 : aggC C t = true → ∀ i, i < s → likeZ (z.getD i .undef) (cellN a i)) (h2 : aggC C t = false → likeZ (z.getD 0 .undef) a) (S' : Nat → Prop) : FrzV C S' w v a := by
  obtain ⟨d, hd, hd', hag, hl, hone⟩ := isAggT_of ok hi
  have sc : ∀ {v : Value} {a : AV}, isSc a = true → Frz C S w v a → Frz C S' w v a := by
    intro v a hs hf
    obtain ⟨u, rfl⟩ := isSc_eq hs
    cases hf
    exact .sc _ (by assumption)
  cases hagd : aggC C t with
  | true =>
    obtain ⟨cs, hcs⟩ := ha (by rw [hd', ← hag, hagd])
    have hcl : ∀ l, a = .agg l → l.length = s := by
      rintro l rfl
      unfold cellsOf at hcs
      rw [hd', ← hag, hagd] at hcs
      simp only [sizeC, hi] at hcs
      split at hcs
      · assumption
      · simp at hcs
    rcases h with ⟨vs, la, rfl, rfl, h3, h4⟩ | h
    · have := hcl la rfl
      exact .inl ⟨vs, la, rfl, rfl, h3, fun j hj => sc ((h1 hagd j (by omega)).sc (flat_plain ok hf hi (by omega))) (h4 j hj)⟩
    · unfold cellsOf at hcs
      rw [hd', ← hag, hagd] at hcs
      simp only [sizeC, hi] at hcs
      split at hcs
      · exact h.agg_false.elim
      · simp at hcs
  | false =>
    have hs := hone (by rw [← hag, hagd])
    have h3 := (h2 hagd).sc (flat_plain ok hf hi (by omega))
    rcases h with ⟨vs, la, rfl, rfl, _⟩ | h
    · simp [isSc] at h3
    · exact .inr (sc h3 h)

/-- Arguments in their slots. -/
theorem entryK_some (ok : Tab.Ok C P) {R : Type} {r : R} {X : St} (hX : X.C = C) (hlow : ∀ b, b < X.w.heap.size → X.low b) : ∀ (bs : List Bool) (tys : List Nat) (args : List AV) (vals : List Value) (K : List (AV × Md) → Option R), entryK C bs tys args K = some r →
    vals.length = args.length → (∀ j, j < args.length → FrzV C (fun b => b < X.w.heap.size) X.w (vals.getD j undef) (args.getD j .undef) ∧ (bs.getD j false = true → FrzV C X.G X.w (vals.getD j undef) (args.getD j .undef))) →
    ∃ l, K l = some r ∧ l.length = args.length ∧ ∀ j, j < args.length → RepM X (l.getD j none1).2 (vals.getD j undef) (l.getD j none1).1 ∧ (l.getD j none1).2.owns = false
  | bs, [], args, vals, K, h, hv, hr => by
    simp only [entryK] at h
    refine ⟨_, h, by simp, fun j hj => ?_⟩
    have e : (args.map fun a => (a, Md.uni .lent)).getD j none1 = (args.getD j .undef, .uni .lent) := by simp [List.getD_eq_getElem?_getD, hj]
    rw [e]
    refine ⟨?_, rfl⟩
    rcases (hr j hj).1 with ⟨vs, la, e1, e2, e3, e4⟩ | h1
    · exact .inr ⟨.inr rfl, vs, la, e1, e2, e3, fun i hi => (by show Frz X.C X.low X.w _ _; rw [hX]; exact (e4 i hi).mono hlow fun _ _ => rfl)⟩
    · exact .inl (by show Frz X.C X.low X.w _ _; rw [hX]; exact h1.mono hlow fun _ _ => rfl)
  | bs, t :: tys, [], vals, K, h, hv, hr => by simp [entryK] at h
  | bs, t :: tys, a :: args, vals, K, h, hv, hr => by
    cases vals with
    | nil => simp at hv
    | cons v vals =>
    have hr0 := hr 0 (by simp)
    simp only [List.getD_cons_zero] at hr0
    have hlent : RepM X (.uni .lent) v a := by
      rcases hr0.1 with ⟨vs, la, e1, e2, e3, e4⟩ | h1
      · exact .inr ⟨.inr rfl, vs, la, e1, e2, e3, fun i hi => (by show Frz X.C X.low X.w _ _; rw [hX]; exact (e4 i hi).mono hlow fun _ _ => rfl)⟩
      · exact .inl (by show Frz X.C X.low X.w _ _; rw [hX]; exact h1.mono hlow fun _ _ => rfl)
    have ofRo : FrzV C X.G X.w v a → RepM X (.uni .ro) v a := by
      intro h
      rcases h with ⟨vs, la, e1, e2, e3, e4⟩ | h1
      · exact .inr ⟨.inl rfl, vs, la, e1, e2, e3, fun i hi => (by show Frz X.C X.G X.w _ _; rw [hX]; exact e4 i hi)⟩
      · exact .inl (by show Frz X.C X.G X.w _ _; rw [hX]; exact h1)
    have htail : ∀ {m : Md} (hm : RepM X m v a ∧ m.owns = false) {K : List (AV × Md) → Option R}, (entryK C bs.tail tys args fun l => K ((a, m) :: l)) = some r →
        ∃ l, K l = some r ∧ l.length = (a :: args).length ∧ ∀ j, j < (a :: args).length → RepM X (l.getD j none1).2 ((v :: vals).getD j undef) (l.getD j none1).1 ∧ (l.getD j none1).2.owns = false := by
      intro m hm K h
      obtain ⟨l, h1, h2, h3⟩ := entryK_some ok hX hlow bs.tail tys args vals _ h (by simpa using hv) fun j hj => by
        have := hr (j + 1) (by simpa using hj)
        simp only [List.getD_cons_succ] at this
        refine ⟨this.1, fun e => this.2 ?_⟩
        cases bs with
        | nil => simp at e
        | cons b bs => simpa using e
      refine ⟨_, h1, by simp [h2], fun j hj => ?_⟩
      cases j with
      | zero => exact hm
      | succ j => exact h3 j (by simpa using hj)
    have h' := h
    simp only [entryK] at h'
    split at h'
    · obtain ⟨ha, hk, z, s, b, hi, hz, l1, l2⟩ := castE_eq ok h'
      refine htail ⟨?_, ?_⟩ hk
      · unfold normM
        split
        · rename_i hf
          exact ofRo (flat_frz (w := X.w) ok hf hr0.1 hi ha l1 l2 X.G)
        · unfold argO
          split
          · exact ofRo (hr0.2 (by simp))
          · exact hlent
      · unfold normM
        split
        · rfl
        · unfold argO; split <;> rfl
    · exact htail ⟨hlent, rfl⟩ h'

/-- What the results are. -/
def resOf (ts : Array Value) : ResultVar → Sem Value
  | .tmp t => pure (ts.getD t undef)
  | .cell a t => do loadVar t (← asAddr (ts.getD a undef))
theorem resultsK_some (h : Inv C w0 Gin G gb fr ts w) (ok : Tab.Ok C P) : ∀ (rs : List ResultVar) (K : List (AV × Md) → Fr → Option AV), resultsK C fr K rs = some r →
    ∃ (ys : List (AV × Md)) (vs : List Value), K ys fr = some r ∧ ys.length = vs.length ∧ (rs.mapM (resOf ts)).run P w = Result.ok vs w ∧
      ∀ j, j < vs.length → RepM (stOf C w0.heap.size G gb fr ts w) (ys.getD j none1).2 (vs.getD j undef) (ys.getD j none1).1 ∧ NoBlk (ys.getD j none1).2 (ys.getD j none1).1 (vs.getD j undef)
  | [], K, hk => ⟨[], [], hk, rfl, rfl, by simp⟩
  | .tmp t :: rs, K, hk => by
    simp only [resultsK] at hk
    obtain ⟨ys, vs, h1, h2, h3, h4⟩ := resultsK_some h ok rs _ hk
    obtain ⟨e1, _⟩ := h.ev ok [] 0 (.tmp t)
    refine ⟨_, ts.getD t undef :: vs, h1, by simp [h2], ?_, fun j hj => ?_⟩
    · rw [List.mapM_cons]
      simp only [Sem.run_bind, resOf, Sem.run_pure, Result.andThen_ok, h3]
    · cases j with
      | zero => exact ⟨e1, NoBlk.of_owns (owns_viewM _ _ _) _ _⟩
      | succ j => exact h4 j (by simpa using hj)
  | .cell t T :: rs, K, hk => by
    simp only [resultsK] at hk
    obtain ⟨y, v, a, hv, hrun, rep, hown, hk⟩ := load_rep (ds := []) (S := fun w' => w' = w) h ok (Z := fun _ => False) (fun _ h => h.elim) (fun _ e => .inl e) hk
    obtain ⟨ys, vs, h1, h2, h3, h4⟩ := resultsK_some h ok rs _ hk
    refine ⟨_, v :: vs, h1, by simp [h2], ?_, fun j hj => ?_⟩
    · rw [List.mapM_cons]
      have hv' : ts.getD t undef = .pointer (some a) := hv
      simp only [Sem.run_bind, resOf, hv', asAddr, Sem.run_pure, Result.andThen_ok, hrun w rfl, h3]
    · cases j with
      | zero => exact ⟨rep, NoBlk.of_owns hown _ _⟩
      | succ j => exact h4 j (by simpa using hj)

def tupV : List Value → Value
  | [v] => v
  | vs => .tuple vs.toArray
theorem run_results {fn : Func} {vs : List Value} (h : (fn.results.toList.mapM (resOf ts)).run P w = Result.ok vs w) : (results fn ts).run P w = Result.ok (tupV vs) w := by
  have e : (fn.results.mapM (resOf ts)).run P w = Result.ok vs.toArray w := by
    rw [Array.mapM_eq_mapM_toList, map_eq_pure_bind, Sem.run_bind, h]
    rfl
  have e2 : results fn ts = (fn.results.mapM (resOf ts) >>= fun vs => pure (if h : vs.size = 1 then vs[0] else .tuple vs)) := rfl
  rw [e2, Sem.run_bind, e]
  simp only [Result.andThen_ok, Sem.run_pure]
  congr 1
  match vs with
  | [] => rfl
  | [v] => rfl
  | a :: b :: l => simp [tupV]

/-- Results told by their types. -/
theorem castRes_some (ok : Tab.Ok C P) : ∀ (ys : List (AV × Md)) (tys : List Nat) (K : List AV → Option AV), castRes C ys tys K = some r →
    K (ys.map (·.1)) = some r ∧ ys.length = tys.length ∧ ∀ j t, tys[j]? = some t → aggOk C t (ys.getD j none1).1 ∧ ∃ z s b, C.info t = some (z, s, b) ∧ z.length = s ∧ (aggC C t = true → ∀ i, i < s → likeZ (z.getD i .undef) (cellN (ys.getD j none1).1 i)) ∧ (aggC C t = false → likeZ (z.getD 0 .undef) (ys.getD j none1).1)
  | [], [], K, h => ⟨h, rfl, by simp⟩
  | [], t :: tys, K, h => by simp [castRes] at h
  | y :: ys, [], K, h => by simp [castRes] at h
  | y :: ys, t :: tys, K, h => by
    simp only [castRes] at h
    obtain ⟨h1, h2, h3⟩ := castE_eq ok h
    obtain ⟨h4, h5, h6⟩ := castRes_some ok ys tys _ h2
    refine ⟨h4, by simp [h5], fun j t' hj => ?_⟩
    cases j with
    | zero =>
      simp only [List.getElem?_cons_zero, Option.some.injEq] at hj
      subst hj
      exact ⟨h1, h3⟩
    | succ j => exact h6 j t' (by simpa using hj)

theorem likeZ_sl {z : AV} {T : Nat} {l : List AV} (h : likeZ z (.sl T l)) : ∃ T' l', z = .sl T' l' := by
  cases z with
  | sl T' l' => exact ⟨T', l', rfl⟩
  | sc v =>
    cases v <;> simp [likeZ, isP] at h
  | _ => simp [likeZ, isP] at h
theorem likeZ_agg {z : AV} {l : List AV} (h : likeZ z (.agg l)) : False := by
  cases z with
  | sl T' l' => simp [likeZ] at h
  | sc v =>
    cases v <;> simp [likeZ, isP] at h
  | _ => simp [likeZ, isP] at h

theorem roOwn_frz {X : St} {m : Md} {v : Value} {a : AV} (h : RepM X m v a) (hm : roOwn m) : FrzV X.C (fun _ => True) X.w v a := by
  have one : ∀ {o v a}, (o = .ro ∨ o = .own) → RepO X o v a → Frz X.C (fun _ => True) X.w v a := by
    intro o v a ho h
    rcases ho with rfl | rfl
    · exact Frz.mono h (fun _ _ => trivial) fun _ _ => rfl
    · exact OwnR.frz h (fun _ _ => trivial) fun _ _ => trivial
  cases m with
  | uni o =>
    rcases h with h | ⟨ho, vs, la, h1, h2, h3, h4⟩
    · exact .inr (one hm h)
    · exact .inl ⟨vs, la, h1, h2, h3, fun j hj => one hm (h4 j hj)⟩
  | cells l =>
    obtain ⟨vs, la, h1, h2, h3, h4, h5⟩ := h
    exact .inl ⟨vs, la, h1, h2, h3, fun j hj => one (hm j).symm (h5 j (by omega))⟩
  | _ => exact hm.elim

/-- One result, by the mark that the caller sees. -/
theorem ret_one {X : St} (ok : Tab.Ok X.C P) {t : Nat} {m : Md} {v : Value} {a : AV} (hm : RepM X m v a) (hro : roOwn m) (hag : aggOk X.C t a) {z : List AV} {s b : Nat} (hi : X.C.info t = some (z, s, b)) (hz : z.length = s)
    (h1 : aggC X.C t = true → ∀ i, i < s → likeZ (z.getD i .undef) (cellN a i)) (h2 : aggC X.C t = false → likeZ (z.getD 0 .undef) a)
    (hfit : X.C.flat t = true ∨ ∀ j, j < z.length → ∀ T l, z.getD j .undef = .sl T l → (m.at j).owns = true) :
    RepM (st0 X.C X.G X.base X.w) ((resMd X.C false [t]).getD 0 (.uni .ro)) v a ∧ ∀ c j x u, homeS ((resMd X.C false [t]).getD 0 (.uni .ro)) a v c j = some (x, u) → homeS m a v c j = some (x, u) := by
  obtain ⟨d, hd, hd', hagd, hl, hone⟩ := isAggT_of ok hi
  have owns_own : ∀ {o : Own}, o.owns = true → o = .own := fun {o} h => by cases o <;> simp_all [Own.owns]
  by_cases hf : X.C.flat t = true
  · have e : (resMd X.C false [t]).getD 0 (.uni .ro) = .uni .ro := by simp [resMd, hf]
    rw [e]
    refine ⟨?_, fun c j x u hx => by rw [homeS_owns rfl] at hx; simp at hx⟩
    rcases flat_frz (w := X.w) ok hf (roOwn_frz hm hro) hi hag h1 h2 X.G with ⟨vs, la, q1, q2, q3, q4⟩ | h
    · exact .inr ⟨.inl rfl, vs, la, q1, q2, q3, q4⟩
    · exact .inl h
  · replace hfit := hfit.resolve_left hf
    cases hA : aggC X.C t with
    | true =>
      have e : (resMd X.C false [t]).getD 0 (.uni .ro) = .cells (z.map zOwn) := by
        simp [resMd, hf, hi, hd', ← hagd, hA]
      rw [e]
      replace h1 := h1 hA
      clear h2
      obtain ⟨cs, hcs⟩ := hag (by rw [hd', ← hagd, hA])
      obtain ⟨l, rfl, hll⟩ : ∃ l, a = .agg l ∧ l.length = s := by
        unfold cellsOf at hcs
        rw [hd', ← hagd, hA] at hcs
        simp only [sizeC, hi] at hcs
        split at hcs
        case h_2 => simp at hcs
        rename_i l
        split at hcs
        case isFalse => simp at hcs
        rename_i hll
        exact ⟨l, rfl, hll⟩
      obtain ⟨vs, rfl, hvs, hcell⟩ : ∃ vs, v = .agg vs ∧ vs.size = s ∧ ∀ j, j < s → RepO X (m.at j) (vs.getD j undef) (cellN (.agg l) j) := by
        cases m with
        | uni o =>
          rcases hm with hm | ⟨ho, vs, la, rfl, e2, h3, h4⟩
          · obtain ⟨S, hfz⟩ := RepO.frz hm; exact hfz.agg_false.elim
          · cases e2
            exact ⟨vs, rfl, by omega, fun j hj => h4 j (by omega)⟩
        | cells lo =>
          obtain ⟨vs, la, rfl, e2, h3, h4, h5⟩ := hm
          cases e2
          exact ⟨vs, rfl, by omega, fun j hj => h5 j (by omega)⟩
        | _ => exact hro.elim
      have hat : ∀ j, m.at j = .ro ∨ m.at j = .own := fun j => by
        cases m with
        | uni o => exact hro
        | cells lo => exact (hro j).symm
        | _ => exact hro.elim
      have hzo : ∀ j, j < s → (z.map zOwn).getD j .ro = zOwn (z.getD j .undef) := fun j hj => by
        simp [List.getD_eq_getElem?_getD, hz, hj]
      refine ⟨⟨vs, l, rfl, rfl, by omega, by simp; omega, fun j hj => ?_⟩, fun c j x u hx => ?_⟩
      · have hj' : j < s := by simp at hj; omega
        rw [hzo j hj']
        have hc := hcell j hj'
        cases hzj : z.getD j .undef with
        | sl T l' =>
          have := owns_own (hfit j (by omega) T l' hzj)
          rw [this] at hc
          exact hc
        | _ =>
          rcases hat j with e | e
          · rw [e] at hc; exact hc
          · rw [e] at hc
            obtain ⟨T, l', z', s', b', xs, e3, _⟩ := (show OwnR _ _ _ _ _ _ from hc)
            have := h1 j hj'
            rw [e3] at this
            obtain ⟨T', l2, e4⟩ := likeZ_sl this
            rw [hzj] at e4; simp at e4
      · simp only [homeS] at hx
        split at hx
        case isFalse => simp at hx
        rename_i hc0
        obtain ⟨q1, q2⟩ := own?_some hx
        simp only [Md.home1] at q1
        have hj : j < s := by
          rcases Nat.lt_or_ge j s with h' | h'
          · exact h'
          · rw [getD_over _ _ (by simpa [hz] using h')] at q1; simp at q1
        rw [hzo j hj] at q1
        have hown : m.at j = .own := by
          cases hzj : z.getD j .undef with
          | sl T l' => exact owns_own (hfit j (by omega) T l' hzj)
          | _ => rw [hzj] at q1; simp [zOwn] at q1
        cases m with
        | uni o =>
          simp only [Md.at] at hown
          subst hown
          rcases hm with hm | ⟨ho, _⟩
          · obtain ⟨S, hfz⟩ := RepO.frz hm; exact hfz.agg_false.elim
          · simp at ho
        | cells lo =>
          simp only [Md.at] at hown
          simp only [homeS, if_pos hc0, Md.home1, hown, own?]
          rw [← q2]
          rfl
        | _ => exact hro.elim
    | false =>
      have hs1 := hone (by rw [← hagd, hA])
      replace h2 := h2 hA
      clear h1
      obtain ⟨z0, rfl⟩ : ∃ z0, z = [z0] := by
        cases z with
        | nil => simp at hz; omega
        | cons z0 z =>
          have : z = [] := List.length_eq_zero_iff.1 (by simp at hz; omega)
          exact ⟨z0, by rw [this]⟩
      simp only [List.getD_cons_zero] at h2
      obtain ⟨o, rfl⟩ : ∃ o, m = .uni o := by
        cases m with
        | uni o => exact ⟨o, rfl⟩
        | cells lo =>
          obtain ⟨vs, la, _, rfl, _⟩ := hm
          exact (likeZ_agg h2).elim
        | _ => exact hro.elim
      cases z0 with
      | sl T l' =>
        have e : (resMd X.C false [t]).getD 0 (.uni .ro) = .uni .own := by
          simp [resMd, hf, hi, hd', ← hagd, hA]
        rw [e]
        have := owns_own (hfit 0 (by simp) T l' rfl)
        simp only [Md.at] at this
        subst this
        refine ⟨?_, fun c j x u hx => hx⟩
        rcases hm with hm | ⟨ho, _⟩
        · exact .inl hm
        · simp at ho
      | _ =>
        have e : (resMd X.C false [t]).getD 0 (.uni .ro) = .uni .ro := by
          simp [resMd, hf, hi, hd', ← hagd, hA]
        rw [e]
        refine ⟨?_, fun c j x u hx => by rw [homeS_owns rfl] at hx; simp at hx⟩
        rcases hro with rfl | rfl
        · rcases hm with hm | ⟨ho, vs, la, q1, q2, q3, q4⟩
          · exact .inl hm
          · exact .inr ⟨.inl rfl, vs, la, q1, q2, q3, q4⟩
        · rcases hm with hm | ⟨ho, _⟩
          · obtain ⟨T, l', z', s', b', xs, rfl, _⟩ := (show OwnR _ _ _ _ _ _ from hm)
            obtain ⟨T', l2, e4⟩ := likeZ_sl h2
            simp at e4
          · simp at ho
end

end Go.Dam
