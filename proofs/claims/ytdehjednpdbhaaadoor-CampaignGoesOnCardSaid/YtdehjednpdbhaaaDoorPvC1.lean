/- A part of an interpreter of the model's code that is proved sound, and of laws told by it: DamCall, DamCall2. -/
import Derived.Test.YtdehjednpdbhaaaDoorPvB8
set_option linter.unusedVariables false
set_option linter.unusedSimpArgs false
/- Calls. -/
namespace Go.Dam
open Go.RowKit
set_option linter.unusedVariables false
set_option linter.unusedSimpArgs false

def retMd (C : Tab) (ro : Bool) (ts : List Nat) : Md := match ts with
  | [t] => (resMd C ro [t]).getD 0 (.uni .ro)
  | ts => .tup (resMd C ro ts)
def st0 (C : Tab) (G : Nat → Prop) (base : Nat) (w : World) : St := ⟨C, base, G, w, fun _ => none, fun _ => none⟩
/-- An aggregate has its type's cells. -/
def aggOk (C : Tab) (t : Nat) (a : AV) : Prop := isAggT C t = some true → ∃ cs, cellsOf C t a = some cs
/-- What a call hands back. -/
structure RetOk (C : Tab) (ro : Bool) (G : Nat → Prop) (base : Nat) (w : World) (ts : List Nat) (v : Value) (a : AV) : Prop where
  rep : RepM (st0 C G base w) (retMd C ro ts) v a
  sep : ∀ c j x u k, homeS (retMd C ro ts) a v c j = some (x, u) → u.ownBlock = some k → ¬ G k ∧ ∀ c' j' x' u', homeS (retMd C ro ts) a v c' j' = some (x', u') → u'.ownBlock = some k → c = c' ∧ j = j'
  agg : ∀ j t, ts[j]? = some t → aggOk C t (if ts.length = 1 then a else compN a j)
/-- Values that stand for a call's arguments; those that may be kept are frozen. -/
def ArgsOk (C : Tab) (Gin : Nat → Prop) (w : World) (bs : List Bool) (vals : List Value) (args : List AV) : Prop :=
  vals.length = args.length ∧ ∀ j, j < args.length → FrzV C (fun b => b < w.heap.size) w (vals.getD j undef) (args.getD j .undef) ∧ (bs.getD j false = true → FrzV C Gin w (vals.getD j undef) (args.getD j .undef))
def CallsTo (P : Program) (f : Nat) (vals : Array Value) (w : World) (R : Value → World → Prop) : Prop :=
  ∀ (o : Oper) (a : Act) (next : Act → World → Prop) (Q : Exit → Act → World → Prop), (∀ v w', R v w' → next (a.put o.dst v) w') → o.upon P a next Q ((callFunc f vals).run P w)
/-- What is told of calls holds. -/
def CallOk (C : Tab) (P : Program) (w0 : World) (call : Nat → List AV → Option AV) : Prop :=
  ∀ f args r, call f args = some r → ∀ (vals : Array Value) (w : World) (Gin : Nat → Prop), (∀ b, Gin b → b < w.heap.size) → ArgsOk C Gin w (C.share f) vals.toList args → Below w0.heap.size w0 w →
    CallsTo P f vals w fun v w' => ∃ G', Below w.heap.size w w' ∧ (∀ b, G' b → b < w'.heap.size ∧ (b < w.heap.size → Gin b)) ∧ RetOk C (C.roF f) G' w.heap.size w' (C.res f) v r

section
variable {C : Tab} {P : Program} {w0 : World} {Gin G : Nat → Prop} {gb : Nat → Nat} {fr : Fr} {ts : Array Value} {w : World} {ds : List Deferred} {r : AV} {Q : Exit → Act → World → Prop}
variable {dst : Option Nat} {type : Nat} {pos : String} {after : Array Edge} {guard : Option (Nat × Bool)} {K : Fr → Option AV} {call : Nat → List AV → Option AV}

theorem CallsTo.of_calls {f : Nat} {vals : Array Value} {fn : Func} {R : Value → World → Prop} (hf : P.funcs[f]? = some fn) (hb : fn.body.isSome = true) (hn : (fn.name == "runtime.NumGoroutine") = false)
    (h : Calls P f vals w fun | .returned v, w' => R v w' | _, _ => False) : CallsTo P f vals w R := by
  intro o a next Q hR
  have : (callFunc f vals).run P w = .ok (.enter f vals) w := by
    have hb' : fn.body ≠ none := by intro e; rw [e] at hb; simp at hb
    have hn' : fn.name ≠ "runtime.NumGoroutine" := by simpa using hn
    simp [callFunc, program, Sem.run_bind, hf, hn', hb', Sem.run, Result.andThen, pure]
  rw [this]
  exact Calls.mono h fun e w' he => by
    cases e with
    | returned v => exact hR v w' he
    | panicked c => exact he.elim
    | outgrown => exact he.elim

/-- More is frozen. -/
theorem Inv.moreG (h : Inv C w0 Gin G gb fr ts w) {G2 : Nat → Prop} (hG : ∀ b, G b → G2 b) (hlt : ∀ b, G2 b → b < w.heap.size) (hgin : ∀ b, G2 b → b < w0.heap.size → Gin b)
    (hbox : ∀ d cs, fr.box? d = some cs → ¬ G2 (gb d)) (how : ∀ p a v k, fr.homes ts (bvOf w gb) p = some (a, v) → v.ownBlock = some k → ¬ G2 k) : Inv C w0 Gin G2 gb fr ts w := by
  have le : Le (stOf C w0.heap.size G gb fr ts w) (stOf C w0.heap.size G2 gb fr ts w) (fun _ => True) := {
    C := rfl, base := rfl, G := hG, low := fun _ _ => rfl
    ow := fun q _ a v hq => ⟨hq, fun _ _ => rfl⟩ }
  refine ⟨h.below, hlt, hgin, h.size, fun n hn => (h.slots n hn).mono le (fun _ _ h => h) (Md.hit_true _) fun _ _ _ _ _ _ _ => rfl, fun d cs hd => ?_, h.inj, fun p a v k hp hk => ⟨how p a v k hp hk, (h.ow p a v k hp hk).2⟩, h.sep⟩
  obtain ⟨⟨cc, e, hh, hs, hr⟩ | hB, h1, h2⟩ := h.boxes d cs hd
  rotate_left
  · exact ⟨.inr (hB.move rfl rfl), h1, hbox d cs hd⟩
  exact ⟨.inl ⟨cc, e, hh, hs, fun j hj => (hr j hj).mono le (Own.hit_true _) fun _ _ _ => rfl⟩, h1, hbox d cs hd⟩

/-- Marks that look at nothing. -/
def selfMd : Md → Prop
  | .tup l => ∀ m ∈ l, roOwn m
  | m => roOwn m
theorem RepM.lift {X Y : St} {m : Md} {v : Value} {a : AV} (h : RepM X m v a) (hm : selfMd m) (f : ∀ o v a, (o = .ro ∨ o = .own) → RepO X o v a → RepO Y o v a) : RepM Y m v a := by
  have one : ∀ m v a, roOwn m → Rep1 X m v a → Rep1 Y m v a := by
    intro m v a hm h
    cases m with
    | uni o =>
      rcases h with h | ⟨ho, vs, la, h1, h2, h3, h4⟩
      · exact .inl (f _ _ _ hm h)
      · exact .inr ⟨ho, vs, la, h1, h2, h3, fun j hj => f _ _ _ hm (h4 j hj)⟩
    | cells l =>
      obtain ⟨vs, la, h1, h2, h3, h4, h5⟩ := h
      exact ⟨vs, la, h1, h2, h3, h4, fun j hj => f _ _ _ (hm j).symm (h5 j hj)⟩
    | _ => exact hm.elim
  cases m with
  | uni o => exact one (.uni o) v a hm h
  | cells l => exact one (.cells l) v a hm h
  | tup l =>
    obtain ⟨vs, la, h1, h2, h3, h4⟩ := h
    refine ⟨vs, la, h1, h2, h3, fun c hc => one _ _ _ ?_ (h4 c hc)⟩
    have : l.getD c (.uni .ro) = l[c] := by simp [hc]
    rw [this]
    exact hm _ (List.getElem_mem _)
  | _ => exact hm.elim

theorem roOwn_zOwn (z : List AV) : roOwn (.cells (z.map zOwn)) := by
  intro j
  rcases Nat.lt_or_ge j z.length with hj | hj
  · have : (z.map zOwn).getD j .ro = zOwn z[j] := by simp [hj]
    rw [this]
    cases z[j] <;> simp [zOwn]
  · rw [getD_over _ _ (by simpa using hj)]; exact .inr rfl
theorem resMd_roOwn {ro : Bool} : ∀ ts, ∀ m ∈ resMd C ro ts, roOwn m
  | [], m, h => by simp [resMd] at h
  | t :: ts, m, h => by
    simp only [resMd, List.mem_cons] at h
    rcases h with rfl | h
    · split
      · exact .inl rfl
      · split
        · exact roOwn_zOwn _
        · split
          · exact .inr rfl
          · exact .inl rfl
        · exact .inl rfl
    · exact resMd_roOwn ts m h
theorem length_resMd {ro : Bool} : ∀ ts, (resMd C ro ts).length = ts.length
  | [] => rfl
  | t :: ts => by simp [resMd, length_resMd ts]
theorem retMd_self (ro : Bool) (ts : List Nat) : selfMd (retMd C ro ts) := by
  unfold retMd
  split
  · rename_i t
    have : (resMd C ro [t]).getD 0 (.uni .ro) = (resMd C ro [t])[0]'(by simp [length_resMd]) := by simp [length_resMd]
    have h := resMd_roOwn (C := C) [t] _ (List.getElem_mem (by simp [length_resMd] : 0 < (resMd C ro [t]).length))
    rw [this]
    revert h
    generalize (resMd C ro [t])[0]'(by simp [length_resMd]) = m
    intro h
    cases m <;> first | exact h | exact h.elim
  · exact fun m hm => resMd_roOwn _ m hm

theorem Inv.frzO (h : Inv C w0 Gin G gb fr ts w) {o : Own} {v : Value} {a : AV} (hr : RepO (stOf C w0.heap.size G gb fr ts w) o v a) : Frz C (fun k => k < w.heap.size) w v a := by
  have hb : w0.heap.size ≤ w.heap.size := h.below.size
  cases o with
  | ro => exact Frz.mono hr h.gs fun _ _ => rfl
  | lent => exact Frz.mono hr (fun b hb' => hb'.elim (h.gs b) fun hlt => Nat.lt_of_lt_of_le hlt hb) fun _ _ => rfl
  | own => exact OwnR.frz hr h.gs fun k hk => (OwnR.lt hr k hk).2
  | brw q f =>
    obtain ⟨qa, qv, hq, hf, _⟩ := hr
    exact hf.mono (fun b hb' => hb'.elim (h.gs b) fun hk => ((h.own hq).lt b hk).2) fun _ _ => rfl
theorem lendBox_frz (h : Inv C w0 Gin G gb fr ts w) {d off : Nat} {b : Nat} (hb : (stOf C w0.heap.size G gb fr ts w).bx d = some b) : Frz C (fun k => k < w.heap.size) w (.pointer (some ⟨b, off, none⟩)) (lendBox fr (d, off)) := by
  obtain ⟨⟨cs, hcs⟩, rfl⟩ := bx_stOf.1 hb
  simp only [lendBox, hcs]
  cases hmp : isMapB cs with
  | true => exact .undef _ rfl
  | false =>
  obtain ⟨cc, e, hh, hs, hr⟩ := (h.boxes d cs hcs).1.cells hmp
  have hlt := h.gb_lt hcs
  refine .ref _ (gb d) off (fun j => cc.getD (off + j) undef) (fun _ => hlt) (fun j hj => ?_) fun j hj => ?_
  · have hj' : off + j < cs.length := by simp at hj; omega
    have hh' : w.heap[gb d]? = some (.cells cc e (0, 0)) := hh
    rw [cell_of_row w (gb d) (off + j) cc e (0, 0) hh']
    have : off + j < cc.size := by omega
    simp [this]
  · have hj' : off + j < cs.length := by simp at hj; omega
    have hrj := hr (off + j) hj'
    have e1 : ((cs.drop off).map (·.1)).getD j .undef = (cs.getD (off + j) (.undef, .ro)).1 := by
      simp [List.getD_eq_getElem?_getD, List.getElem?_drop, hj']
    rw [e1]
    exact h.frzO hrj

theorem lend_frz (h : Inv C w0 Gin G gb fr ts w) (ok : Tab.Ok C P) {t : Nat} {x : Operand} (hl : lendOk (ev C fr t x).2 = true) :
    FrzV C (fun k => k < w.heap.size) w (({ tmps := ts, defers := ds } : Act).eval x) (lend fr (ev C fr t x)) := by
  obtain ⟨h1, _⟩ := h.ev ok ds t x
  generalize ({ tmps := ts, defers := ds } : Act).eval x = v at h1
  generalize Dam.ev C fr t x = y at h1 hl
  obtain ⟨a, m⟩ := y
  simp only at h1 hl
  cases m with
  | unk => simp [lendOk] at hl
  | tup l => simp [lendOk] at hl
  | mapAt d => simp [lendOk] at hl
  | uni o =>
    rcases h1 with h1 | ⟨ho, vs, la, rfl, rfl, h3, h4⟩
    · exact .inr (h.frzO h1)
    · exact .inl ⟨vs, la, rfl, rfl, h3, fun j hj => h.frzO (h4 j hj)⟩
  | cells l =>
    obtain ⟨vs, la, rfl, rfl, h3, h4, h5⟩ := h1
    exact .inl ⟨vs, la, rfl, rfl, h3, fun j hj => h.frzO (h5 j (by omega))⟩
  | adr o off =>
    obtain ⟨b, k, la, rfl, rfl, h3⟩ := h1
    cases off with
    | zero => exact .inr (h.frzO h3)
    | succ n => exact .inr (.undef _ rfl)
  | elem p i off =>
    obtain ⟨T, l, z, s, b', g, cap, cs, hq, hi, hil, rfl, rfl, _⟩ := h1
    exact .inr (.undef _ rfl)
  | loc d off =>
    obtain ⟨b, hb, rfl, _⟩ := h1
    exact .inr (lendBox_frz h hb)
  | fn g caps =>
    obtain ⟨rfl, hc, _, hs⟩ := h1
    refine .inr (.fn g _ _ hs (by simp) fun j hj => ?_)
    have hj' : j < caps.length := by simpa using hj
    obtain ⟨b, hb⟩ := hc caps[j] (List.getElem_mem _)
    have e1 : ((caps.map (capV (stOf C w0.heap.size G gb fr ts w))).toArray).getD j undef = .pointer (some ⟨b, caps[j].2, none⟩) := by
      simp [hj', capV, hb]
    have e2 : (caps.map (lendBox fr)).getD j .undef = lendBox fr (caps[j].1, caps[j].2) := by simp [hj']
    rw [e1, e2]
    exact lendBox_frz h hb

theorem args_frz (h : Inv C w0 Gin G gb fr ts w) (ok : Tab.Ok C P) : ∀ (xs : List Operand) (tys : List Nat), argsFine C fr xs tys = true → (argsOf C fr xs tys).length = xs.length ∧
    ∀ j, j < xs.length → FrzV C (fun k => k < w.heap.size) w (({ tmps := ts, defers := ds } : Act).eval (xs.getD j (.const undef))) ((argsOf C fr xs tys).getD j .undef)
  | [], [], _ => ⟨rfl, by simp⟩
  | [], t :: tys, h => by simp [argsFine] at h
  | x :: xs, [], h => by simp [argsFine] at h
  | x :: xs, t :: tys, hf => by
    simp only [argsFine, Bool.and_eq_true] at hf
    obtain ⟨h1, h2⟩ := args_frz h ok xs tys hf.2
    refine ⟨by simp [argsOf, h1], fun j hj => ?_⟩
    cases j with
    | zero => exact lend_frz h ok hf.1
    | succ j =>
      simp only [argsOf, List.getD_cons_succ]
      exact h2 j (by simpa using hj)

theorem getD_shareMs (C : Tab) (fr : Fr) : ∀ (bs : List Bool) (xs : List Operand) (tys : List Nat), argsFine C fr xs tys = true → (shareMs C fr bs xs tys).length ≤ xs.length ∧
    ∀ j, j < (shareMs C fr bs xs tys).length → (bs.getD j false = true → ∃ t, (shareMs C fr bs xs tys).getD j (.uni .ro) = (ev C fr t (xs.getD j (.const undef))).2 ∧ (argsOf C fr xs tys).getD j .undef = lend fr (ev C fr t (xs.getD j (.const undef))) ∧ lendOk (ev C fr t (xs.getD j (.const undef))).2 = true) ∧
      (bs.getD j false = false → (shareMs C fr bs xs tys).getD j (.uni .ro) = .uni .ro)
  | [], xs, tys, _ => by simp [shareMs]
  | b :: bs, [], tys, _ => by simp [shareMs]
  | b :: bs, x :: xs, [], h => by simp [argsFine] at h
  | b :: bs, x :: xs, t :: tys, hf => by
    simp only [argsFine, Bool.and_eq_true] at hf
    obtain ⟨h1, h2⟩ := getD_shareMs C fr bs xs tys hf.2
    refine ⟨by simp [shareMs, h1], fun j hj => ?_⟩
    cases j with
    | zero => cases b <;> simp [shareMs, argsOf]; exact ⟨t, rfl, rfl, hf.1⟩
    | succ j =>
      simp only [shareMs, argsOf, List.getD_cons_succ]
      exact h2 j (by simpa [shareMs] using hj)
theorem length_shareMs (C : Tab) (fr : Fr) : ∀ (bs : List Bool) (xs : List Operand) (tys : List Nat), argsFine C fr xs tys = true → ∀ j, j < xs.length → bs.getD j false = true → j < (shareMs C fr bs xs tys).length
  | [], xs, tys, _, j, _, h => by simp at h
  | b :: bs, [], tys, _, j, h, _ => by simp at h
  | b :: bs, x :: xs, [], h, _, _, _ => by simp [argsFine] at h
  | b :: bs, x :: xs, t :: tys, hf, j, hj, hb => by
    simp only [argsFine, Bool.and_eq_true] at hf
    cases j with
    | zero => simp [shareMs]
    | succ j =>
      have := length_shareMs C fr bs xs tys hf.2 j (by simpa using hj) (by simpa using hb)
      simp [shareMs, this]

theorem allRo_frz {X : St} {m : Md} {v : Value} {a : AV} (h : RepM X m v a) (hm : allRo m) : FrzV X.C X.G X.w v a := by
  cases m with
  | uni o =>
    have : o = .ro := hm
    subst this
    rcases h with h | ⟨ho, vs, la, h1, h2, h3, h4⟩
    · exact .inr h
    · exact .inl ⟨vs, la, h1, h2, h3, h4⟩
  | cells l =>
    obtain ⟨vs, la, h1, h2, h3, h4, h5⟩ := h
    refine .inl ⟨vs, la, h1, h2, h3, fun j hj => ?_⟩
    have := h5 j (by omega)
    rw [hm j] at this
    exact this
  | _ => exact hm.elim

/-- The arguments that may be kept are frozen. -/
theorem shareArgs_spec (h : Inv C w0 Gin G gb fr ts w) (ok : Tab.Ok C P) {bs : List Bool} {xs : List Operand} {tys : List Nat} (hf : argsFine C fr xs tys = true) {fr1 : Fr} (hs : shareArgs C fr bs xs tys = some fr1) :
    ∃ G1, Inv C w0 Gin G1 gb fr1 ts w ∧ Less G fr G1 fr1 gb ts w ∧ ArgsOk C G1 w bs (xs.map ({ tmps := ts, defers := ds } : Act).eval) (argsOf C fr xs tys) := by
  obtain ⟨a1, a2⟩ := args_frz (ds := ds) h ok xs tys hf
  have hval : ∀ j, j < xs.length → (xs.map ({ tmps := ts, defers := ds } : Act).eval).getD j undef = ({ tmps := ts, defers := ds } : Act).eval (xs.getD j (.const undef)) := fun j hj => by
    simp [List.getD_eq_getElem?_getD, hj]
  unfold shareArgs at hs
  split at hs
  · simp only [Option.some.injEq] at hs
    subst hs
    refine ⟨G, h, Less.refl, by simp [a1], fun j hj => ⟨?_, by simp⟩⟩
    rw [a1] at hj
    rw [hval j hj]
    exact a2 j hj
  · split at hs
    case h_2 => simp at hs
    rename_i ms' fr2 hg
    simp only [Option.some.injEq] at hs
    subst hs
    obtain ⟨g1, g2⟩ := getD_shareMs C fr bs xs tys hf
    obtain ⟨G1, i1, l1, _, hall, _⟩ := givs_spec false (shareMs C fr bs xs tys) h (fun i => if bs.getD i false = true then ({ tmps := ts, defers := ds } : Act).eval (xs.getD i (.const undef)) else .bool false)
      (fun i => if bs.getD i false = true then (argsOf C fr xs tys).getD i .undef else .undef)
      (fun i hi => by
        obtain ⟨q1, q2⟩ := g2 i hi
        by_cases hb : bs.getD i false = true
        · obtain ⟨t, e1, e2, e3⟩ := q1 hb
          rw [if_pos hb, if_pos hb, e1, e2]
          have := (h.ev ok ds t (xs.getD i (.const undef))).1
          revert this
          generalize ({ tmps := ts, defers := ds } : Act).eval (xs.getD i (.const undef)) = v
          generalize ev C fr t (xs.getD i (.const undef)) = y
          intro this
          have hp := this.pend
          obtain ⟨a, m⟩ := y
          cases m with
          | adr o off =>
            cases o with
            | ro =>
              cases off with
              | zero => exact hp
              | succ n => trivial
            | _ => trivial
          | _ => first | exact hp | trivial
        · rw [if_neg hb, if_neg hb, q2 (by simpa using hb)]
          exact .inl (.inl (Frz.undef _ rfl)))
      (fun i hi => by
        obtain ⟨q1, q2⟩ := g2 i hi
        by_cases hb : bs.getD i false = true
        · obtain ⟨t, e1, e2, e3⟩ := q1 hb
          rw [if_pos hb, if_pos hb, e1, e2]
          have := ev_noblk C fr t (xs.getD i (.const undef)) ts ds
          revert this e3
          generalize ({ tmps := ts, defers := ds } : Act).eval (xs.getD i (.const undef)) = v
          generalize ev C fr t (xs.getD i (.const undef)) = y
          intro e3 this
          obtain ⟨a, m⟩ := y
          cases m with
          | uni o => exact this
          | cells l => exact this
          | tup l => simp [lendOk] at e3
          | _ => exact NoBlk.of_owns rfl _ _
        · rw [q2 (by simpa using hb)]
          exact NoBlk.of_owns rfl _ _) ms' fr2 hg
    refine ⟨G1, i1, l1, by simp [a1], fun j hj => ?_⟩
    rw [a1] at hj
    refine ⟨by rw [hval j hj]; exact a2 j hj, fun hb => ?_⟩
    have hjl := length_shareMs C fr bs xs tys hf j hj hb
    obtain ⟨r1, _, _, q2, _⟩ := hall j hjl
    rw [if_pos hb, if_pos hb] at r1
    rw [hval j hj]
    exact allRo_frz r1 (q2 rfl)
end

end Go.Dam

/- Calls, the steps. -/
namespace Go.Dam
open Go.RowKit
set_option linter.unusedVariables false
set_option linter.unusedSimpArgs false

section
variable {C : Tab} {P : Program} {w0 : World} {Gin G : Nat → Prop} {gb : Nat → Nat} {fr : Fr} {ts : Array Value} {w : World} {ds : List Deferred} {r : AV} {Q : Exit → Act → World → Prop}
variable {dst : Option Nat} {type : Nat} {pos : String} {after : Array Edge} {guard : Option (Nat × Bool)} {K : Fr → Option AV} {call : Nat → List AV → Option AV}

/-- The caller's frame in the world that a call has left. -/
theorem Inv.ret (h : Inv C w0 Gin G gb fr ts w) {w' : World} {G' : Nat → Prop} (hb : Below w.heap.size w w') (hG' : ∀ b, G' b → b < w'.heap.size ∧ (b < w.heap.size → G b)) :
    Inv C w0 Gin (fun b => G b ∨ G' b) gb fr ts w' ∧ fr.homes ts (bvOf w' gb) = fr.homes ts (bvOf w gb) := by
  have hbs : w0.heap.size ≤ w.heap.size := h.below.size
  obtain ⟨i1, hh⟩ := h.world (h.below.trans (hb.mono hbs)) hb.size (fun b hb' => hb.block b (h.gs b hb')) (fun d cs hd => hb.block _ (h.gb_lt hd)) fun p a v k hp hk => hb.block k ((h.own hp).lt k hk).2
  refine ⟨i1.moreG (fun _ h => .inl h) (fun b hb' => hb'.elim (i1.gs b) fun h => (hG' b h).1) (fun b hb' hlt => hb'.elim (fun h' => i1.gin b h' hlt) fun h' => i1.gin b ((hG' b h').2 (by omega)) hlt) (fun d cs hd hg => ?_) (fun p a v k hp hk hg => ?_), hh⟩
  · rcases hg with hg | hg
    · exact (h.boxes d cs hd).2.2 hg
    · exact (h.boxes d cs hd).2.2 ((hG' _ hg).2 (h.gb_lt hd))
  · rw [hh] at hp
    rcases hg with hg | hg
    · exact (h.ow p a v k hp hk).1 hg
    · exact (h.ow p a v k hp hk).1 ((hG' _ hg).2 ((h.own hp).lt k hk).2)

theorem tell_agg (l : List AV) : tell (cellN (.agg l)) 0 l.length = l := by
  refine list_ext_getD .undef (by rw [length_tell]) fun j hj => ?_
  rw [length_tell] at hj
  rw [getD_tell _ _ _ _ hj, Nat.zero_add]; rfl
theorem castT_eq {R : Type} (ok : Tab.Ok C P) {t : Nat} {a : AV} {K : AV → Option R} {r : R} (hag : aggOk C t a) (h : castT C t a K = some r) : K a = some r := by
  unfold castT at h
  split at h
  · rename_i ht
    obtain ⟨z, s, b, hi, hz, hk, hlk⟩ := tellK_some ok h
    obtain ⟨d, hd, hd', hag', hzl, hone⟩ := isAggT_of ok hi
    rw [hd'] at ht
    have ht := Option.some.inj ht
    simp only [valA, hag', ht] at hk
    obtain ⟨cs, hcs⟩ := hag (by rw [hd', ht])
    unfold cellsOf at hcs
    rw [hd', ht] at hcs
    simp only [sizeC, hi] at hcs
    split at hcs
    case h_2 => simp at hcs
    rename_i la
    split at hcs
    case isFalse => simp at hcs
    rename_i hll
    have e : (fun j => cellN (AV.agg la) (0 + j)) = cellN (.agg la) := by funext j; rw [Nat.zero_add]
    rw [e, ← hll, tell_agg] at hk
    exact hk
  · rename_i ht
    obtain ⟨z, s, b, hi, hz, hk, hlk⟩ := tellK_some ok h
    obtain ⟨d, hd, hd', hag', hzl, hone⟩ := isAggT_of ok hi
    rw [hd'] at ht
    have ht := Option.some.inj ht
    simp only [valA, hag', ht] at hk
    exact hk
  · simp at h
theorem castTs_eq {R : Type} (ok : Tab.Ok C P) (a : AV) : ∀ (tys : List Nat) (j : Nat) {K : List AV → Option R} {r : R}, (∀ i t, tys[i]? = some t → aggOk C t (compN a (j + i))) → castTs C a tys j K = some r → K (tell (compN a) j tys.length) = some r
  | [], j, K, r, _, h => h
  | t :: tys, j, K, r, hag, h => by
    simp only [castTs] at h
    have h := castT_eq ok (hag 0 t rfl) h
    exact castTs_eq ok a tys (j + 1) (fun i t' hi => by
      have := hag (i + 1) t' (by simpa using hi)
      rwa [show j + 1 + i = j + (i + 1) by omega]) h

theorem retMd_types (ro : Bool) {t : Nat} (hn : (match C.ty t with | some (.tuple es) => !(Nat.beq es.toList.length 1) | _ => true) = true) : retMd C ro (typesOf C t) = resMdT C ro t := by
  unfold typesOf resMdT
  split
  · rename_i es he
    rw [he] at hn
    simp only at hn
    have hne : es.toList.length ≠ 1 := by
      intro e
      rw [e] at hn; simp at hn
    unfold retMd
    generalize es.toList = l at hne
    split
    · simp at hne
    · rfl
  · rfl

theorem eqNats_eq : ∀ {l m : List Nat}, eqNats l m = true → l = m
  | [], [], _ => rfl
  | [], b :: m, h => by simp [eqNats] at h
  | a :: l, [], h => by simp [eqNats] at h
  | a :: l, b :: m, h => by
    simp only [eqNats, Bool.and_eq_true] at h
    rw [Nat.eq_of_beq_eq_true h.1, eqNats_eq h.2]

theorem homeS_tup {l : List Md} {a a' : AV} {v : Value} (h : ∀ c, c < l.length → compN a c = compN a' c) (c j : Nat) : homeS (.tup l) a v c j = homeS (.tup l) a' v c j := by
  simp only [homeS]
  rcases Nat.lt_or_ge c l.length with hc | hc
  · rw [h c hc]
  · rw [getD_over _ _ hc]
    have : (Md.uni Own.ro).home1 j = .ro := by simp [Md.home1]
    rw [this]; rfl

/-- A call's results, told again. -/
theorem resK_eq (ok : Tab.Ok C P) {G' : Nat → Prop} {base : Nat} {w' : World} {t f : Nat} {v : Value} {a : AV} {K : AV → Option AV} (hs : sameRes C f t = true) (hr : RetOk C (C.roF f) G' base w' (C.res f) v a) (h : resK C (some a) t K = some r) :
    ∃ a1, K a1 = some r ∧ RepM (st0 C G' base w') (resMdT C (C.roF f) t) v a1 ∧ selfMd (resMdT C (C.roF f) t) ∧
      ∀ c j x u k, homeS (resMdT C (C.roF f) t) a1 v c j = some (x, u) → u.ownBlock = some k → ¬ G' k ∧ ∀ c' j' x' u', homeS (resMdT C (C.roF f) t) a1 v c' j' = some (x', u') → u'.ownBlock = some k → c = c' ∧ j = j' := by
  simp only [sameRes, Bool.and_eq_true] at hs
  obtain ⟨h1, h2⟩ := hs
  have h1 := eqNats_eq h1
  have h3 := retMd_types (C.roF f) h2
  have hself := retMd_self (C := C) (C.roF f) (typesOf C t)
  obtain ⟨rep, sep, agg⟩ := hr
  rw [h1] at rep sep agg
  rw [h3] at rep sep hself
  unfold resK at h
  simp only at h
  split at h
  · rename_i es he
    have hty : typesOf C t = es.toList := by simp [typesOf, he]
    rw [hty] at agg
    have hne : es.toList.length ≠ 1 := by
      intro e
      rw [he] at h2
      simp only at h2
      rw [e] at h2; simp at h2
    have h := castTs_eq ok a es.toList 0 (fun i t' hi => by
      have := agg i t' hi
      rw [if_neg hne] at this
      rwa [Nat.zero_add]) h
    have hmd : resMdT C (C.roF f) t = .tup (resMd C (C.roF f) es.toList) := by simp [resMdT, he]
    rw [hmd] at rep sep hself ⊢
    have hcomp : ∀ c, c < (resMd C (C.roF f) es.toList).length → compN (AV.tup (tell (compN a) 0 es.toList.length)) c = compN a c := by
      intro c hc
      rw [length_resMd] at hc
      show (tell (compN a) 0 es.toList.length).getD c .undef = _
      rw [getD_tell _ _ _ _ hc, Nat.zero_add]
    refine ⟨_, h, ?_, hself, ?_⟩
    · obtain ⟨vs, la, rfl, rfl, q3, q4⟩ := rep
      refine ⟨vs, _, rfl, rfl, q3, fun c hc => ?_⟩
      rw [hcomp c hc]
      exact q4 c hc
    · intro c j x u k hx hk
      rw [homeS_tup hcomp] at hx
      obtain ⟨s1, s2⟩ := sep c j x u k hx hk
      refine ⟨s1, fun c' j' x' u' hx' hk' => ?_⟩
      rw [homeS_tup hcomp] at hx'
      exact s2 c' j' x' u' hx' hk'
  · rename_i hne
    have hty : typesOf C t = [t] := by
      unfold typesOf
      split
      · rename_i es he; exact absurd he (hne es)
      · rfl
    rw [hty] at agg
    have := agg 0 t rfl
    simp only [List.length_singleton, if_true] at this
    exact ⟨a, castT_eq ok this h, rep, hself, sep⟩

theorem StepRel.calls {G1 G' : Nat → Prop} {fr1 : Fr} (lss : Less G fr G1 fr1 gb ts w) (soft : Bool) {w' : World} (hb : Below w.heap.size w w') (hG' : ∀ b, G' b → b < w'.heap.size ∧ (b < w.heap.size → G1 b)) (hh : fr1.homes ts (bvOf w' gb) = fr1.homes ts (bvOf w gb)) :
    StepRel C G gb fr ts w (fun b => G1 b ∨ G' b) gb fr1 ts w' soft where
  size := hb.size
  home := fun p' T' l' v' k hp hk _ => by
    rw [hh] at hp
    exact ⟨p', l', v', lss.homes _ _ _ hp, hk, Nat.le_refl _⟩
  gs := fun b hb hlt => (lss.back b (hb.elim id fun h => (hG' b h).2 hlt)).imp id fun ⟨p, a, v, q1, q2, _⟩ => ⟨p, a, v, q1, q2⟩
  box := fun n cs' hn _ => by
    obtain ⟨c3, hc3⟩ := (lss.box n).1 ⟨cs', hn⟩
    exact ⟨n, c3, hc3, rfl⟩
  keep := fun _ b hlt => .inl (hb.block b hlt)
  far := fun b hlt => .inl (hb.block b hlt)

theorem CallOk.done (hc : CallOk C P w0 call) (ok : Tab.Ok C P) {G0 : Nat → Prop} {fr0 : Fr} (lss : Less G0 fr0 G fr gb ts w) (h : Inv C w0 Gin G gb fr ts w) {f : Nat} {vals : Array Value} {args : List AV} (ha : ArgsOk C G w (C.share f) vals.toList args) {o : Oper}
    (hrun : (execOp ({ tmps := ts, defers := ds } : Act).eval o).run P w = (callFunc f vals).run P w) (hs : sameRes C f o.type = true)
    (hk : (resK C (call f args) o.type fun a => K (fr.put o.dst (a, resMdT C (C.roF f) o.type))) = some r) : StepOk C P w0 Gin ds r Q G0 gb fr0 true ts w o K := by
  unfold StepOk Oper.wp
  rw [hrun]
  cases hcl : call f args with
  | none => rw [hcl] at hk; simp [resK] at hk
  | some a =>
    rw [hcl] at hk
    refine hc f args a hcl vals w G h.gs ha h.below o _ _ _ fun v w' hv => ?_
    obtain ⟨G', hb, hG', hret⟩ := hv
    obtain ⟨a1, hk1, rep, hself, sep⟩ := resK_eq ok hs hret hk
    obtain ⟨i2, hh2⟩ := h.ret hb hG'
    have hbs : w0.heap.size ≤ w.heap.size := h.below.size
    have hown : ∀ c j x u, homeS (resMdT C (C.roF f) o.type) a1 v c j = some (x, u) → ∀ k, u.ownBlock = some k → w.heap.size ≤ k := fun c j x u hx k hk => ((homeS_own rep hx).lt k hk).1
    refine ⟨_, gb, _, _, put_eta ts ds o.dst v, i2.put o.dst (x := (a1, resMdT C (C.roF f) o.type)) (rep.lift hself fun o' v' a' ho hr => ?_) (fun c j x u k hx hk => ?_) ds, hk1, (StepRel.calls lss true hb hG' hh2).put i2.size ds o.dst fun c j T l u k hx hk hlt => absurd hlt (Nat.not_lt.2 (hown c j _ u hx k hk)), fun d hd hn => getS_put_dead hd (lss.dead d hn), v, rfl⟩
    · rcases ho with rfl | rfl
      · exact Frz.mono (show Frz C G' w' _ _ from hr) (fun _ h => .inr h) fun _ _ => rfl
      · exact OwnR.mono (OwnR.lower (show OwnR C G' w.heap.size w' _ _ from hr) hbs) (fun _ h => .inr h) (fun _ _ => rfl) fun _ _ => rfl
    · obtain ⟨s1, s2⟩ := sep c j x u k hx hk
      have hk' := hown c j x u hx k hk
      refine ⟨fun hg => hg.elim (fun hg => ?_) s1, fun d cs hd => ?_, fun p a' u' hp hku => ?_, s2⟩
      · have := h.gs k hg; omega
      · have := h.gb_lt hd; omega
      · rw [hh2] at hp
        have := ((h.own hp).lt k hku).2; omega

theorem resK1_some {r0 : Option AV} {t : Nat} {K : AV → Option AV} (h : resK1 C r0 t K = some r) : ∃ u, r0 = some (.sc u) ∧ K (.sc u) = some r := by
  unfold resK1 at h
  split at h
  case h_2 => simp at h
  split at h
  · obtain ⟨n, rfl, h'⟩ := castI_some h; exact ⟨_, rfl, h'⟩
  · obtain ⟨n, rfl, h'⟩ := castB_some h; exact ⟨_, rfl, h'⟩
  · obtain ⟨n, rfl, h'⟩ := castS_some h; exact ⟨_, rfl, h'⟩
  · simp at h

/-- A call of a function value: its result is a number, a bool or a string. -/
theorem CallOk.done1 (hc : CallOk C P w0 call) (ok : Tab.Ok C P) {K : Fr → Option AV} (h : Inv C w0 Gin G gb fr ts w) {f : Nat} {vals : Array Value} {args : List AV} (ha : ArgsOk C G w (C.share f) vals.toList args) {o : Oper}
    (hrun : (execOp ({ tmps := ts, defers := ds } : Act).eval o).run P w = (callFunc f vals).run P w)
    (hk : (resK1 C (call f args) o.type fun a => K (fr.put o.dst (a, .uni .ro))) = some r) : StepOk C P w0 Gin ds r Q G gb fr true ts w o K := by
  unfold StepOk Oper.wp
  rw [hrun]
  obtain ⟨u, hcl, hk⟩ := resK1_some hk
  refine hc f args _ hcl vals w G h.gs ha h.below o _ _ _ fun v w' hv => ?_
  obtain ⟨G', hb, hG', hret⟩ := hv
  obtain ⟨i2, hh2⟩ := h.ret hb hG'
  have hv := hret.rep.sc
  have h1 := hret.rep.sc_one
  subst hv
  exact ⟨_, gb, _, _, put_eta ts ds o.dst v, i2.put o.dst (x := (.sc v, .uni .ro)) (sc_rep h1) (Fresh.of_owns rfl _ _) ds, hk, (StepRel.calls Less.refl true hb hG' hh2).put i2.size ds o.dst fun c j T l u k hx => by rw [homeS_owns rfl] at hx; simp at hx, fun d hd hn => getS_put_dead hd hn, v, rfl⟩

theorem noShare_get {bs : List Bool} (h : noShare bs = true) (j : Nat) : bs.getD j false = false := by
  rcases Nat.lt_or_ge j bs.length with hj | hj
  · have : bs.getD j false = bs[j] := by simp [hj]
    rw [this]
    simp only [noShare, List.all_eq_true, Bool.not_eq_true'] at h
    exact h _ (List.getElem_mem _)
  · simp [List.getD_eq_getElem?_getD, hj]

theorem ArgsOk.append {Gin' : Nat → Prop} {bs : List Bool} (hb : noShare bs = true) {vals caps : List Value} {args cs : List AV} (h1 : vals.length = args.length) (h2 : ∀ j, j < args.length → FrzV C (fun b => b < w.heap.size) w (vals.getD j undef) (args.getD j .undef))
    (h3 : caps.length = cs.length) (h4 : ∀ j, j < cs.length → FrzV C (fun b => b < w.heap.size) w (caps.getD j undef) (cs.getD j .undef)) : ArgsOk C Gin' w bs (vals ++ caps) (args ++ cs) := by
  refine ⟨by simp [h1, h3], fun j hj => ⟨?_, fun e => by rw [noShare_get hb j] at e; simp at e⟩⟩
  simp only [List.getD_eq_getElem?_getD]
  rcases Nat.lt_or_ge j args.length with hj' | hj'
  · have := h2 j hj'
    simp only [List.getD_eq_getElem?_getD] at this
    rwa [List.getElem?_append_left (by omega), List.getElem?_append_left hj']
  · have := h4 (j - args.length) (by simp at hj; omega)
    simp only [List.getD_eq_getElem?_getD] at this
    rw [List.getElem?_append_right (by omega), List.getElem?_append_right hj', h1]
    exact this

theorem st_callF (h : Inv C w0 Gin G gb fr ts w) (ok : Tab.Ok C P) (hc : CallOk C P w0 call) {f : Nat} {args : Array Operand} {tys : Array Nat}
    (hs : (if sameRes C f type && argsFine C fr args.toList tys.toList then (match shareArgs C fr (C.share f) args.toList tys.toList with
      | some fr1 => resK C (call f (argsOf C fr args.toList tys.toList)) type fun a => K (fr1.put dst (a, resMdT C (C.roF f) type))
      | none => none) else none) = some r) : StepOk C P w0 Gin ds r Q G gb fr true ts w ⟨dst, .call ⟨.value (.func f), args, tys⟩, type, pos, after, guard⟩ K := by
  split at hs
  case isFalse => simp at hs
  rename_i hcond
  simp only [Bool.and_eq_true] at hcond
  split at hs
  case h_2 => simp at hs
  rename_i fr1 hsh
  obtain ⟨G1, i1, l1, ha⟩ := shareArgs_spec (ds := ds) h ok hcond.2 hsh
  refine hc.done (o := ⟨dst, .call ⟨.value (.func f), args, tys⟩, type, pos, after, guard⟩) ok l1 i1 (vals := (args.map ({ tmps := ts, defers := ds } : Act).eval)) (by rw [Array.toList_map]; exact ha) ?_ hcond.1 hs
  simp [execOp, resolve, Deferred.ofValue, Act.eval, invoke]

theorem st_callV (h : Inv C w0 Gin G gb fr ts w) (ok : Tab.Ok C P) (hc : CallOk C P w0 call) {t : Nat} {args : Array Operand} {tys : Array Nat}
    (hs : (if argsFine C fr args.toList tys.toList then (match (ev C fr 0 (.tmp t)).2 with
      | .fn f caps => if sameRes C f type && noShare (C.share f) then resK C (call f (argsOf C fr args.toList tys.toList ++ caps.map (lendBox fr))) type fun a => K (fr.put dst (a, resMdT C (C.roF f) type)) else none
      | .uni _ => castFn (fr.getS t).1 fun f caps => resK1 C (call f (argsOf C fr args.toList tys.toList ++ caps)) type fun a => K (fr.put dst (a, .uni .ro))
      | _ => none) else none) = some r) : StepOk C P w0 Gin ds r Q G gb fr true ts w ⟨dst, .call ⟨.value (.tmp t), args, tys⟩, type, pos, after, guard⟩ K := by
  split at hs
  case isFalse => simp at hs
  rename_i hf
  obtain ⟨a1, a2⟩ := args_frz (ds := ds) h ok args.toList tys.toList hf
  obtain ⟨h1, _⟩ := h.ev ok ds 0 (.tmp t)
  have hvals : ∀ j, j < (argsOf C fr args.toList tys.toList).length → FrzV C (fun b => b < w.heap.size) w ((args.toList.map ({ tmps := ts, defers := ds } : Act).eval).getD j undef) ((argsOf C fr args.toList tys.toList).getD j .undef) := by
    intro j hj
    rw [a1] at hj
    have : (args.toList.map ({ tmps := ts, defers := ds } : Act).eval).getD j undef = ({ tmps := ts, defers := ds } : Act).eval (args.toList.getD j (.const undef)) := by
      simp only [List.getD_eq_getElem?_getD, List.getElem?_map]
      rw [List.getElem?_eq_getElem hj]; rfl
    rw [this]
    exact a2 j hj
  split at hs
  · rename_i f caps hm
    rw [hm] at h1
    obtain ⟨hv, hcp, _, hns⟩ := h1
    split at hs
    case isFalse => simp at hs
    rename_i hcond
    simp only [Bool.and_eq_true] at hcond
    refine hc.done (o := ⟨dst, .call ⟨.value (.tmp t), args, tys⟩, type, pos, after, guard⟩) ok Less.refl h (vals := (args.map ({ tmps := ts, defers := ds } : Act).eval) ++ (caps.map (capV (stOf C w0.heap.size G gb fr ts w))).toArray) ?_ ?_ hcond.1 hs
    · simp only [Array.toList_append, Array.toList_map]
      refine ArgsOk.append hcond.2 (by simp [a1]) hvals (by simp) fun j hj => ?_
      have hj' : j < caps.length := by simpa using hj
      obtain ⟨b, hb⟩ := hcp caps[j] (List.getElem_mem _)
      have e1 : (caps.map (capV (stOf C w0.heap.size G gb fr ts w))).getD j undef = .pointer (some ⟨b, caps[j].2, none⟩) := by
        simp [hj', capV, hb]
      have e2 : (caps.map (lendBox fr)).getD j .undef = lendBox fr (caps[j].1, caps[j].2) := by simp [hj']
      rw [e1, e2]
      exact .inr (lendBox_frz h hb)
    · simp [execOp, resolve, hv, Deferred.ofValue, invoke]
  · rename_i o hm
    rw [hm] at h1
    obtain ⟨f, caps, hfn, hs⟩ := castFn_some hs
    have e : (ev C fr 0 (.tmp t)).1 = .fn f caps := hfn
    rw [e] at h1
    rcases h1 with h1 | ⟨_, _, _, _, e', _⟩
    · have hfz := h.frzO h1
      generalize hgv : ({ tmps := ts, defers := ds } : Act).eval (.tmp t) = v at hfz
      cases hfz with
      | fn g cs vs hns hl hr =>
        refine hc.done1 (o := ⟨dst, .call ⟨.value (.tmp t), args, tys⟩, type, pos, after, guard⟩) ok h (vals := (args.map ({ tmps := ts, defers := ds } : Act).eval) ++ vs) ?_ ?_ hs
        · simp only [Array.toList_append, Array.toList_map]
          refine ArgsOk.append hns (by simp [a1]) hvals (by simpa using hl) fun j hj => ?_
          have := hr j hj
          refine .inr ?_
          have e3 : vs.toList.getD j undef = vs.getD j undef := by simp [List.getD_eq_getElem?_getD]
          rw [e3]; exact this
        · simp [execOp, resolve, hgv, Deferred.ofValue, invoke]
    · simp at e'
  · simp at hs
end

end Go.Dam
