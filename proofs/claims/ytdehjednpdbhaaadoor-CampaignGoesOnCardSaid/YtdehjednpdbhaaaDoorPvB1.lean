/- A part of an interpreter of the model's code that is proved sound, and of laws told by it: DamStep1, DamStep2, DamEq. -/
import Derived.Test.YtdehjednpdbhaaaDoorPvA6
import Derived.Laws.StructEq
import Derived.Laws.Slices
import Derived.Laws.Pointers
import Derived.Laws.Entries
import Derived.ChangeKeysEq
set_option linter.unusedVariables false
set_option linter.unusedSimpArgs false
/- Operations that read, one by one. -/
namespace Go.Dam
open Go.RowKit
set_option linter.unusedVariables false
set_option linter.unusedSimpArgs false

section
variable {C : Tab} {P : Program} {w0 : World} {Gin G : Nat → Prop} {gb : Nat → Nat} {fr : Fr} {ts : Array Value} {w : World} {ds : List Deferred} {r : AV} {Q : Exit → Act → World → Prop}
variable {dst : Option Nat} {type : Nat} {pos : String} {after : Array Edge} {guard : Option (Nat × Bool)} {K : Fr → Option AV}

theorem st_move (h : Inv C w0 Gin G gb fr ts w) (ok : Tab.Ok C P) {x : Operand} (hs : K (fr.put dst (ev C fr type x)) = some r) : StepQ C P w0 Gin ds r (fun _ => True) G gb fr ts w ⟨dst, .move x, type, pos, after, guard⟩ K := by
  obtain ⟨h1, h2⟩ := h.ev ok ds type x
  exact wp_value h (v := ({ tmps := ts, defers := ds } : Act).eval x) (by simp [execOp]) h1 (ev_noblk C fr type x ts ds) hs
theorem st_assign (h : Inv C w0 Gin G gb fr ts w) (ok : Tab.Ok C P) {x : Operand} {m : Md} {fr1 : Fr} (ht : take fr (ev C fr type x).2 = some (m, fr1)) (hs : K (fr1.put dst ((ev C fr type x).1, m)) = some r) :
    StepQ C P w0 Gin ds r (fun _ => True) G gb fr ts w ⟨dst, .assign x, type, pos, after, guard⟩ K := by
  obtain ⟨h1, h2⟩ := h.ev ok ds type x
  obtain ⟨i1, l1, r1, f1⟩ := h.take h1 (ev_noblk C fr type x ts ds) ht
  exact ⟨G, fr1, ((ev C fr type x).1, m), ({ tmps := ts, defers := ds } : Act).eval x, fun w' _ => by simp [execOp], i1, l1, r1, f1, h.take_from h1 (ev_noblk C fr type x ts ds) ht, hs⟩
theorem st_pick (h : Inv C w0 Gin G gb fr ts w) (ok : Tab.Ok C P) {c a b : Operand}
    (hs : (castB (ev C fr 0 c).1 fun t => match t with | true => K (fr.put dst (ev C fr 0 a)) | false => K (fr.put dst (ev C fr 0 b))) = some r) :
    StepQ C P w0 Gin ds r (fun _ => True) G gb fr ts w ⟨dst, .pick c a b, type, pos, after, guard⟩ K := by
  obtain ⟨t, ht, hs⟩ := castB_some hs
  have hc := (h.ev ok ds 0 c).1
  rw [ht] at hc
  have hc := hc.sc
  cases t with
  | true =>
    obtain ⟨h1, h2⟩ := h.ev ok ds 0 a
    exact wp_value h (v := ({ tmps := ts, defers := ds } : Act).eval a) (by simp [execOp, hc, asBool]) h1 (ev_noblk C fr 0 a ts ds) hs
  | false =>
    obtain ⟨h1, h2⟩ := h.ev ok ds 0 b
    exact wp_value h (v := ({ tmps := ts, defers := ds } : Act).eval b) (by simp [execOp, hc, asBool]) h1 (ev_noblk C fr 0 b ts ds) hs
theorem st_nilCheck (h : Inv C w0 Gin G gb fr ts w) (ok : Tab.Ok C P) {call : Nat → List AV → Option AV} {x : Operand} (hs : step C call ⟨dst, .nilCheck x, type, pos, after, guard⟩ fr K = some r) :
    StepQ C P w0 Gin ds r (fun _ => True) G gb fr ts w ⟨dst, .nilCheck x, type, pos, after, guard⟩ K := by
  obtain ⟨h1, h2⟩ := h.ev ok ds 0 x
  simp only [step] at hs
  split at hs
  · rename_i d off hm
    rw [hm] at h1
    obtain ⟨b, hb, hv, ha⟩ := h1
    exact wp_value h (x := (.undef, .loc d off)) (v := .pointer (some ⟨b, off, none⟩)) (by simp [execOp, hv]) ⟨b, hb, rfl, rfl⟩ (NoBlk.of_owns rfl _ _) hs
  · rename_i o hm
    obtain ⟨l, hl, hs⟩ := castRef_some hs
    rw [hm, hl] at h1
    rcases h1 with h1 | ⟨_, _, _, _, e, _⟩
    · obtain ⟨S, hf⟩ := h1.frz
      have : ∃ b k, ({ tmps := ts, defers := ds } : Act).eval x = .pointer (some ⟨b, k, none⟩) := by
        generalize ({ tmps := ts, defers := ds } : Act).eval x = v at hf
        cases hf; exact ⟨_, _, rfl⟩
      obtain ⟨b, k, hv⟩ := this
      rw [hv] at h1
      exact wp_value h (x := (.ref l, .adr o 0)) (v := .pointer (some ⟨b, k, none⟩)) (by simp [execOp, hv]) ⟨b, k, l, rfl, rfl, h1⟩ (NoBlk.of_owns rfl _ _) hs
    · simp at e
  · rename_i o off hm
    obtain ⟨l, hl, hs⟩ := castRef_some hs
    rw [hm, hl] at h1
    obtain ⟨b, k, la, hv, e, h1⟩ := h1
    cases e
    exact wp_value h (x := (.ref l, .adr o off)) (v := .pointer (some ⟨b, k + off, none⟩)) (by simp [execOp, hv]) ⟨b, k, l, rfl, rfl, h1⟩ (NoBlk.of_owns rfl _ _) hs
  · simp at hs
theorem st_extract (h : Inv C w0 Gin G gb fr ts w) (ok : Tab.Ok C P) {call : Nat → List AV → Option AV} {x : Operand} {j : Nat} (hs : step C call ⟨dst, .extract x j, type, pos, after, guard⟩ fr K = some r) :
    StepQ C P w0 Gin ds r (fun _ => True) G gb fr ts w ⟨dst, .extract x j, type, pos, after, guard⟩ K := by
  simp only [step] at hs
  split at hs
  case h_2 => simp at hs
  rename_i t
  obtain ⟨h1, h2⟩ := h.ev ok ds 0 (.tmp t)
  split at hs
  case h_2 => simp at hs
  rename_i l hm
  rw [hm] at h1
  obtain ⟨vs, la, hv, ha, hl, hr⟩ := h1
  have hno : (Md.tup l).owns = false := by rw [← hm]; exact owns_viewM _ _ _
  split at hs
  case h_2 => simp at hs
  rename_i m hm'
  have hj : j < l.length := (List.getElem?_eq_some_iff.1 hm').1
  have hj' : j < vs.size := by omega
  obtain ⟨u, hget⟩ : ∃ u, vs[j]? = some u := ⟨vs[j], by simp [hj']⟩
  have hu : vs.getD j undef = u := by simp [hget]
  have ha' : (fr.getS t).1 = .tup la := ha
  have h1 : l.getD j (.uni .ro) = m := by simp [List.getD_eq_getElem?_getD, hm']
  have hr' := hr j hj
  rw [ha, h1, hu] at hr'
  refine wp_value h (x := (compN (fr.getS t).1 j, m)) (v := u) (by simp [execOp, hv, Instr.extract, hget]) ?_ (NoBlk.of_owns ?_ _ _) hs
  · rw [ha']
    revert hr'
    cases m <;> first | exact fun h => h | exact fun h => h.elim
  · simp only [Md.owns, List.any_eq_false] at hno
    have := hno _ (List.mem_of_getElem? hm')
    cases m with
    | unk => rfl
    | uni o => show o.owns = false; simpa using this
    | cells l => show l.any Own.owns = false; simpa using this
    | _ => exact hr'.elim
end

end Go.Dam

/- Operations on numbers, bools, strings; parts of rows. -/
namespace Go.Dam
open Go.RowKit
set_option linter.unusedVariables false
set_option linter.unusedSimpArgs false

section
variable {C : Tab} {P : Program} {w0 : World} {Gin G : Nat → Prop} {gb : Nat → Nat} {fr : Fr} {ts : Array Value} {w : World} {ds : List Deferred} {r : AV} {Q : Exit → Act → World → Prop}
variable {dst : Option Nat} {type : Nat} {pos : String} {after : Array Edge} {guard : Option (Nat × Bool)} {K : Fr → Option AV} {call : Nat → List AV → Option AV}

/-- Of cells that are numbers, bools or strings. -/
def eqS : AV → AV → Bool
  | .sc (.int _ x), .sc (.int _ y) => x == y
  | .sc (.bool x), .sc (.bool y) => x == y
  | .sc (.string x), .sc (.string y) => x == y
  | _, _ => false
def eqA (f g : Nat → AV) : List AV → Nat → Bool
  | [], _ => true
  | _ :: z, j => eqS (f j) (g j) && eqA f g z (j + 1)
/-- How aggregates of numbers, bools and strings are compared. -/
def EqOk (C : Tab) (P : Program) : Prop := ∀ t z s b, C.info t = some (z, s, b) → aggC C t = true → C.cmp t = true → z.all isPlain = true → z.length = s → ∀ (op : BinOp) (x y : Operand) (xs ys : Array Value) (w : World), xs.size = s → ys.size = s →
  (∀ i, i < s → likeZ (z.getD i .undef) (.sc (xs.getD i undef)) ∧ likeZ (z.getD i .undef) (.sc (ys.getD i undef))) →
  ∀ v, eqv op (eqA (fun i => .sc (xs.getD i undef)) (fun i => .sc (ys.getD i undef)) z 0) = some v →
  (do eqGuard op t x y (.agg xs) (.agg ys); binOp op t (.agg xs) (.agg ys)).run P w = .ok v w
theorem ofLen {a : AV} {s : Nat} (h : aggLen a s = true) : ∃ la, a = .agg la ∧ la.length = s := by
  unfold aggLen at h
  split at h
  · exact ⟨_, rfl, by simpa using h⟩
  · simp at h

theorem ev_sc (h : Inv C w0 Gin G gb fr ts w) (ok : Tab.Ok C P) {t : Nat} {x : Operand} {v : Value} (hx : (ev C fr t x).1 = .sc v) : ({ tmps := ts, defers := ds } : Act).eval x = v := by
  have := (h.ev ok ds t x).1
  rw [hx] at this
  exact this.sc

theorem withV_some {R : Type} {o : Option Value} {K : Value → Option R} {r : R} (h : withV o K = some r) : ∃ v, o = some v ∧ K v = some r := by
  cases o with
  | none => simp [withV] at h
  | some v => exact ⟨v, rfl, h⟩

theorem wp_sc {o : Oper} {K : Fr → Option AV} (h : Inv C w0 Gin G gb fr ts w) {v : Value} (hv : v.oneCell' = true) (hrun : ∀ w, (execOp ({ tmps := ts, defers := ds } : Act).eval o).run P w = .ok (.value v) w)
    (hk : K (fr.put o.dst (.sc v, .uni .ro)) = some r) : StepQ C P w0 Gin ds r (fun _ => True) G gb fr ts w o K :=
  wp_value h hrun (sc_rep hv) (NoBlk.of_owns rfl _ _) hk
theorem run_binInt {op : BinOp} {k : IntKind} {a b : Int} {v : Value} (h : arith op k a b = some v) (t : Nat) (x y : Operand) :
    (do eqGuard op t x y (.int k a) (.int k b); binOp op t (.int k a) (.int k b)).run P w = .ok v w ∧ v.oneCell' = true := by
  cases op <;> simp [arith] at h <;> subst h <;> simp [eqGuard, binOp, Op.intArith, Op.intCmp, Op.intBits, Value.oneCell']
theorem run_binBool {op : BinOp} {a b : Bool} {v : Value} (h : eqv op (a == b) = some v) {t : Nat} (ht : P.underlying t = some .bool) (x y : Operand) :
    (do eqGuard op t x y (.bool a) (.bool b); binOp op t (.bool a) (.bool b)).run P w = .ok v w ∧ v.oneCell' = true := by
  cases op <;> simp [eqv] at h <;> subst h <;> simp [eqGuard, binOp, run_equal_bool _ _ _ _ ht, Value.oneCell']
theorem run_binString {op : BinOp} {a b : ByteArray} {v : Value} (h : eqv op (a == b) = some v) {t : Nat} (x y : Operand) :
    (do eqGuard op t x y (.string a) (.string b); binOp op t (.string a) (.string b)).run P w = .ok v w ∧ v.oneCell' = true := by
  cases op <;> simp [eqv] at h <;> subst h <;> simp [eqGuard, binOp, Op.stringOp, Value.oneCell', beq_toListBytes]
theorem intBin_some {R : Type} {op : BinOp} {k : IntKind} {a b : Int} {K : Value → Option R} {r : R} (h : intBin op k a b K = some r) :
    ∃ v, K v = some r ∧ ∀ (t : Nat) (x y : Operand) (w : World), (do eqGuard op t x y (.int k a) (.int k b); binOp op t (.int k a) (.int k b)).run P w = .ok v w ∧ v.oneCell' = true := by
  unfold intBin at h
  split at h
  · split at h
    · simp at h
    · rename_i hc
      have hb : ¬ b = 0 := by simpa using hc
      exact ⟨_, h, fun t x y w => ⟨by simp [eqGuard, binOp, Op.intDiv, hb], rfl⟩⟩
  · split at h
    · simp at h
    · rename_i hc
      have hb : ¬ b = 0 := by simpa using hc
      exact ⟨_, h, fun t x y w => ⟨by simp [eqGuard, binOp, Op.intDiv, hb], rfl⟩⟩
  · obtain ⟨v, hv, hk⟩ := withV_some h
    exact ⟨v, hk, fun t x y w => run_binInt hv t x y⟩
theorem shiftBin_some {R : Type} {op : BinOp} {k : IntKind} {a b : Int} {K : Value → Option R} {r : R} (h : shiftBin op k a b K = some r) :
    ∃ v, K v = some r ∧ ∀ (yk : IntKind) (t : Nat) (x y : Operand) (w : World), (do eqGuard op t x y (.int k a) (.int yk b); binOp op t (.int k a) (.int yk b)).run P w = .ok v w ∧ v.oneCell' = true := by
  unfold shiftBin at h
  split at h
  case h_2 => simp at h
  rename_i hc
  rw [Bool.and_eq_true, decide_eq_true_iff, decide_eq_true_iff] at hc
  split at h
  · exact ⟨_, h, fun yk t x y w => ⟨by simp [eqGuard, binOp, shift_shr k yk a b hc.1 hc.2], rfl⟩⟩
  · exact ⟨_, h, fun yk t x y w => ⟨by simp [eqGuard, binOp, shift_shl k yk a b hc.1 hc.2], rfl⟩⟩
  · simp at h
theorem castIx_some {R : Type} {a : AV} {K : Int → Option R} {r : R} (h : castIx a K = some r) : ∃ k n, a = .sc (.int k n) ∧ K n = some r := by
  unfold castIx at h
  split at h
  · exact ⟨_, _, rfl, h⟩
  · simp at h
theorem strBin_some {R : Type} {op : BinOp} {a b : ByteArray} {K : Value → Option R} {r : R} (h : strBin op a b K = some r) :
    ∃ v, K v = some r ∧ ∀ (t : Nat) (x y : Operand) (w : World), (do eqGuard op t x y (.string a) (.string b); binOp op t (.string a) (.string b)).run P w = .ok v w ∧ v.oneCell' = true := by
  unfold strBin at h
  split at h
  · exact ⟨_, h, fun t x y w => ⟨by simp [eqGuard, binOp, Op.stringOp, ltS, ByteArray.toList_eq], rfl⟩⟩
  · split at h
    · rename_i hc
      refine ⟨_, h, fun t x y w => ⟨?_, rfl⟩⟩
      have hc' : a.size + b.size ≤ 9223372036854775807 := by simpa using hc
      have : ¬ (((a.size + b.size : Nat) : Int) > IntKind.i64.max) := by
        show ¬ (((a.size + b.size : Nat) : Int) > 9223372036854775807)
        omega
      simp only [eqGuard_add, Sem.run_bind, Sem.run_pure, Result.andThen_ok, binOp, Op.stringOp, if_neg this]
    · simp at h
  · obtain ⟨v, hv, hk⟩ := withV_some h
    exact ⟨v, hk, fun t x y w => run_binString hv x y⟩
theorem run_binPtr {op : BinOp} {p : Option Addr} {v : Value} (h : eqv op p.isNone = some v) {t e : Nat} (ht : P.underlying t = some (.pointer e)) (x y : Operand) :
    (do eqGuard op t x y (.pointer p) (.pointer none); binOp op t (.pointer p) (.pointer none)).run P w = .ok v w ∧ v.oneCell' = true := by
  have ht' : P.underlying t = some (.pointer (P.pointee t)) := by simp [Program.pointee, ht]
  cases op <;> simp [eqv] at h <;> subst h <;> cases p <;> simp [eqGuard, binOp, run_equal_pointer_nil _ _ _ ht', Value.oneCell']

theorem run_binNil {op : BinOp} {v : Value} (h : eqv op true = some v) {t : Nat} {ms : Array (String × TypeId)} (ht : P.underlying t = some (.interface ms)) (x : Operand) :
    (do eqGuard op t x (.const .nilIface) .nilIface .nilIface; binOp op t .nilIface .nilIface).run P w = .ok v w ∧ v.oneCell' = true := by
  have ht' : P.underlying t = some (.interface (P.methodsAt t)) := by simp [Program.methodsAt, ht]
  cases op <;> simp [eqv] at h <;> subst h <;> simp [eqGuard_nil_constR, binOp, run_equal_nil_nil _ _ ht', Value.oneCell']
theorem run_binErr {op : BinOp} {v : Value} (h : eqv op false = some v) {t d : Nat} {z : Value} {ms : Array (String × TypeId)} (ht : P.underlying t = some (.interface ms)) (x : Operand) :
    (do eqGuard op t x (.const .nilIface) (.iface d z) .nilIface; binOp op t (.iface d z) .nilIface).run P w = .ok v w ∧ v.oneCell' = true := by
  have ht' : P.underlying t = some (.interface (P.methodsAt t)) := by simp [Program.methodsAt, ht]
  cases op <;> simp [eqv] at h <;> subst h <;> simp [eqGuard, binOp, run_equal_held_nil _ _ _ _ ht', Value.oneCell']
theorem RepM.er {X : St} {m : Md} {v : Value} (h : RepM X m v .er) : ∃ d z, v = .iface d z := by
  cases m with
  | unk => simp [RepM] at h
  | uni o =>
    rcases h with h | ⟨_, _, _, _, e, _⟩
    · obtain ⟨S, hf⟩ := RepO.frz h
      cases hf; exact ⟨_, _, rfl⟩
    · simp at e
  | cells l => obtain ⟨_, _, _, e, _⟩ := h; simp at e
  | tup l => obtain ⟨_, _, _, e, _⟩ := h; simp at e
  | adr o off => obtain ⟨_, _, _, _, e, _⟩ := h; simp at e
  | elem q i off => obtain ⟨_, _, _, _, _, _, _, _, _, _, _, _, e, _⟩ := h; simp at e
  | loc d off => obtain ⟨_, _, _, e⟩ := h; simp at e
  | fn g caps => obtain ⟨_, _, e, _⟩ := h; simp at e
  | mapAt d => obtain ⟨_, _, _, e⟩ := h; simp at e
theorem RepM.ref {X : St} {m : Md} {v : Value} {l : List AV} (h : RepM X m v (.ref l)) : ∃ b k, v = .pointer (some ⟨b, k, none⟩) := by
  cases m with
  | unk => simp [RepM] at h
  | uni o =>
    rcases h with h | ⟨_, _, _, _, e, _⟩
    · obtain ⟨S, hf⟩ := RepO.frz h
      cases hf; exact ⟨_, _, rfl⟩
    · simp at e
  | cells l => obtain ⟨_, _, _, e, _⟩ := h; simp at e
  | tup l => obtain ⟨_, _, _, e, _⟩ := h; simp at e
  | adr o off => obtain ⟨_, _, _, e, _⟩ := h; exact ⟨_, _, e⟩
  | elem q i off => obtain ⟨_, _, _, _, _, _, _, _, _, _, _, e, _⟩ := h; exact ⟨_, _, e⟩
  | loc d off => obtain ⟨_, _, _, e⟩ := h; simp at e
  | fn g caps => obtain ⟨_, _, e, _⟩ := h; simp at e
  | mapAt d => obtain ⟨_, _, _, e⟩ := h; simp at e

theorem castCellsSc {a : AV} {X : St} {m : Md} {v : Value} (h : RepM X m v a) {la : List AV} (ha : a = .agg la) : ∃ vs, v = .agg vs ∧ la.length = vs.size ∧ ∀ j, j < vs.size → ∃ o, RepO X o (vs.getD j undef) (cellN a j) := by
  subst ha
  cases m with
  | unk => simp [RepM] at h
  | uni o =>
    rcases h with h | ⟨_, vs, la', rfl, e, hl, h⟩
    · obtain ⟨S, hf⟩ := RepO.frz h
      cases hf
    · cases e; exact ⟨vs, rfl, hl, fun j hj => ⟨o, h j hj⟩⟩
  | cells l =>
    obtain ⟨vs, la', rfl, e, hl, hl', h⟩ := h
    cases e
    exact ⟨vs, rfl, hl, fun j hj => ⟨_, h j (hl' ▸ hj)⟩⟩
  | tup l => obtain ⟨_, _, _, e, _⟩ := h; simp at e
  | adr o off => obtain ⟨_, _, _, _, e, _⟩ := h; simp at e
  | elem q i off => obtain ⟨_, _, _, _, _, _, _, _, _, _, _, _, e, _⟩ := h; simp at e
  | loc d off => obtain ⟨_, _, _, e⟩ := h; simp at e
  | fn g caps => obtain ⟨_, _, e, _⟩ := h; simp at e
  | mapAt d => obtain ⟨_, _, _, e⟩ := h; simp at e

theorem st_unOp (h : Inv C w0 Gin G gb fr ts w) (ok : Tab.Ok C P) {op : UnOp} {t : Nat} {x : Operand} (hs : (avUn C op t (ev C fr t x).1 fun v => K (fr.put dst (.sc v, .uni .ro))) = some r) :
    StepQ C P w0 Gin ds r (fun _ => True) G gb fr ts w ⟨dst, .unOp op t x, type, pos, after, guard⟩ K := by
  unfold avUn at hs
  split at hs
  · obtain ⟨b, hb, hs⟩ := castB_some hs
    have hx := ev_sc (ds := ds) h ok hb
    split at hs
    · exact wp_sc h rfl (by simp [execOp, hx, Op.unary]) hs
    · simp at hs
  · obtain ⟨n, hn, hs⟩ := castI_some hs
    have hx := ev_sc (ds := ds) h ok hn
    split at hs
    · exact wp_sc h rfl (by simp [execOp, hx, Op.unary, Op.intArith]) hs
    · simp at hs
  · simp at hs

theorem st_convertI (h : Inv C w0 Gin G gb fr ts w) (ok : Tab.Ok C P) {s d : Nat} {x : Operand} {k' : IntKind} (h1 : C.ty s = some (.int k')) (hs : step C call ⟨dst, .convert s d x, type, pos, after, guard⟩ fr K = some r) :
    StepQ C P w0 Gin ds r (fun _ => True) G gb fr ts w ⟨dst, .convert s d x, type, pos, after, guard⟩ K := by
  simp only [step, h1] at hs
  split at hs
  · rename_i k1 k h1' h2
    cases h1'
    obtain ⟨n, hn, hs⟩ := castI_some hs
    have hx := ev_sc (ds := ds) h ok hn
    exact wp_sc h rfl (by simp [execOp, hx, convert, run_underlying (ok.ty _ _ h1), run_underlying (ok.ty _ _ h2), Conv.intToInt]) hs
  · rename_i h1' _; cases h1'
  · rename_i h1' _; cases h1'
  · simp at hs

theorem st_index (h : Inv C w0 Gin G gb fr ts w) (ok : Tab.Ok C P) {t : Nat} {x ix : Operand} (hs : step C call ⟨dst, .index t x ix, type, pos, after, guard⟩ fr K = some r) :
    StepQ C P w0 Gin ds r (fun _ => True) G gb fr ts w ⟨dst, .index t x ix, type, pos, after, guard⟩ K := by
  simp only [step] at hs
  split at hs
  case h_2 => simp at hs
  rename_i h1
  obtain ⟨s, hs1, hs⟩ := castS_some hs
  obtain ⟨n, hn, hs⟩ := castI_some hs
  have hx := ev_sc (ds := ds) h ok hs1
  have hi := ev_sc (ds := ds) h ok hn
  split at hs
  case isFalse => simp at hs
  rename_i h0
  split at hs
  case h_2 => simp at hs
  rename_i b hb
  exact wp_sc h rfl (by simp [execOp, hx, hi, Instr.index, asIntOf, run_underlying (ok.ty _ _ h1), h0, hb]) hs

theorem arr1 {α : Type} {a : Array α} {x : α} (h : a.toList = [x]) : a = #[x] := by
  apply Array.ext'; simpa using h
theorem arr2 {α : Type} {a : Array α} {x y : α} (h : a.toList = [x, y]) : a = #[x, y] := by
  apply Array.ext'; simpa using h

theorem st_len (h : Inv C w0 Gin G gb fr ts w) (ok : Tab.Ok C P) {t : Nat} {x : Operand}
    (hs : (match C.ty t with
      | some (.slice e) => castL e (ev C fr t x).1 fun l => K (fr.put dst (.sc (.int .i64 l.length), .uni .ro))
      | some .string => castS (ev C fr t x).1 fun s => K (fr.put dst (.sc (.int .i64 s.size), .uni .ro))
      | _ => none) = some r) :
    StepQ C P w0 Gin ds r (fun _ => True) G gb fr ts w ⟨dst, .call ⟨.builtin .len, #[x], #[t]⟩, type, pos, after, guard⟩ K := by
  split at hs
  · rename_i e he
    obtain ⟨l, hl, hs⟩ := castL_some hs
    have h1 := (h.ev ok ds t x).1
    rw [hl] at h1
    obtain ⟨A, cap, hv, _⟩ := h1.slice
    refine wp_sc h rfl ?_ hs
    simp [execOp, resolve, invoke, builtin, Builtin.len_, hv, goInt, run_underlying (ok.ty _ _ he)]
  · rename_i he
    obtain ⟨l, hl, hs⟩ := castS_some hs
    have hv := ev_sc (ds := ds) h ok hl
    refine wp_sc h rfl ?_ hs
    simp [execOp, resolve, invoke, builtin, Builtin.len_, hv, goInt, run_underlying (ok.ty _ _ he)]
  · simp at hs

theorem st_min (h : Inv C w0 Gin G gb fr ts w) (ok : Tab.Ok C P) {t u : Nat} {x y : Operand}
    (hs : (match C.ty t with
      | some (.int k) => castI k (ev C fr t x).1 fun a => castI k (ev C fr t y).1 fun b => K (fr.put dst (.sc (.int k (minI a b)), .uni .ro))
      | _ => none) = some r) :
    StepQ C P w0 Gin ds r (fun _ => True) G gb fr ts w ⟨dst, .call ⟨.builtin .min, #[x, y], #[t, u]⟩, type, pos, after, guard⟩ K := by
  split at hs
  · rename_i k he
    obtain ⟨a, ha, hs⟩ := castI_some hs
    obtain ⟨b, hb, hs⟩ := castI_some hs
    have hx := ev_sc (ds := ds) h ok ha
    have hy := ev_sc (ds := ds) h ok hb
    refine wp_sc h rfl ?_ hs
    simp [execOp, resolve, invoke, builtin, Builtin.min_, Builtin.min2, hx, hy, minI]
  · simp at hs
theorem st_max (h : Inv C w0 Gin G gb fr ts w) (ok : Tab.Ok C P) {t u : Nat} {x y : Operand}
    (hs : (match C.ty t with
      | some (.int k) => castI k (ev C fr t x).1 fun a => castI k (ev C fr t y).1 fun b => K (fr.put dst (.sc (.int k (maxI a b)), .uni .ro))
      | _ => none) = some r) :
    StepQ C P w0 Gin ds r (fun _ => True) G gb fr ts w ⟨dst, .call ⟨.builtin .max, #[x, y], #[t, u]⟩, type, pos, after, guard⟩ K := by
  split at hs
  · rename_i k he
    obtain ⟨a, ha, hs⟩ := castI_some hs
    obtain ⟨b, hb, hs⟩ := castI_some hs
    have hx := ev_sc (ds := ds) h ok ha
    have hy := ev_sc (ds := ds) h ok hb
    refine wp_sc h rfl ?_ hs
    simp [execOp, resolve, invoke, builtin, Builtin.max_, Builtin.max2, hx, hy, maxI]
  · simp at hs

theorem eqCells_some {R : Type} {a b : AV} : ∀ (z : List AV) (j : Nat) {K : Bool → Option R} {r : R}, eqCells a b z j K = some r →
    K (eqA (cellN a) (cellN b) z j) = some r ∧ ∀ i, i < z.length → isPlain (z.getD i .undef) = true ∧ likeZ (z.getD i .undef) (cellN a (j + i)) ∧ likeZ (z.getD i .undef) (cellN b (j + i)) := by
  intro z
  induction z with
  | nil => intro j K r h; exact ⟨h, by simp⟩
  | cons c z ih =>
    intro j K r h
    have key : ∀ {x y : AV} {e : Bool}, (eqCells a b z (j + 1) fun q => K (e && q)) = some r → cellN a j = x → cellN b j = y → eqS x y = e → isPlain c = true → likeZ c x → likeZ c y →
        K (eqA (cellN a) (cellN b) (c :: z) j) = some r ∧ ∀ i, i < (c :: z).length → isPlain ((c :: z).getD i .undef) = true ∧ likeZ ((c :: z).getD i .undef) (cellN a (j + i)) ∧ likeZ ((c :: z).getD i .undef) (cellN b (j + i)) := by
      intro x y e hk hx hy he hp hlx hly
      obtain ⟨h1, h2⟩ := ih (j + 1) hk
      refine ⟨by simp only [eqA, hx, hy, he]; exact h1, fun i hi => ?_⟩
      cases i with
      | zero => rw [List.getD_cons_zero, Nat.add_zero, hx, hy]; exact ⟨hp, hlx, hly⟩
      | succ i =>
        have := h2 i (by simpa using hi)
        rw [List.getD_cons_succ, show j + (i + 1) = j + 1 + i by omega]; exact this
    unfold eqCells at h
    split at h
    · simp_all
    · rename_i heq; cases heq
      obtain ⟨n, hn, h⟩ := castI_some h
      obtain ⟨m, hm, h⟩ := castI_some h
      exact key h hn hm rfl rfl ⟨n, rfl⟩ ⟨m, rfl⟩
    · rename_i heq; cases heq
      obtain ⟨n, hn, h⟩ := castB_some h
      obtain ⟨m, hm, h⟩ := castB_some h
      exact key h hn hm rfl rfl ⟨n, rfl⟩ ⟨m, rfl⟩
    · rename_i heq; cases heq
      obtain ⟨n, hn, h⟩ := castS_some h
      obtain ⟨m, hm, h⟩ := castS_some h
      exact key h hn hm rfl rfl ⟨n, rfl⟩ ⟨m, rfl⟩
    · simp at h

theorem eqv_one {op : BinOp} {b : Bool} {v : Value} (h : eqv op b = some v) : v.oneCell' = true := by
  cases op <;> simp [eqv] at h <;> subst h <;> rfl

theorem eqA_congr {f f' g g' : Nat → AV} : ∀ (z : List AV) (j : Nat), (∀ i, i < z.length → f (j + i) = f' (j + i) ∧ g (j + i) = g' (j + i)) → eqA f g z j = eqA f' g' z j
  | [], _, _ => rfl
  | c :: z, j, h => by
    obtain ⟨h1, h2⟩ := h 0 (by simp)
    rw [Nat.add_zero] at h1 h2
    simp only [eqA, h1, h2]
    rw [eqA_congr z (j + 1) fun i hi => by have := h (i + 1) (by simpa using hi); rwa [show j + (i + 1) = j + 1 + i by omega] at this]

theorem isSc_eq {a : AV} (h : isSc a = true) : ∃ v, a = .sc v := by cases a <;> simp_all [isSc]

theorem st_binAgg (h : Inv C w0 Gin G gb fr ts w) (ok : Tab.Ok C P) (eqok : EqOk C P) {op : BinOp} {t yt : Nat} {x y : Operand} {z : List AV} {s b : Nat} (hi : C.info t = some (z, s, b)) (hag : aggC C t = true) (hcmp : C.cmp t = true)
    (hla : ∃ la, (ev C fr t x).1 = .agg la ∧ la.length = s) (hlb : ∃ la, (ev C fr t y).1 = .agg la ∧ la.length = s)
    (hs : (eqCells (ev C fr t x).1 (ev C fr t y).1 z 0 fun b => withV (eqv op b) fun v => K (fr.put dst (.sc v, .uni .ro))) = some r) :
    StepQ C P w0 Gin ds r (fun _ => True) G gb fr ts w ⟨dst, .binOp op t x y yt, type, pos, after, guard⟩ K := by
  obtain ⟨hk, hz⟩ := eqCells_some z 0 hs
  obtain ⟨v, hv, hk⟩ := withV_some hk
  obtain ⟨d, hd, hd', _, hzl, _⟩ := isAggT_of ok hi
  obtain ⟨la, ha, hal⟩ := hla
  obtain ⟨lb, hb, hbl⟩ := hlb
  obtain ⟨xs, hx, hxl, hxr⟩ := castCellsSc (h.ev ok ds t x).1 ha
  obtain ⟨ys, hy, hyl, hyr⟩ := castCellsSc (h.ev ok ds t y).1 hb
  have hX : ∀ i, i < s → cellN (ev C fr t x).1 i = .sc (xs.getD i undef) := by
    intro i hil
    obtain ⟨hp, h1, _⟩ := hz i (by omega)
    rw [Nat.zero_add] at h1
    obtain ⟨u, hu⟩ := isSc_eq (h1.sc hp)
    obtain ⟨o, hr⟩ := hxr i (by omega)
    rw [hu] at hr ⊢
    rw [hr.sc]
  have hY : ∀ i, i < s → cellN (ev C fr t y).1 i = .sc (ys.getD i undef) := by
    intro i hil
    obtain ⟨hp, _, h1⟩ := hz i (by omega)
    rw [Nat.zero_add] at h1
    obtain ⟨u, hu⟩ := isSc_eq (h1.sc hp)
    obtain ⟨o, hr⟩ := hyr i (by omega)
    rw [hu] at hr ⊢
    rw [hr.sc]
  refine wp_sc h (eqv_one hv) ?_ hk
  intro w
  have hpl : z.all isPlain = true := by
    rw [List.all_eq_true]
    intro a ha
    obtain ⟨i, hi', rfl⟩ := List.getElem_of_mem ha
    have := (hz i hi').1
    simpa [List.getD_eq_getElem?_getD, hi'] using this
  have := eqok t z s b hi hag hcmp hpl hzl op x y xs ys w (by omega) (by omega) (fun i hil => by
    obtain ⟨hp, h1, h2⟩ := hz i (by omega)
    rw [Nat.zero_add, hX i hil] at h1
    rw [Nat.zero_add, hY i hil] at h2
    exact ⟨h1, h2⟩) v (by
    rw [← hv]
    congr 1
    exact (eqA_congr z 0 fun i hil => by rw [Nat.zero_add]; exact ⟨hX i (by omega), hY i (by omega)⟩).symm)
  simp only [execOp, hx, hy]
  rw [Sem.run_bind, this]
  rfl

theorem st_binOp (h : Inv C w0 Gin G gb fr ts w) (ok : Tab.Ok C P) (eqok : EqOk C P) {op : BinOp} {t yt : Nat} {x y : Operand} (hs : step C call ⟨dst, .binOp op t x y yt, type, pos, after, guard⟩ fr K = some r) :
    StepQ C P w0 Gin ds r (fun _ => True) G gb fr ts w ⟨dst, .binOp op t x y yt, type, pos, after, guard⟩ K := by
  simp only [step] at hs
  split at hs
  case h_1 => simp at hs
  rename_i herr
  unfold avBin at hs
  split at hs
  · rename_i k ht
    split at hs
    · obtain ⟨a, ha, hs⟩ := castI_some hs
      obtain ⟨yk, b, hb, hs⟩ := castIx_some hs
      obtain ⟨v, hs, hv⟩ := shiftBin_some (P := P) hs
      have hx := ev_sc (ds := ds) h ok ha
      have hy := ev_sc (ds := ds) h ok hb
      obtain ⟨_, h2⟩ := hv yk t x y w
      refine wp_sc h h2 ?_ hs
      intro w
      obtain ⟨h1, _⟩ := hv yk t x y w
      simp only [execOp, hx, hy]
      rw [Sem.run_bind, h1]; rfl
    · obtain ⟨a, ha, hs⟩ := castI_some hs
      obtain ⟨b, hb, hs⟩ := castI_some hs
      obtain ⟨v, hs, hv⟩ := intBin_some (P := P) hs
      have hx := ev_sc (ds := ds) h ok ha
      have hy := ev_sc (ds := ds) h ok hb
      obtain ⟨_, h2⟩ := hv t x y w
      refine wp_sc h h2 ?_ hs
      intro w
      obtain ⟨h1, _⟩ := hv t x y w
      simp only [execOp, hx, hy]
      rw [Sem.run_bind, h1]; rfl
  · rename_i ht
    obtain ⟨a, ha, hs⟩ := castB_some hs
    obtain ⟨b, hb, hs⟩ := castB_some hs
    obtain ⟨v, hv, hs⟩ := withV_some hs
    have hx := ev_sc (ds := ds) h ok ha
    have hy := ev_sc (ds := ds) h ok hb
    obtain ⟨_, h2⟩ := run_binBool (P := P) (w := w) hv (ok.ty _ _ ht) x y
    refine wp_sc h h2 ?_ hs
    intro w
    obtain ⟨h1, _⟩ := run_binBool (P := P) (w := w) hv (ok.ty _ _ ht) x y
    simp only [execOp, hx, hy]
    rw [Sem.run_bind, h1]; rfl
  · rename_i ht
    obtain ⟨a, ha, hs⟩ := castS_some hs
    obtain ⟨b, hb, hs⟩ := castS_some hs
    obtain ⟨v, hs, hv⟩ := strBin_some (P := P) hs
    have hx := ev_sc (ds := ds) h ok ha
    have hy := ev_sc (ds := ds) h ok hb
    obtain ⟨_, h2⟩ := hv t x y w
    refine wp_sc h h2 ?_ hs
    intro w
    obtain ⟨h1, _⟩ := hv t x y w
    simp only [execOp, hx, hy]
    rw [Sem.run_bind, h1]; rfl
  · rename_i e ht
    split at hs
    case h_2 => simp at hs
    rename_i hyv
    have hy := ev_sc (ds := ds) h ok hyv
    have key : ∃ p, ({ tmps := ts, defers := ds } : Act).eval x = .pointer p ∧ ∃ v, eqv op p.isNone = some v ∧ K (fr.put dst (.sc v, .uni .ro)) = some r := by
      rcases castNil_some hs with ⟨hx, hs⟩ | ⟨⟨l, hl⟩, hs⟩
      · obtain ⟨v, hv, hs⟩ := withV_some hs
        exact ⟨none, ev_sc (ds := ds) h ok hx, v, hv, hs⟩
      · obtain ⟨v, hv, hs⟩ := withV_some hs
        have := (h.ev ok ds t x).1
        rw [hl] at this
        obtain ⟨b, k, hb⟩ := this.ref
        exact ⟨_, hb, v, hv, hs⟩
    obtain ⟨p, hx, v, hv, hs⟩ := key
    obtain ⟨_, h2⟩ := run_binPtr (P := P) (w := w) hv (ok.ty _ _ ht) x y
    refine wp_sc h h2 ?_ hs
    intro w
    obtain ⟨h1, _⟩ := run_binPtr (P := P) (w := w) hv (ok.ty _ _ ht) x y
    simp only [execOp, hx, hy]
    rw [Sem.run_bind, h1]; rfl
  · rename_i ms ht
    split at hs
    case h_2 => simp at hs
    rename_i hyv
    have hy := ev_sc (ds := ds) h ok hyv
    have hty := ok.ty _ _ ht
    obtain ⟨c, rfl⟩ : ∃ c, y = .const c := by
      unfold errBad at herr
      rw [ht] at herr
      cases y <;> simp at herr
      exact ⟨_, rfl⟩
    have hyc : c = .nilIface := hy
    subst hyc
    have key : ∃ v, ∃ u, ({ tmps := ts, defers := ds } : Act).eval x = u ∧ (∀ w, (do eqGuard op t x (.const .nilIface) u .nilIface; binOp op t u .nilIface).run P w = .ok v w) ∧ v.oneCell' = true ∧ K (fr.put dst (.sc v, .uni .ro)) = some r := by
      rcases castErr_some hs with ⟨hx, hs⟩ | ⟨hx, hs⟩
      · obtain ⟨v, hv, hs⟩ := withV_some hs
        have h2 := run_binNil (P := P) (w := w) (ms := ms) hv hty x
        exact ⟨v, _, ev_sc (ds := ds) h ok hx, fun w => (run_binNil (w := w) hv hty x).1, h2.2, hs⟩
      · obtain ⟨v, hv, hs⟩ := withV_some hs
        have h1 := (h.ev ok ds t x).1
        rw [hx] at h1
        obtain ⟨d, z, hu⟩ := h1.er
        have h2 := run_binErr (P := P) (w := w) (ms := ms) (d := d) (z := z) hv hty x
        exact ⟨v, _, hu, fun w => (run_binErr (w := w) hv hty x).1, h2.2, hs⟩
    obtain ⟨v, u, hx, h1, h2, hs⟩ := key
    refine wp_sc h h2 ?_ hs
    intro w
    simp only [execOp, hx, hy]
    rw [Sem.run_bind, h1 w]; rfl
  · rename_i fs ht
    split at hs
    case h_2 => simp at hs
    rename_i z s b hi
    split at hs
    case isFalse => simp at hs
    rename_i hc
    simp only [Bool.and_eq_true] at hc
    exact st_binAgg h ok eqok hi (by simp [aggC, isAggT, ht, isAggD]) hc.2.2 (ofLen hc.1) (ofLen hc.2.1) hs
  · rename_i n e ht
    split at hs
    case h_2 => simp at hs
    rename_i z s b hi
    split at hs
    case isFalse => simp at hs
    rename_i hc
    simp only [Bool.and_eq_true] at hc
    exact st_binAgg h ok eqok hi (by simp [aggC, isAggT, ht, isAggD]) hc.2.2 (ofLen hc.1) (ofLen hc.2.1) hs
  · simp at hs
end

end Go.Dam

/- How aggregates of numbers, bools and strings are compared. -/
namespace Go.Dam
open Go.RowKit
set_option linter.unusedVariables false
set_option linter.unusedSimpArgs false

def basicOf (d : Option TypeDesc) (z : AV) : Bool := match d, z with
  | some (.int _), .sc (.int _ _) => true
  | some .bool, .sc (.bool _) => true
  | some .string, .sc (.string _) => true
  | _, _ => false
def eqFieldsOk (P : Program) : List Field → List AV → Nat → Bool
  | [], [], _ => true
  | f :: fs, z :: zs, j => f.name != "_" && f.offset == j && basicOf (P.underlying f.type) z && eqFieldsOk P fs zs (j + 1)
  | _, _, _ => false
def eqTypeOk (P : Program) (t : Nat) (z : List AV) : Bool := !P.stoodInHeld t && !P.eqGuardType P.depth t && match P.underlying t with
  | some (.struct fs) => eqFieldsOk P fs.toList z 0
  | some (.array n e) => z.length == n && (match P.info? e with | some i => i.size == 1 | none => false) && z.all (basicOf (P.underlying e))
  | _ => false

section
variable {C : Tab} {P : Program} {w : World}
theorem basic_run {e : Nat} {z : AV} (hb : basicOf (P.underlying e) z = true) {a b : Value} (ha : likeZ z (.sc a)) (hb' : likeZ z (.sc b)) (d : Nat) :
    (Op.equalIn (d + 1) e a b).run P w = .ok (eqS (.sc a) (.sc b)) w := by
  unfold basicOf at hb
  split at hb
  · rename_i k k' n hu
    obtain ⟨x, hx⟩ := ha
    obtain ⟨y, hy⟩ := hb'
    cases hx; cases hy
    rw [run_equalIn_int w d e _ _ _ _ hu]; rfl
  · rename_i n hu
    obtain ⟨x, hx⟩ := ha
    obtain ⟨y, hy⟩ := hb'
    cases hx; cases hy
    rw [run_equalIn_bool' w d e _ _ hu]; rfl
  · rename_i n hu
    obtain ⟨x, hx⟩ := ha
    obtain ⟨y, hy⟩ := hb'
    cases hx; cases hy
    rw [run_equalIn_string w d e _ _ hu, ← beq_toListBytes]; rfl
  · simp at hb
theorem basic_part {e : Nat} {z : AV} (hb : basicOf (P.underlying e) z = true) {xs : Array Value} {j : Nat} (hj : j < xs.size) : (part e xs j).run P w = .ok (xs.getD j undef) w := by
  have hx : xs[j]? = some (xs.getD j undef) := by simp [Array.getD, hj]
  refine run_part_plain w ?_ hx
  unfold basicOf at hb
  unfold Program.plainKey
  split at hb <;> first | (rename_i hu; rw [hu]; done) | (rename_i hu; simp [hu]; done) | (simp at hb; done)

theorem eqFields_ok {xs ys : Array Value} (d : Nat) : ∀ (fs : List Field) (z : List AV) (j : Nat), eqFieldsOk P fs z j = true → j + z.length = xs.size → j + z.length = ys.size →
    (∀ i, i < z.length → likeZ (z.getD i .undef) (.sc (xs.getD (j + i) undef)) ∧ likeZ (z.getD i .undef) (.sc (ys.getD (j + i) undef))) →
    (Op.eqFields (d + 1) xs ys fs).run P w = .ok (eqA (fun i => .sc (xs.getD i undef)) (fun i => .sc (ys.getD i undef)) z j) w
  | [], [], j, _, _, _, _ => by simp [Op.eqFields, eqA]
  | [], _ :: _, j, h, _, _, _ => by simp [eqFieldsOk] at h
  | _ :: _, [], j, h, _, _, _ => by simp [eqFieldsOk] at h
  | f :: fs, c :: z, j, h, hx, hy, hl => by
    simp only [eqFieldsOk, Bool.and_eq_true, bne_iff_ne, ne_eq, beq_iff_eq] at h
    obtain ⟨⟨⟨h1, h2⟩, h3⟩, h4⟩ := h
    have hl0 := hl 0 (by simp)
    simp only [List.getD_cons_zero, Nat.add_zero] at hl0
    have hlen : (c :: z).length = z.length + 1 := rfl
    have ih := eqFields_ok d fs z (j + 1) h4 (show j + 1 + z.length = xs.size by omega) (show j + 1 + z.length = ys.size by omega) fun i hi => by
      have := hl (i + 1) (by simpa using hi)
      simp only [List.getD_cons_succ] at this
      rwa [show j + (i + 1) = j + 1 + i by omega] at this
    simp only [Op.eqFields, h1, ne_eq, not_false_eq_true, if_true, Sem.run_bind, h2, basic_part h3 (show j < xs.size by omega), basic_part h3 (show j < ys.size by omega), Result.andThen_ok, basic_run h3 hl0.1 hl0.2, eqA]
    cases eqS (.sc (xs.getD j undef)) (.sc (ys.getD j undef))
    · simp
    · simpa using ih
theorem eqItems_ok {xs ys : Array Value} (d : Nat) {e : Nat} : ∀ (z : List AV) (j : Nat), z.all (basicOf (P.underlying e)) = true → j + z.length = xs.size → j + z.length = ys.size →
    (∀ i, i < z.length → likeZ (z.getD i .undef) (.sc (xs.getD (j + i) undef)) ∧ likeZ (z.getD i .undef) (.sc (ys.getD (j + i) undef))) →
    (Op.eqItems (d + 1) e 1 xs ys (List.range' j z.length)).run P w = .ok (eqA (fun i => .sc (xs.getD i undef)) (fun i => .sc (ys.getD i undef)) z j) w
  | [], j, _, _, _, _ => by simp [Op.eqItems, eqA]
  | c :: z, j, h, hx, hy, hl => by
    simp only [List.all_cons, Bool.and_eq_true] at h
    obtain ⟨h3, h4⟩ := h
    have hl0 := hl 0 (by simp)
    simp only [List.getD_cons_zero, Nat.add_zero] at hl0
    have hlen : (c :: z).length = z.length + 1 := rfl
    have ih := eqItems_ok d z (j + 1) h4 (show j + 1 + z.length = xs.size by omega) (show j + 1 + z.length = ys.size by omega) fun i hi => by
      have := hl (i + 1) (by simpa using hi)
      simp only [List.getD_cons_succ] at this
      rwa [show j + (i + 1) = j + 1 + i by omega] at this
    rw [hlen, List.range'_succ]
    simp only [Op.eqItems, Sem.run_bind, Nat.mul_one, basic_part h3 (show j < xs.size by omega), basic_part h3 (show j < ys.size by omega), Result.andThen_ok, basic_run h3 hl0.1 hl0.2, eqA]
    cases eqS (.sc (xs.getD j undef)) (.sc (ys.getD j undef))
    · simp
    · simpa using ih

theorem EqOk.of (h : ∀ t z s b, C.info t = some (z, s, b) → aggC C t = true → C.cmp t = true → z.all isPlain = true → eqTypeOk P t z = true) : EqOk C P := by
  intro t z s b hi hag hcmp hpl hzl op x y xs ys w hxs hys hl v hv
  have := h t z s b hi hag hcmp hpl
  unfold eqTypeOk at this
  simp only [Bool.and_eq_true, Bool.not_eq_true'] at this
  obtain ⟨⟨h1, h2⟩, h3⟩ := this
  have key : (Op.equalIn 10000 t (.agg xs) (.agg ys)).run P w = .ok (eqA (fun i => .sc (xs.getD i undef)) (fun i => .sc (ys.getD i undef)) z 0) w := by
    split at h3
    · rename_i fs hu
      have hS : P.underlying t = some (.struct (P.fieldsOf t)) := by simp [Program.fieldsOf, hu]
      rw [show (10000 : Nat) = 9998 + 1 + 1 from rfl, run_equalIn_agg w _ t xs ys hS h1]
      simp only [Program.fieldsOf, hu]
      exact eqFields_ok 9998 fs.toList z 0 h3 (by omega) (by omega) (by simpa using fun i hi => hl i (by omega))
    · rename_i n e hu
      simp only [Bool.and_eq_true, beq_iff_eq] at h3
      obtain ⟨⟨h4, h5⟩, h6⟩ := h3
      split at h5
      · rename_i i hie
        have hc : P.cellsOf e = 1 := by simpa [Program.cellsOf, hie] using h5
        rw [show (10000 : Nat) = 9998 + 1 + 1 from rfl, run_equalIn_array w _ xs ys hu hie, hc, List.range_eq_range', ← h4]
        exact eqItems_ok 9998 z 0 h6 (by omega) (by omega) (by simpa using fun i hi => hl i (by omega))
      · simp at h5
    · simp at h3
  rw [Sem.run_bind, run_eqGuard_agg w op t x y xs ys h2, Result.andThen_ok]
  cases op <;> simp only [eqv, Option.some.injEq, reduceCtorEq] at hv
  · subst hv
    rw [run_eql_struct, key, Result.andThen_ok]
  · subst hv
    rw [run_neq_struct, key, Result.andThen_ok]
end
end Go.Dam
