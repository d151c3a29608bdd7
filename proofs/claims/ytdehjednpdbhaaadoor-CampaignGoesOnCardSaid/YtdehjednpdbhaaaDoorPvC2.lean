/- A part of an interpreter of the model's code that is proved sound, and of laws told by it: DamStep15, DamAny, DamAlloc. -/
import Derived.Test.YtdehjednpdbhaaaDoorPvC0
import Derived.Test.YtdehjednpdbhaaaDoorPvB8
import Derived.OrdersHeld
set_option linter.unusedVariables false
set_option linter.unusedSimpArgs false
/- One operation, whichever it is. -/
namespace Go.Dam
open Go.RowKit
set_option linter.unusedVariables false
set_option linter.unusedSimpArgs false

section
variable {C : Tab} {P : Program} {w0 : World} {Gin G : Nat → Prop} {gb : Nat → Nat} {fr : Fr} {ts : Array Value} {w : World} {ds : List Deferred} {r : AV} {Q : Exit → Act → World → Prop}
variable {dst : Option Nat} {type : Nat} {pos : String} {after : Array Edge} {guard : Option (Nat × Bool)} {K : Fr → Option AV} {call : Nat → List AV → Option AV}

theorem hasCells_info {e : Nat} (h : hasCells C e = true) : ∃ z s b, C.info e = some (z, s, b) ∧ 0 < s := by
  unfold hasCells sizeC at h
  cases hi : C.info e with
  | none => simp [hi] at h
  | some i =>
    obtain ⟨z, s, b⟩ := i
    cases s with
    | zero => simp [hi] at h
    | succ s => exact ⟨z, s + 1, b, rfl, by omega⟩

theorem st_store (h : Inv C w0 Gin G gb fr ts w) (ok : Tab.Ok C P) {T : Nat} {x v : Operand} (hs : step C call ⟨dst, .store T x v, type, pos, after, guard⟩ fr K = some r) :
    StepOk C P w0 Gin ds r Q G gb fr false ts w ⟨dst, .store T x v, type, pos, after, guard⟩ K := by
  simp only [step] at hs
  split at hs
  · simp at hs
  rename_i hd
  have hd : dst = none := by cases dst <;> simp_all
  subst hd
  split at hs
  · simp at hs
  rename_i cs hcs
  split at hs
  · rename_i d off hx
    split at hs
    case h_2 => simp at hs
    rename_i m fr1 ht
    split at hs
    case h_2 => simp at hs
    rename_i b hb
    split at hs
    case isFalse => simp at hs
    rename_i hc
    exact st_storeLoc h ok hcs hx ht hb hc hs
  · rename_i p i off hx
    split at hs
    case h_2 => simp at hs
    rename_i m' fr1 hg
    split at hs
    case h_2 => simp at hs
    rename_i ho hsole
    obtain ⟨el, hel, hs⟩ := castRef_some hs
    split at hs
    case isFalse => simp at hs
    rename_i hle
    obtain ⟨e, l, hl, hs⟩ := castAny_some hs
    split at hs
    case isFalse => simp at hs
    rename_i hi
    split at hs
    case isFalse => simp at hs
    rename_i hok
    exact st_storeElem h ok hcs hx hg ho hsole hel hle hl hi hok hs
  · simp at hs

theorem st_call (h : Inv C w0 Gin G gb fr ts w) (ok : Tab.Ok C P) (hc : CallOk C P w0 call) {c : Call} (hs : step C call ⟨dst, .call c, type, pos, after, guard⟩ fr K = some r) :
    StepOk C P w0 Gin ds r Q G gb fr true ts w ⟨dst, .call c, type, pos, after, guard⟩ K ∧
      (quietOp (.call c) = true → StepQ C P w0 Gin ds r (fun _ => True) G gb fr ts w ⟨dst, .call c, type, pos, after, guard⟩ K) := by
  have key : ∀ {o : Oper}, StepQ C P w0 Gin ds r (fun _ => True) G gb fr ts w o K → StepOk C P w0 Gin ds r Q G gb fr true ts w o K ∧
      (quietOp (.call c) = true → StepQ C P w0 Gin ds r (fun _ => True) G gb fr ts w o K) := fun h => ⟨h.ok trivial true, fun _ => h⟩
  obtain ⟨callee, args, tys⟩ := c
  simp only [step] at hs
  split at hs
  · rename_i x t e2 e3
    have h2 := arr1 e2
    have h3 := arr1 e3
    subst h2 h3
    exact key (st_len h ok hs)
  · rename_i x y t u e2 e3
    have h2 := arr2 e2
    have h3 := arr2 e3
    subst h2 h3
    exact key (st_min h ok hs)
  · rename_i x y t u e2 e3
    have h2 := arr2 e2
    have h3 := arr2 e3
    subst h2 h3
    exact key (st_max h ok hs)
  · rename_i x y tx ty' e2 e3
    have h2 := arr2 e2
    have h3 := arr2 e3
    subst h2 h3
    split at hs
    case h_2 => simp at hs
    rename_i e e' hT hT'
    split at hs
    · simp at hs
    rename_i hcond
    simp only [Bool.not_eq_true', Bool.not_eq_false, Bool.and_eq_true] at hcond
    obtain ⟨⟨q1, q2⟩, q3⟩ := hcond
    have q1 := Nat.eq_of_beq_eq_true q1
    subst q1
    obtain ⟨z, s, b, hi, hs0⟩ := hasCells_info q2
    have hb0 : 0 < b := by
      unfold hasBytes at q3
      rw [hi] at q3
      simpa [Nat.blt_eq] using q3
    split at hs
    case h_2 => simp at hs
    rename_i fr1 z' s' bytes ht hi'
    rw [hi] at hi'; cases hi'
    split at hs
    case h_2 => simp at hs
    rename_i mm fr2 hy
    obtain ⟨l, hl, hs⟩ := castL_some hs
    obtain ⟨m, hm, hs⟩ := castL_some hs
    split at hs
    case isFalse => simp at hs
    rename_i hbd
    exact ⟨st_append h ok hT hi hs0 hb0 ht hy hl hm hbd hs, fun e => by simp [quietOp] at e⟩
  · exact ⟨st_callF h ok hc hs, fun e => by simp [quietOp] at e⟩
  · exact ⟨st_callV h ok hc hs, fun e => by simp [quietOp] at e⟩
  · simp at hs

/-- All that stands for something stays. -/
def softOp : Op → Bool
  | .store _ _ _ => false
  | .mapUpdate _ _ _ _ => false
  | _ => true
theorem StepQ.weak {S S' : World → Prop} {o : Oper} (h : StepQ C P w0 Gin ds r S G gb fr ts w o K) (hS : ∀ w, S' w → S w) : StepQ C P w0 Gin ds r S' G gb fr ts w o K := by
  obtain ⟨G1, fr1, x, v, hrun, h⟩ := h
  exact ⟨G1, fr1, x, v, fun w hw => hrun w (hS w hw), h⟩

/-- One operation, whichever it is; a quiet one yields the same wherever what stands for something is the same. -/
theorem step_ok (h : Inv C w0 Gin G gb fr ts w) (ok : Tab.Ok C P) (eqok : EqOk C P) (hc : CallOk C P w0 call) {Z : Nat → Prop} (hZ : FarZ w0 G gb fr ts w Z) {o : Oper} (hs : step C call o fr K = some r) :
    StepOk C P w0 Gin ds r Q G gb fr (softOp o.op) ts w o K ∧ (quietOp o.op = true → loadOk C fr o = true → StepQ C P w0 Gin ds r (fun w' => isLoad o.op = true → LiveEq C Z (fr.homes ts (bvOf w gb)) w w') G gb fr ts w o K) := by
  have key : ∀ {o : Oper}, softOp o.op = true → StepQ C P w0 Gin ds r (fun _ => True) G gb fr ts w o K → StepOk C P w0 Gin ds r Q G gb fr (softOp o.op) ts w o K ∧ (quietOp o.op = true → loadOk C fr o = true → StepQ C P w0 Gin ds r (fun w' => isLoad o.op = true → LiveEq C Z (fr.homes ts (bvOf w gb)) w w') G gb fr ts w o K) :=
    fun hp h => ⟨h.ok trivial _, fun _ _ => h.weak fun _ _ => trivial⟩
  obtain ⟨dst, op, type, pos, after, guard⟩ := o
  cases op with
  | move x => exact key rfl (st_move h ok hs)
  | assign x =>
    simp only [step] at hs
    split at hs
    case h_2 => simp at hs
    rename_i m fr1 ht
    exact key rfl (st_assign h ok ht hs)
  | pick c a b => exact key rfl (st_pick h ok hs)
  | alloc T => exact ⟨st_alloc h ok hs, fun e => by simp [quietOp] at e⟩
  | box T x => exact ⟨st_box h ok hs, fun e => by simp [quietOp] at e⟩
  | build T ps => exact key rfl (st_build h ok hs)
  | buildSlice T n ps => exact ⟨st_buildSlice h ok hs, fun e => by simp [quietOp] at e⟩
  | load T x =>
    refine ⟨(st_load h ok hs).ok rfl _, fun _ hl => ?_⟩
    refine load_stepQ h ok hZ (fun w' hw => .inr ⟨hw rfl, ?_⟩) hs
    simpa [loadOk] using hl
  | store T x v => exact ⟨st_store h ok hs, fun e => by simp [quietOp] at e⟩
  | nilCheck x => exact key rfl (st_nilCheck h ok hs)
  | binOp op t x y yt => exact key rfl (st_binOp h ok eqok hs)
  | unOp op t x => exact key rfl (st_unOp h ok hs)
  | convert s d x =>
    refine ⟨st_convert h ok hs, fun _ hl => ?_⟩
    have : ∃ k, C.ty s = some (.int k) := by
      simp only [loadOk] at hl
      split at hl
      · exact ⟨_, by assumption⟩
      · simp at hl
    obtain ⟨k, hk⟩ := this
    exact (st_convertI h ok hk hs).weak fun _ _ => trivial
  | makeFunc g first captured => exact key rfl (st_makeFunc h ok hs)
  | makeSlice T n m => exact ⟨st_makeSlice h ok hs, fun e => by simp [quietOp] at e⟩
  | slice T x lo hi mx => exact key rfl (st_slice h ok hs)
  | fieldAddr T x j => exact key rfl (st_fieldAddr h ok hs)
  | field T x j => exact key rfl (st_field h ok hs)
  | indexAddr T x ix =>
    simp only [step] at hs
    split at hs
    · rename_i e hT
      exact key rfl (st_indexSlice h ok hT hs)
    · rename_i len e hT
      exact key rfl (st_indexArr h ok hT hs)
    · simp at hs
  | index T x ix => exact key rfl (st_index h ok hs)
  | extract x j => exact key rfl (st_extract h ok hs)
  | call c =>
    obtain ⟨h1, h2⟩ := st_call (Q := Q) h ok hc hs
    exact ⟨h1, fun e _ => (h2 e).weak fun _ _ => trivial⟩
  | makeMap T n => exact ⟨st_makeMap h ok hs, fun e => by simp [quietOp] at e⟩
  | mapUpdate T m k v => exact ⟨st_mapUpdate h ok hs, fun e => by simp [quietOp] at e⟩
  | lookup T m k cok =>
    refine ⟨(st_lookup (S := fun w' => w' = w) h ok (fun d _ w' hw => by rw [hw]) hs).ok rfl _, fun _ _ => ?_⟩
    refine st_lookup h ok (fun d hd w' hw => ?_) hs
    obtain ⟨cs, hcs⟩ := hd
    exact live_same (hw rfl) (h.gb_lt hcs) (fun hz => (hZ _ hz).2 (.inr (.inl ⟨d, cs, hcs, rfl⟩))) fun p a v hp hk => (h.ow p a v _ hp hk).2 d cs hcs rfl
  | _ => simp [step] at hs
end

end Go.Dam

/- A region in whatever order, with a ghost beside the world: an operation that yields the same from here on may be taken first. -/
namespace Go.Dam
set_option linter.unusedVariables false

section
variable {P : Program} {ops : Array Oper} {Q : Exit → Act → World → Prop} {md : Region.Mode} {Γ : Type} {R : Γ → World → Γ → World → Prop} {D : Nat → Prop}

/-- Whatever order is picked from here on; behind each operation the ghost goes on by R, but behind those that D names. -/
def wpAnyG (P : Program) (md : Region.Mode) (ops : Array Oper) (Q : Exit → Act → World → Prop) (R : Γ → World → Γ → World → Prop) (D : Nat → Prop) : Nat → Array Bool → Γ → Act → World → Prop
  | 0, listed, _, a, w => Region.ready md ops listed = [] ∧ Q .normal a w
  | fuel + 1, listed, γ, a, w =>
    (Region.ready md ops listed = [] → Q .normal a w) ∧
    ∀ i ∈ Region.ready md ops listed, wpOp P ops Q i (fun a' w' => ∃ γ', R γ' w' γ' w' ∧ (D i ∨ R γ w γ' w') ∧ wpAnyG P md ops Q R D fuel (listed.setIfInBounds i true) γ' a' w') a w

theorem wpAny_of_G : ∀ (fuel : Nat) (listed : Array Bool) (γ : Γ) (a : Act) (w : World), wpAnyG P md ops Q R D fuel listed γ a w → wpAny P md ops Q fuel listed a w
  | 0, _, _, _, _, h => h
  | fuel + 1, _, γ, _, _, h => ⟨h.1, fun i hi => wpOp_mono (fun a' w' ⟨γ', _, _, h'⟩ => wpAny_of_G fuel _ γ' a' w' h') (h.2 i hi)⟩

theorem YieldsIf.weak {S S' : World → Prop} {o : Oper} {v : Value} {a : Act} (h : YieldsIf P ops S o v a) (hS : ∀ w, S' w → S w) : YieldsIf P ops S' o v a :=
  h.imp (fun ⟨h1, h2⟩ => ⟨h1, fun w hw => h2 w (hS w hw)⟩) id

/-- Operations that cannot come up before i has. -/
structure Behind (md : Region.Mode) (ops : Array Oper) (D : Nat → Prop) (i : Nat) (listed : Array Bool) (B : Nat → Prop) : Prop where
  un : ∀ k, B k → listed.getD k true = false
  pre : ∀ k, B k → k ≠ i → ∃ o, ops[k]? = some o ∧ ∃ e ∈ o.after, Region.binds md e = true ∧ B e.on
  hard : ∀ j, D j → listed.getD j true = false → B j
theorem getD_false_of {listed : Array Bool} {j : Nat} (h : listed.getD j true = false) : listed.getD j false = false := by
  rcases Nat.lt_or_ge j listed.size with h' | h'
  · simp [h'] at h ⊢; exact h
  · simp [Array.getElem?_eq_none h'] at h
theorem Behind.not_ready {i j : Nat} {listed : Array Bool} {B : Nat → Prop} (h : Behind md ops D i listed B) (hj : j ∈ Region.ready md ops listed) (hne : j ≠ i) : ¬ B j := by
  intro hb
  obtain ⟨o, ho, e, he, hbd, hB⟩ := h.pre j hb hne
  obtain ⟨_, o', ho', hall⟩ := mem_ready.1 hj
  rw [ho] at ho'; cases ho'
  have h1 := hall e he hbd
  rw [getD_false_of (h.un _ hB)] at h1
  simp at h1
theorem Behind.next {i j : Nat} {listed : Array Bool} {B : Nat → Prop} (h : Behind md ops D i listed B) (hj : j ∈ Region.ready md ops listed) (hne : j ≠ i) : Behind md ops D i (listed.setIfInBounds j true) B := by
  have hnb := h.not_ready hj hne
  refine ⟨fun k hk => ?_, h.pre, fun k hd hk => h.hard k hd ?_⟩
  · rw [getD_set_ne true (fun e => hnb (by rw [e]; exact hk))]
    exact h.un k hk
  · by_cases e : j = k
    · subst e; exact (mem_ready.1 hj).1
    · rwa [getD_set_ne true e] at hk

/-- What an operation will yield from here on. -/
def YieldsG (P : Program) (md : Region.Mode) (ops : Array Oper) (R : Γ → World → Γ → World → Prop) (D : Nat → Prop) (i : Nat) (o : Oper) (v : Value) (listed : Array Bool) (γ : Γ) (w : World) (a : Act) : Prop :=
  YieldsIf P ops (fun _ => True) o v a ∨ ((∃ B, Behind md ops D i listed B) ∧ YieldsIf P ops (fun w' => ∃ γ', R γ w γ' w') o v a)

theorem wpAnyG_first {i : Nat} {oi : Oper} {v : Value} (hi : ops[i]? = some oi) (hsel : ∀ (j : Nat) (o : Oper) cs b, ops[j]? = some o → o.op ≠ .select cs b)
    (hQ : ∀ c a w, Q (.panic c) (a.put oi.dst v) w → Q (.panic c) a w) (tr : ∀ γ w γ' w' γ'' w'', R γ w γ' w' → R γ' w' γ'' w'' → R γ w γ'' w'') :
    ∀ (fuel : Nat) (listed : Array Bool) (γ γ1 : Γ) (a : Act) (w : World),
      (∀ j oj, ops[j]? = some oj → j ≠ i → listed.getD j true = false → (∀ e ∈ oj.after, Region.binds md e = true → e.on ≠ i) → oi.apart ops oj = true) →
      i ∈ Region.ready md ops listed → R γ w γ w → R γ w γ1 w → R γ1 w γ1 w → YieldsG P md ops R D i oi v listed γ w a →
      wpAnyG P md ops Q R D fuel (listed.setIfInBounds i true) γ1 (a.put oi.dst v) w → wpAnyG P md ops Q R D (fuel + 1) listed γ a w := by
  have self : ∀ {listed : Array Bool} {γ : Γ} {a : Act} {w : World} {K : Act → World → Prop}, R γ w γ w → YieldsG P md ops R D i oi v listed γ w a → K (a.put oi.dst v) w → wpOp P ops Q i K a w := by
    intro listed γ a w K hr hy h
    rcases hy with hy | ⟨_, hy⟩
    · exact YieldsIf.wpOp hi hy trivial h
    · exact YieldsIf.wpOp hi hy ⟨γ, hr⟩ h
  intro fuel
  induction fuel with
  | zero =>
    intro listed γ γ1 a w _ hr hrf hr1 hrf1 hy H
    refine ⟨fun h => (by rw [h] at hr; cases hr), fun j hj => ?_⟩
    by_cases hji : j = i
    · subst hji; exact self hrf hy ⟨γ1, hrf1, .inr hr1, H⟩
    · have := ready_mono hj hji
      rw [H.1] at this
      cases this
  | succ fuel ih =>
    intro listed γ γ1 a w hfree hr hrf hr1 hrf1 hy H
    refine ⟨fun h => (by rw [h] at hr; cases hr), fun j hj => ?_⟩
    by_cases hji : j = i
    · subst hji; exact self hrf hy ⟨γ1, hrf1, .inr hr1, H⟩
    · have h1 := H.2 j (ready_mono hj hji)
      obtain ⟨hjun, oj, hoj, hall⟩ := mem_ready.1 hj
      have hnot : ∀ e ∈ oj.after, Region.binds md e = true → e.on ≠ i := fun e he hb heq => by
        have h1 := hall e he hb
        have h0 := (mem_ready.1 hr).1
        rw [heq, getD_false_of h0] at h1
        simp at h1
      have hfree' : ∀ k ok, ops[k]? = some ok → k ≠ i → (listed.setIfInBounds j true).getD k true = false →
          (∀ e ∈ ok.after, Region.binds md e = true → e.on ≠ i) → oi.apart ops ok = true := fun k ok hk hki hun hno => by
        refine hfree k ok hk hki ?_ hno
        by_cases hjk : j = k
        · subst hjk; exact hjun
        · rw [getD_set_ne true hjk] at hun; exact hun
      have go : ∀ {S : World → Prop}, YieldsIf P ops S oi v a → (∀ a' w' γ', (D j ∨ R γ1 w γ' w') → YieldsIf P ops S oi v a' → YieldsG P md ops R D i oi v (listed.setIfInBounds j true) γ' w' a' ∧ (D j ∨ R γ w γ' w')) →
          wpOp P ops Q j (fun a' w' => ∃ γ', R γ' w' γ' w' ∧ (D j ∨ R γ w γ' w') ∧ wpAnyG P md ops Q R D (fuel + 1) (listed.setIfInBounds j true) γ' a' w') a w := by
        intro S hy' hstep
        have h2 := wpOp_putIf hoj (hfree j oj hoj hji hjun hnot) (fun cs b => hsel i oi cs b hi) (fun cs b => hsel j oj cs b hoj) hQ hy' h1
        refine wpOp_mono (fun a' w' h3 => ?_) h2
        obtain ⟨h4, γ', h5, h6, h7⟩ := h3
        obtain ⟨h8, h9⟩ := hstep a' w' γ' h6 h4
        refine ⟨γ', h5, h9, ih (listed.setIfInBounds j true) γ' γ' a' w' hfree' (ready_mono hr (Ne.symm hji)) h5 h5 h5 h8 ?_⟩
        rw [Array.setIfInBounds_comm _ _ hji]
        exact h7
      rcases hy with hy | ⟨⟨B, hB⟩, hy⟩
      · exact go hy fun a' w' γ' h6 h4 => ⟨.inl h4, h6.imp id fun h => tr _ _ _ _ _ _ hr1 h⟩
      · refine go hy fun a' w' γ' h6 h4 => ?_
        have hnd : ¬ D j := fun hd => hB.not_ready hj hji (hB.hard j hd hjun)
        have hR : R γ w γ' w' := tr _ _ _ _ _ _ hr1 (h6.resolve_left hnd)
        exact ⟨.inr ⟨⟨B, hB.next hj hji⟩, YieldsIf.weak h4 fun w'' ⟨γ'', h⟩ => ⟨γ'', tr _ _ _ _ _ _ hR h⟩⟩, .inr hR⟩
end

end Go.Dam

/- New blocks that come up before their turn. -/
namespace Go.Dam
open Go.RowKit
set_option linter.unusedVariables false
set_option linter.unusedSimpArgs false

section
variable {C : Tab} {P : Program} {w0 : World} {Gin G : Nat → Prop} {gb : Nat → Nat} {fr : Fr} {ts : Array Value} {w : World} {ds : List Deferred} {r : AV} {Q : Exit → Act → World → Prop}
variable {K : Fr → Option AV} {call : Nat → List AV → Option AV}

/-- A new block, and the value that it yields, by its number. -/
def RunA (P : Program) (ts : Array Value) (ds : List Deferred) (o : Oper) (obj : Obj × (Nat → Value)) : Prop :=
  ∀ w, (execOp ({ tmps := ts, defers := ds } : Act).eval o).run P w = .ok (.value (obj.2 w.heap.size)) (w.alloc obj.1)
theorem RunA.inj {o : Oper} {x y : Obj × (Nat → Value)} (h : RunA P ts ds o x) (k : RunA P ts ds o y) (w : World) : x.1 = y.1 ∧ ∀ n, x.2 n = y.2 n := by
  have key : ∀ w : World, x.2 w.heap.size = y.2 w.heap.size ∧ w.alloc x.1 = w.alloc y.1 := fun w => by
    have := h w
    rw [k w] at this
    simp only [Result.ok.injEq, Next.value.injEq] at this
    exact ⟨this.1.symm, this.2.symm⟩
  refine ⟨?_, fun n => ?_⟩
  · have h1 : (w.alloc x.1).heap[w.heap.size]? = some x.1 := heap_alloc_new w x.1
    rw [(key w).2, heap_alloc_new w y.1] at h1
    exact (Option.some.inj h1).symm
  · have := (key { w with heap := Array.replicate n x.1 }).1
    simpa using this

theorem run_alloc_all (ok : Tab.Ok C P) {dst : Option Nat} {T type : Nat} {pos : String} {after : Array Edge} {guard : Option (Nat × Bool)} {z : List AV} {s b : Nat} (hi : C.info T = some (z, s, b)) :
    ∃ zv : Value, zv.cells = (z.map zval).toArray ∧ z.length = s ∧ (∀ a ∈ z, zcell a = true) ∧ RunA P ts ds ⟨dst, .alloc T, type, pos, after, guard⟩ (.cells zv.cells T, fun n => .pointer (some ⟨n, 0, none⟩)) := by
  obtain ⟨i, zv, e1, e2, e3, e4, e5, e6, e7, e8, e9⟩ := ok.info T z s b hi
  refine ⟨zv, e6, e5, e7, fun w => ?_⟩
  simp [execOp, Instr.alloc, zeroValue, run_typeInfo w e1, e4, newVar, newRow]

theorem set_self (ts : Array Value) {d : Nat} {v : Value} (h : ts.getD d undef = v) : ts.setIfInBounds d v = ts := by
  subst h
  apply Array.ext_getElem?
  intro i
  rw [Array.getElem?_setIfInBounds]
  split
  · rename_i hi'
    subst hi'
    split
    · rename_i hlt; simp [hlt]
    · rename_i hlt; rw [Array.getElem?_eq_none (by omega)]
  · rfl

/-- What stands once a block that came up before its turn has had it. -/
def Adopted (C : Tab) (w0 : World) (Gin : Nat → Prop) (r : AV) (K : Fr → Option AV) (G : Nat → Prop) (gb : Nat → Nat) (fr : Fr) (ts : Array Value) (w : World) (dst : Option Nat) (b : Nat) : Prop :=
  ∃ G' gb' fr', Inv C w0 Gin G' gb' fr' ts w ∧ K fr' = some r ∧ (∀ k, Foot G' gb' fr' ts w k → Foot G gb fr ts w k ∨ k = b) ∧
    (∀ p' T l' v' k, fr'.homes ts (bvOf w gb') p' = some (.sl T l', v') → v'.ownBlock = some k → k ≠ b → ∃ p l v, fr.homes ts (bvOf w gb) p = some (.sl T l, v) ∧ v.ownBlock = some k ∧ l.length ≤ l'.length) ∧
    ∀ d', dst ≠ some d' → fr.getS d' = none1 → fr'.getS d' = none1

theorem adopt_alloc (h : Inv C w0 Gin G gb fr ts w) (ok : Tab.Ok C P) {o : Oper} {T d : Nat} (ho : o.op = .alloc T) (hd : o.dst = some d) (hs : step C call o fr K = some r) {b : Nat} {obj : Obj × (Nat → Value)} (hrun : RunA P ts ds o obj) (hb : w.heap[b]? = some obj.1)
    (hge : w0.heap.size ≤ b) (hfree : ¬ Foot G gb fr ts w b) (hts : ts.getD d undef = obj.2 b) : Adopted C w0 Gin r K G gb fr ts w o.dst b := by
  obtain ⟨dst, op, type, pos, after, guard⟩ := o
  simp only at ho hd
  subst ho hd
  simp only [step] at hs
  split at hs
  case h_2 => simp at hs
  rename_i z s bb d' hi heq
  cases heq
  split at hs
  · simp at hs
  rename_i hbx
  obtain ⟨zv, e6, e5, e7, hrun2⟩ := run_alloc_all (ts := ts) (ds := ds) (P := P) (dst := some d) (type := type) (pos := pos) (after := after) (guard := guard) ok hi
  obtain ⟨x1, x2⟩ := hrun.inj hrun2 w
  rw [x1] at hb
  rw [x2 b] at hts
  have hzo : ∀ j, j < z.length → (zeroOwn z).getD j (.undef, .ro) = (z.getD j .undef, zOwn (z.getD j .undef)) ∧ zv.cells.getD j undef = zval (z.getD j .undef) := by
    intro j hj
    constructor
    · simp [zeroOwn, List.getD_eq_getElem?_getD, hj]
    · rw [e6]; simp [hj]
  have hmem : ∀ j, j < z.length → z.getD j .undef ∈ z := fun j hj => by
    have : z.getD j .undef = z[j] := by simp [hj]
    rw [this]; exact List.getElem_mem _
  have hlen : (zeroOwn z).length = z.length := by simp [zeroOwn]
  have hnb : ∀ j, j < (zeroOwn z).length → (zv.cells.getD j undef).ownBlock = none := fun j hj => by
    rw [hlen] at hj
    rw [(hzo j hj).2, (zcell_rep (w0 := w0) (G := G) (gb := gb) (fr := fr) (ts := ts) (w := w) ok hi (hmem j hj)).2]
  obtain ⟨i1, hnew⟩ := h.adoptBox (d := d) hbx (b := b) (cs := zeroOwn z) (c := zv.cells) (e := T) hb hge ⟨fun hg => hfree (.inl hg), fun n cs' hn e => hfree (.inr (.inl ⟨n, cs', hn, e⟩)), fun p a u hp hk => hfree (.inr (.inr ⟨p, a, u, hp, hk⟩))⟩
    (by rw [e6]; simp [zeroOwn]) (fun j hj => by
      rw [hlen] at hj
      obtain ⟨h1, h2⟩ := hzo j hj
      rw [h1, h2]
      exact (zcell_rep ok hi (hmem j hj)).1) (fun j k hj ho hk => by rw [hnb j hj] at hk; simp at hk) (fun j hj ho hk => by rw [hnb j hj] at hk; simp at hk)
  have i2 := i1.put (some d) (x := (.undef, .loc d 0)) (v := .pointer (some ⟨b, 0, none⟩)) ⟨b, bx_stOf.2 ⟨⟨_, by rw [box?_setBox, if_pos rfl]⟩, by simp [gbNew]⟩, rfl, rfl⟩ (Fresh.of_owns rfl _ _) ds
  have hself : (({ tmps := ts, defers := ds } : Act).put (some d) (.pointer (some ⟨b, 0, none⟩))).tmps = ts := set_self ts hts
  have hhome : ∀ p a u, ((fr.setBox d (zeroOwn z)).put (some d) (.undef, .loc d 0)).homes ts (bvOf w (gbNew gb d b)) p = some (a, u) → fr.homes ts (bvOf w gb) p = some (a, u) ∨ u.ownBlock = none := by
    intro p a u hp
    have hp' : ((fr.setBox d (zeroOwn z)).put (some d) (.undef, .loc d 0)).homes (({ tmps := ts, defers := ds } : Act).put (some d) (.pointer (some ⟨b, 0, none⟩))).tmps (bvOf w (gbNew gb d b)) p = some (a, u) := by rw [hself]; exact hp
    rcases homes_put i1.size hp' with hp | ⟨c, j, hp⟩
    · rcases hnew p a u hp with hp | ⟨i, q1, q2, q3, q4⟩
      · exact .inl hp
      · exact .inr (by rw [q4]; exact hnb i q1)
    · rw [homeS_owns rfl] at hp; simp at hp
  rw [hself] at i2
  refine ⟨G, gbNew gb d b, _, i2, hs, fun k hk => ?_, fun p' T' l' v' k hp hk hne => ?_, fun d' hd' hn => getS_put_dead hd' hn⟩
  · rcases hk with hk | ⟨n, cs, hn, e⟩ | ⟨p, a, v, hp, hv⟩
    · exact .inl (.inl hk)
    · obtain ⟨cs', hn⟩ := box?_put hn
      rw [box?_setBox] at hn
      unfold gbNew at e
      split at hn
      · rename_i e2; rw [if_pos e2] at e; exact .inr e.symm
      · rename_i e2; rw [if_neg e2] at e; exact .inl (.inr (.inl ⟨n, cs', hn, e⟩))
    · rcases hhome p a v hp with hp | hp
      · exact .inl (.inr (.inr ⟨p, a, v, hp, hv⟩))
      · rw [hp] at hv; simp at hv
  · rcases hhome p' _ _ hp with hp | hp
    · exact ⟨p', l', v', hp, hk, Nat.le_refl _⟩
    · rw [hp] at hk; simp at hk

theorem adopt_slice (h : Inv C w0 Gin G gb fr ts w) (ok : Tab.Ok C P) {o : Oper} {T n d : Nat} {ps : Array (Nat × Operand)} (ho : o.op = .buildSlice T n ps) (hd : o.dst = some d) (hs : step C call o fr K = some r) {b : Nat} {obj : Obj × (Nat → Value)} (hrun : RunA P ts ds o obj) (hb : w.heap[b]? = some obj.1)
    (hge : w0.heap.size ≤ b) (hfree : ¬ Foot G gb fr ts w b) (hts : ts.getD d undef = obj.2 b) : Adopted C w0 Gin r K G gb fr ts w o.dst b := by
  obtain ⟨e, cells, G1, fr1, L, hrun2, i1, l1, hk, hL, hrow⟩ := buildSlice_core (ds := ds) h ok ho hs
  have hrun3 : RunA P ts ds o (.cells cells e, fun b => .slice (some ⟨b, 0, none⟩) n n) := fun w => hrun2 w
  obtain ⟨x1, x2⟩ := hrun.inj hrun3 w
  rw [x1] at hb
  rw [x2 b] at hts
  have hfree1 : ¬ Foot G1 gb fr1 ts w b := by
    rintro (hg | ⟨n', cs, hn, e'⟩ | ⟨p, a, v, hp, hv⟩)
    · rcases l1.back b hg with hg | ⟨p, a, v, hp, hv, _⟩
      · exact hfree (.inl hg)
      · exact hfree (.inr (.inr ⟨p, a, v, hp, hv⟩))
    · obtain ⟨cs', hcs'⟩ := (l1.box n').1 ⟨cs, hn⟩
      exact hfree (.inr (.inl ⟨n', cs', hcs', e'⟩))
    · exact hfree (.inr (.inr ⟨p, a, v, l1.homes p a v hp, hv⟩))
  have hR := hrow w b hb hge fun _ _ => rfl
  have i2 := i1.put o.dst (x := (.sl e L, .uni .own)) (v := .slice (some ⟨b, 0, none⟩) n n) (.inl hR) (freshSl fun k hk => by
    simp only [Value.ownBlock, Option.some.injEq] at hk
    subst hk
    exact ⟨fun hg => hfree1 (.inl hg), fun d cs hd e => hfree1 (.inr (.inl ⟨d, cs, hd, e⟩)), fun p a u hp hk => hfree1 (.inr (.inr ⟨p, a, u, hp, hk⟩))⟩) ds
  have hself : (({ tmps := ts, defers := ds } : Act).put o.dst (.slice (some ⟨b, 0, none⟩) n n)).tmps = ts := by rw [hd]; exact set_self ts hts
  have hhome : ∀ p a u k, (fr1.put o.dst (.sl e L, .uni .own)).homes ts (bvOf w gb) p = some (a, u) → u.ownBlock = some k → fr.homes ts (bvOf w gb) p = some (a, u) ∨ k = b := by
    intro p a u k hp hk
    have hp' : (fr1.put o.dst (.sl e L, .uni .own)).homes (({ tmps := ts, defers := ds } : Act).put o.dst (.slice (some ⟨b, 0, none⟩) n n)).tmps (bvOf w gb) p = some (a, u) := by rw [hself]; exact hp
    rcases homes_put i1.size hp' with hp | ⟨c, j, hp⟩
    · exact .inl (l1.homes p a u hp)
    · simp only [homeS] at hp
      split at hp
      · obtain ⟨_, h2⟩ := own?_some hp
        simp only [Prod.mk.injEq, av1, val1] at h2
        rw [← h2.2] at hk
        simp only [Value.ownBlock, Option.some.injEq] at hk
        exact .inr hk.symm
      · simp at hp
  rw [hself] at i2
  refine ⟨G1, gb, _, i2, hk, fun k hk => ?_, fun p' T' l' v' k hp hk hne => ?_, fun d' hd' hn => getS_put_dead hd' (l1.dead d' hn)⟩
  · rcases hk with hk | ⟨n', cs, hn, e'⟩ | ⟨p, a, v, hp, hv⟩
    · rcases l1.back k hk with hg | ⟨p, a, v, hp, hv, _⟩
      · exact .inl (.inl hg)
      · exact .inl (.inr (.inr ⟨p, a, v, hp, hv⟩))
    · obtain ⟨cs', hn⟩ := box?_put hn
      obtain ⟨cs2, hcs2⟩ := (l1.box n').1 ⟨cs', hn⟩
      exact .inl (.inr (.inl ⟨n', cs2, hcs2, e'⟩))
    · rcases hhome p a v k hp hv with hp | hp
      · exact .inl (.inr (.inr ⟨p, a, v, hp, hv⟩))
      · exact .inr hp
  · rcases hhome p' _ _ k hp hk with hp | hp
    · exact ⟨p', l', v', hp, hk, Nat.le_refl _⟩
    · exact absurd hp hne

theorem makeSlice_core (h : Inv C w0 Gin G gb fr ts w) (ok : Tab.Ok C P) {dst : Option Nat} {T type : Nat} {n m : Operand} {pos : String} {after : Array Edge} {guard : Option (Nat × Bool)} {e : Nat} (hT : C.ty T = some (.slice e)) {a : Int}
    (ha : (ev C fr 0 n).1 = .sc (.int .i64 a)) (hb : (ev C fr 0 m).1 = .sc (.int .i64 a)) {z : List AV} {s bytes : Nat} {zv : AV} (hi : C.info e = some (z, s, bytes)) (hzv : zeroA C e = some zv) (hby : 0 < bytes) (h0 : 0 ≤ a) (hbd : a.toNat * bytes ≤ maxBytes) :
    ∃ cells, RunA P ts ds ⟨dst, .makeSlice T n m, type, pos, after, guard⟩ (.cells cells e, fun b => .slice (some ⟨b, 0, none⟩) a.toNat a.toNat) ∧
      ∀ (w2 : World) b, w0.heap.size ≤ b → w2.heap[b]? = some (.cells cells e) → OwnR C G w0.heap.size w2 (.slice (some ⟨b, 0, none⟩) a.toNat a.toNat) (.sl e (List.replicate a.toNat zv)) := by
  have hn := ev_sc (ds := ds) h ok ha
  have hm := ev_sc (ds := ds) h ok hb
  obtain ⟨i, zval', e1, e2, e3, e4, e5, e6, e7, e8, e9⟩ := ok.info e z s bytes hi
  obtain ⟨d, hd, hd', hag, hzl, hone⟩ := isAggT_of ok hi
  have han : a = ((a.toNat : Nat) : Int) := by omega
  have hle : a.toNat ≤ a.toNat * bytes := Nat.le_mul_of_pos_right _ hby
  have hmb : maxBytes = 140737488355328 := rfl
  rw [hmb] at hbd
  have hml : a.toNat ≤ maxLen := by simp only [maxLen]; omega
  have hsz : zval'.cells.size = s := by rw [e6]; simp [hzl]
  refine ⟨madeCells zval'.cells (a.toNat * s), fun w1 => ?_, fun w2 b hge hb2 => ?_⟩
  · have h63 : ((a.toNat : Nat) : Int) ≤ 9223372036854775807 := by simp [maxLen] at hml; omega
    have hb' : (i.bytes : Int) * (a.toNat : Int) ≤ 281474976710656 := by
      have h1 : ((i.bytes * a.toNat : Nat) : Int) ≤ 281474976710656 := by rw [e3, Nat.mul_comm]; omega
      rwa [Int.natCast_mul] at h1
    have hr := run_make (P := P) w1 T e i zval' (ok.ty _ _ hT) e1 e4 .i64 .i64 a.toNat a.toNat (by omega) (Int.le_refl _) hb' h63
    simp only [Int.toNat_natCast, e2] at hr
    simp only [execOp, hn, hm]
    rw [Sem.run_bind]
    conv => lhs; rw [han]
    rw [hr]
    rfl
  · have hel : ∀ j, j < s → elCell C e zv j = z.getD j .undef := by
      intro j hj
      unfold zeroA at hzv
      rw [hi, hd'] at hzv
      unfold elCell
      rw [hd']
      cases hag' : isAggD d with
      | true =>
        rw [hag'] at hzv
        simp only [Option.some.injEq] at hzv
        subst hzv
        rfl
      | false =>
        rw [hag'] at hzv
        have hs1 := hone hag'
        subst hs1
        have hj0 : j = 0 := by omega
        subst hj0
        cases z with
        | nil => simp at hzl
        | cons c z =>
          have : z = [] := by simpa using hzl
          subst this
          simp only [Option.some.injEq] at hzv
          subst hzv
          rfl
    have hmem : ∀ j, j < s → z.getD j .undef ∈ z := fun j hj => by
      have : z.getD j .undef = z[j]'(by omega) := by simp [hzl, hj]
      rw [this]; exact List.getElem_mem _
    have hrep : ∀ k, k < a.toNat → (List.replicate a.toNat zv).getD k .undef = zv := fun k hk => by simp [List.getD_eq_getElem?_getD, List.getElem?_replicate, hk]
    refine ⟨e, _, z, s, bytes, (madeCells zval'.cells (a.toNat * s)).toList, rfl, hi, ?_, fun k j hk hj hz => ?_, fun k j hk hj => ?_⟩
    · rw [List.length_replicate]
      refine ⟨by simp [size_madeCells], .inr ⟨b, a.toNat, _, (0, 0), rfl, hge, hb2, .inl rfl, Nat.le_refl _, hml, size_madeCells _ _, ?_⟩⟩
      rw [List.take_of_length_le (by simp [size_madeCells])]
    · rw [List.length_replicate] at hk
      rw [hrep k hk, hel j hj]
      revert hz
      cases z.getD j .undef <;> simp [isPlain, isSc]
    · rw [List.length_replicate] at hk
      rw [hrep k hk, hel j hj]
      refine ⟨zval (z.getD j .undef), ?_, zcell_frz ok hi (hmem j hj) _ _⟩
      have hlt : k * s + j < a.toNat * s := by
        have h1 : (k + 1) * s ≤ a.toNat * s := Nat.mul_le_mul_right _ (by omega)
        rw [Nat.add_mul] at h1; omega
      have hmod : (k * s + j) % s = j := by rw [Nat.mul_comm, Nat.mul_add_mod]; exact Nat.mod_eq_of_lt hj
      simp only [madeCells, Array.toList_map, Array.toList_range, List.getElem?_map, List.getElem?_range hlt, Option.map_some, Option.some.injEq]
      rw [hsz, hmod, e6]
      have hjz : j < z.length := by omega
      simp [hjz]

theorem adopt_make (h : Inv C w0 Gin G gb fr ts w) (ok : Tab.Ok C P) {o : Oper} {T d : Nat} {n m : Operand} (ho : o.op = .makeSlice T n m) (hd : o.dst = some d) (hs : step C call o fr K = some r) {b : Nat} {obj : Obj × (Nat → Value)} (hrun : RunA P ts ds o obj) (hb : w.heap[b]? = some obj.1)
    (hge : w0.heap.size ≤ b) (hfree : ¬ Foot G gb fr ts w b) (hts : ts.getD d undef = obj.2 b) : Adopted C w0 Gin r K G gb fr ts w o.dst b := by
  obtain ⟨dst, op, type, pos, after, guard⟩ := o
  simp only at ho hd
  subst ho hd
  simp only [step] at hs
  split at hs
  case h_2 => simp at hs
  rename_i e hT
  obtain ⟨a, ha, hs⟩ := castI_some hs
  obtain ⟨a', hb', hs⟩ := castI_some hs
  split at hs
  case h_2 => simp at hs
  rename_i z s bytes zv hi hzv
  split at hs
  case isFalse => simp at hs
  rename_i hby
  have hby : 0 < bytes := by simpa [Nat.blt_eq] using hby
  split at hs
  case isFalse => simp at hs
  rename_i hc
  obtain ⟨rfl, h0, hbd⟩ := hc
  obtain ⟨cells, hrun2, hown⟩ := makeSlice_core (ds := ds) (dst := some d) (type := type) (pos := pos) (after := after) (guard := guard) h ok hT ha hb' hi hzv hby h0 hbd
  obtain ⟨x1, x2⟩ := hrun.inj hrun2 w
  rw [x1] at hb
  rw [x2 b] at hts
  have hR := hown w b hge hb
  have i2 := h.put (some d) (x := (.sl e (List.replicate a.toNat zv), .uni .own)) (v := .slice (some ⟨b, 0, none⟩) a.toNat a.toNat) (.inl hR) (freshSl fun k hk => by
    simp only [Value.ownBlock, Option.some.injEq] at hk
    subst hk
    exact ⟨fun hg => hfree (.inl hg), fun d cs hd e => hfree (.inr (.inl ⟨d, cs, hd, e⟩)), fun p a u hp hk => hfree (.inr (.inr ⟨p, a, u, hp, hk⟩))⟩) ds
  have hself : (({ tmps := ts, defers := ds } : Act).put (some d) (.slice (some ⟨b, 0, none⟩) a.toNat a.toNat)).tmps = ts := set_self ts hts
  have hhome : ∀ p x u k, (fr.put (some d) (.sl e (List.replicate a.toNat zv), .uni .own)).homes ts (bvOf w gb) p = some (x, u) → u.ownBlock = some k → fr.homes ts (bvOf w gb) p = some (x, u) ∨ k = b := by
    intro p x u k hp hk
    have hp' : (fr.put (some d) (.sl e (List.replicate a.toNat zv), .uni .own)).homes (({ tmps := ts, defers := ds } : Act).put (some d) (.slice (some ⟨b, 0, none⟩) a.toNat a.toNat)).tmps (bvOf w gb) p = some (x, u) := by rw [hself]; exact hp
    rcases homes_put h.size hp' with hp | ⟨c, j, hp⟩
    · exact .inl hp
    · simp only [homeS] at hp
      split at hp
      · obtain ⟨_, h2⟩ := own?_some hp
        simp only [Prod.mk.injEq, av1, val1] at h2
        rw [← h2.2] at hk
        simp only [Value.ownBlock, Option.some.injEq] at hk
        exact .inr hk.symm
      · simp at hp
  rw [hself] at i2
  refine ⟨G, gb, _, i2, hs, fun k hk => ?_, fun p' T' l' v' k hp hk hne => ?_, fun d' hd' hn => getS_put_dead hd' hn⟩
  · rcases hk with hk | ⟨n', cs, hn, e'⟩ | ⟨p, a, v, hp, hv⟩
    · exact .inl (.inl hk)
    · obtain ⟨cs', hn⟩ := box?_put hn
      exact .inl (.inr (.inl ⟨n', cs', hn, e'⟩))
    · rcases hhome p a v k hp hv with hp | hp
      · exact .inl (.inr (.inr ⟨p, a, v, hp, hv⟩))
      · exact .inr hp
  · rcases hhome p' _ _ k hp hk with hp | hp
    · exact ⟨p', l', v', hp, hk, Nat.le_refl _⟩
    · exact absurd hp hne

theorem adopt (h : Inv C w0 Gin G gb fr ts w) (ok : Tab.Ok C P) {o : Oper} {d : Nat} (ha : isAlloc o.op = true) (hd : o.dst = some d) (hs : step C call o fr K = some r) {b : Nat} {obj : Obj × (Nat → Value)} (hrun : RunA P ts ds o obj) (hb : w.heap[b]? = some obj.1)
    (hge : w0.heap.size ≤ b) (hfree : ¬ Foot G gb fr ts w b) (hts : ts.getD d undef = obj.2 b) : Adopted C w0 Gin r K G gb fr ts w o.dst b := by
  cases ho : o.op with
  | alloc T => exact adopt_alloc h ok ho hd hs hrun hb hge hfree hts
  | buildSlice T n ps => exact adopt_slice h ok ho hd hs hrun hb hge hfree hts
  | makeSlice T n m => exact adopt_make h ok ho hd hs hrun hb hge hfree hts
  | _ => rw [ho] at ha; simp [isAlloc] at ha

/-- A block that may come up now can be made. -/
theorem preOk_run (h : Inv C w0 Gin G gb fr ts w) (ok : Tab.Ok C P) {o : Oper} (hp : preOk C fr o = true) : ∃ obj, RunA P ts ds o obj := by
  obtain ⟨dst, op, type, pos, after, guard⟩ := o
  unfold preOk at hp
  split at hp
  · rename_i T heq
    simp only at heq
    subst heq
    split at hp
    case h_2 => simp at hp
    rename_i i hi
    obtain ⟨z, s, b⟩ := i
    obtain ⟨zv, _, _, _, hrun⟩ := run_alloc_all (ts := ts) (ds := ds) (P := P) (dst := dst) (type := type) (pos := pos) (after := after) (guard := guard) ok hi
    exact ⟨_, hrun⟩
  · rename_i T n ps heq
    simp only at heq
    subst heq
    split at hp
    case h_2 => simp at hp
    rename_i e hT
    simp only [Bool.and_eq_true, List.all_eq_true, Bool.or_eq_true] at hp
    obtain ⟨⟨⟨⟨hord, hlen⟩, hcell⟩, hsmall⟩, hel⟩ := hp
    have hlen : ps.toList.length = n := by simpa using hlen
    obtain ⟨z, s, bb, hi, hs0⟩ := hasCells_info hcell
    have hsm : n * s ≤ 16777216 := by
      unfold smallRow sizeC at hsmall
      rw [hi] at hsmall
      exact Nat.le_of_ble_eq_true hsmall
    obtain ⟨d, hd, hd', hag, hzl, hone⟩ := isAggT_of ok hi
    obtain ⟨cells, hrun, _, _⟩ := run_buildSlice_all (ts := ts) (ds := ds) (P := P) ok hT hi hs0 hsm hlen fun k p hp => by
      refine ⟨by have := inOrder_spec ps.toList 0 hord k p hp; omega, ?_⟩
      obtain ⟨h1, h2⟩ := hel p (List.mem_of_getElem? hp)
      obtain ⟨cs, hcs, hpl⟩ := elemOk_cells h1 hi
      have hl := (elCell_of ok hi hcs hs0).1
      rcases h2 with hf | hc
      · obtain ⟨G1, z', s', b', hi', i1, l1, c1, c2, c3⟩ := giv_cells (ds := ds) h ok hcs (flatOk_of hi hzl hl hpl) (m' := .uni .ro) (fr1 := fr) (by simp [normM, hf, giv, givOs])
        rw [hi] at hi'; cases hi'
        exact c1
      · obtain ⟨c1, _⟩ := cells_rep ok hi (h.ev ok ds e p.2).1 hc hcs
        exact c1
    refine ⟨(.cells cells e, fun b => .slice (some ⟨b, 0, none⟩) n n), fun w => ?_⟩
    simp only [execOp]
    rw [Sem.run_bind, hrun w]
    rfl
  · rename_i T n m heq
    simp only at heq
    subst heq
    split at hp
    case h_2 => simp at hp
    rename_i e hT
    split at hp
    case h_2 => simp at hp
    rename_i b hk
    subst hp
    obtain ⟨a, ha, hk⟩ := castI_some hk
    obtain ⟨a', hb', hk⟩ := castI_some hk
    split at hk
    case h_2 => simp at hk
    rename_i z s bytes zv hi hzv
    split at hk
    case isFalse => simp at hk
    rename_i hby
    simp only [Option.some.injEq, decide_eq_true_eq] at hk
    obtain ⟨rfl, h0, hbd⟩ := hk
    obtain ⟨cells, hrun, _⟩ := makeSlice_core (ds := ds) (dst := dst) (type := type) (pos := pos) (after := after) (guard := guard) h ok hT ha hb' hi hzv (by simpa [Nat.blt_eq] using hby) h0 hbd
    exact ⟨_, hrun⟩
  · simp at hp
end

end Go.Dam
