/- A part of an interpreter of the model's code that is proved sound, and of laws told by it: DamX16, DamX17. -/
import Derived.Test.YtdhbhedfbdckaaaGreatDoorPuE7
import Derived.Test.YtdhbhedfbdckaaaGreatDoorPuD5
import Derived.Test.YtdhbhedfbdckaaaGreatDoorPuD6
import Derived.Test.YtdhbhedfbdckaaaGreatDoorChecked
import Derived.WalkKit
import Derived.WalkSpells
import Derived.LoopTactic
set_option linter.unusedVariables false
set_option linter.unusedSimpArgs false
/- JoinedText: what the machine does. -/
namespace Go.Proofs.YtdhbhedfbdckaaaGreatDoor
open Go.Dam Go.RowKit
set_option linter.unusedVariables false
set_option linter.unusedSimpArgs false
theorem ownsRow_mv {w w' : World} {base : Nat} {e : TypeId} {size n : Nat} {v : Value} {xs : List Value} (h : w.ownsRow base e size v n xs) (hw : ∀ k, v.ownBlock = some k → w'.heap[k]? = w.heap[k]?) : w'.ownsRow base e size v n xs := by
  obtain ⟨hl, h⟩ := h
  refine ⟨hl, ?_⟩
  rcases h with h | ⟨g, cap, cur, rfl, hb, hh, r⟩
  · exact .inl h
  · exact .inr ⟨g, cap, cur, rfl, hb, (hw g rfl).trans hh, r⟩
theorem hid {p : Prop} (h : p) : Hid p := h
theorem bd_below {T e : TypeId} {B b : Nat} {bs : List Value} {w w' : World} (h : Lib.IsBuilder T e B b bs w) (hb : Below w.heap.size w w') : Lib.IsBuilder T e B b bs w' := by
  have key : ∀ p, Lib.BuilderAt T e B b p bs w → Lib.BuilderAt T e B b p bs w' := fun p h => by
    obtain ⟨h1, v, h2, h3, h4⟩ := h
    have hlt : b < w.heap.size := (Array.getElem?_eq_some_iff.1 h2).1
    exact ⟨h1, v, (hb.block b hlt).trans h2, ownsRow_mv h3 (fun k hk => hb.block k (h3.lt k hk).2), h4⟩
  exact h.elim (fun h => .inl (key _ h)) (fun h => .inr (key _ h))
def tkV (t : Tk) : Value := .agg #[.int .i64 t.k, .string (sb t.s), .int .i64 t.a]
theorem frz_tk (S : Nat → Prop) (w : World) (t : Tk) : FrzV tab S w (tkV t) (tkA t) := by
  refine .inl ⟨_, _, rfl, rfl, rfl, fun j hj => ?_⟩
  have hj : j < 3 := hj
  match j, hj with
  | 0, _ => exact .sc _ rfl
  | 1, _ => exact .sc _ rfl
  | 2, _ => exact .sc _ rfl
set_option maxRecDepth 100000 in
theorem call18 (lang : Int) (t : Tk) (hl : t.s.length ≤ 20000) (w : World) (hlay : layF w) : Calls Tryz.prog 18 #[.int .i64 lang, tkV t] w fun e w' => e = .returned (.int .i64 (if lang = 0 ∨ lang = 1 then tkErr lang t else 4)) ∧ Below w.heap.size w w' := by
  have h := r18 (K := 100000) lang t (by omega) (by omega)
  obtain ⟨_, hc⟩ := run_calls tab_ok tab_ok2 tab_eq (fun w hw => tab_run 99999 w hw) (f := 18) rfl h #[.int .i64 lang, tkV t] w (fun _ => False) hlay (fun _ h => h.elim) ⟨rfl, fun j hj => by
    have hj : j < 2 := hj
    match j, hj with
    | 0, _ => exact ⟨.inr (.sc _ rfl), fun h => by cases h⟩
    | 1, _ => exact ⟨frz_tk _ _ _, fun h => by cases h⟩⟩
  refine hc.mono fun e w' he => ?_
  cases e with
  | returned v =>
    obtain ⟨G', hb, _, hr⟩ := he
    have := hr.rep
    rw [show tab.res 18 = [25] from rfl] at this
    exact ⟨by rw [RepM.sc this], hb⟩
  | _ => exact he.elim
set_option maxRecDepth 100000 in
theorem call41 (lang : Int) (t u : Tk) (hl : t.s.length ≤ 20000) (hl' : u.s.length ≤ 20000) (w : World) (hlay : layF w) : Calls Tryz.prog 41 #[.int .i64 lang, tkV t, tkV u] w fun e w' => e = .returned (.bool (togT lang t u)) ∧ Below w.heap.size w w' := by
  have h := r41 (K := 100000) lang t u (by omega) (by omega)
  obtain ⟨_, hc⟩ := run_calls tab_ok tab_ok2 tab_eq (fun w hw => tab_run 99999 w hw) (f := 41) rfl h #[.int .i64 lang, tkV t, tkV u] w (fun _ => False) hlay (fun _ h => h.elim) ⟨rfl, fun j hj => by
    have hj : j < 3 := hj
    match j, hj with
    | 0, _ => exact ⟨.inr (.sc _ rfl), fun h => by cases h⟩
    | 1, _ => exact ⟨frz_tk _ _ _, fun h => by cases h⟩
    | 2, _ => exact ⟨frz_tk _ _ _, fun h => by cases h⟩⟩
  refine hc.mono fun e w' he => ?_
  cases e with
  | returned v =>
    obtain ⟨G', hb, _, hr⟩ := he
    have := hr.rep
    rw [show tab.res 41 = [4] from rfl] at this
    exact ⟨by rw [RepM.sc this], hb⟩
  | _ => exact he.elim
theorem call18' {lang : Int} (hlang : lang = 0 ∨ lang = 1) (t : Tk) (hl : t.s.length ≤ 20000) (w : World) (hlay : layF w) : Calls Tryz.prog 18 #[.int .i64 lang, .agg #[.int .i64 t.k, .string (sb t.s), .int .i64 t.a]] w fun e w' => e = .returned (.int .i64 (tkErr lang t)) ∧ Below w.heap.size w w' := by
  have := call18 lang t hl w hlay
  rw [if_pos hlang] at this
  exact this
def tkD (ts : List Tk) (k : Nat) : Tk := ts.getD k ⟨0, [], 0⟩
theorem tkD_get (ts : List Tk) (k : Nat) (h : k < ts.length) : tkD ts k = ts[k] := by
  unfold tkD
  rw [List.getD_eq_getElem?_getD, List.getElem?_eq_getElem h]
  rfl
def jnA (lang : Int) (ts : List Tk) : Nat → List UInt8
  | 0 => []
  | k + 1 => (jnA lang ts k ++ (if k = 0 ∨ togT lang (tkD ts (k - 1)) (tkD ts k) = true then [] else [32])) ++ (tkD ts k).s
theorem jnA_eq (lang : Int) (ts : List Tk) : ∀ k, k ≤ ts.length → jnGo lang none ts = jnA lang ts k ++ jnGo lang (prevT ts k) (ts.drop k)
  | 0, _ => rfl
  | k + 1, h => by
    rw [jnA_eq lang ts k (by omega)]
    by_cases h0 : k = 0
    · subst h0
      rw [jn_step0 lang ts (by omega)]
      show [] ++ _ = (([] ++ (if (0 : Nat) = 0 ∨ togT lang (tkD ts (0 - 1)) (tkD ts 0) = true then [] else [32])) ++ (tkD ts 0).s) ++ _
      rw [if_pos (.inl rfl), tkD_get ts 0 (by omega), List.append_nil, List.append_assoc]
    · rw [jn_step lang ts k (by omega) (by omega)]
      conv => rhs; unfold jnA
      rw [tkD_get ts k (by omega), tkD_get ts (k - 1) (by omega)]
      have : (if k = 0 ∨ togT lang ts[k - 1] ts[k] = true then ([] : List UInt8) else [32]) = if togT lang ts[k - 1] ts[k] = true then [] else [32] := by simp [h0]
      rw [this, List.append_assoc, List.append_assoc]
theorem jnA_all (lang : Int) (ts : List Tk) : jnA lang ts ts.length = jnGo lang none ts := by
  have := jnA_eq lang ts ts.length (Nat.le_refl _)
  rw [List.drop_length] at this
  rw [this]
  cases prevT ts ts.length <;> simp [jnGo]
theorem jnA_len (lang : Int) (ts : List Tk) (hs : ∀ t ∈ ts, t.s.length ≤ 20000) : ∀ k, k ≤ ts.length → (jnA lang ts k).length ≤ k * 20001
  | 0, _ => Nat.zero_le _
  | k + 1, h => by
    have ih := jnA_len lang ts hs k (by omega)
    have h1 := hs ts[k] (List.getElem_mem (by omega))
    unfold jnA
    rw [List.length_append, List.length_append, tkD_get ts k (by omega), Nat.succ_mul]
    split
    · simp only [List.length_nil]; omega
    · simp only [List.length_cons, List.length_nil]; omega
theorem fst_at (lang : Int) : ∀ (ts : List Tk) (k : Nat) (h : k < ts.length), (∀ j (hj : j < ts.length), j < k → tkErr lang ts[j] = 0) → tkErr lang ts[k] ≠ 0 → fstErr lang ts = tkErr lang ts[k]
  | [], k, h, _, _ => by simp at h
  | t :: ts, 0, h, h1, h2 => by
    have h2 : tkErr lang t ≠ 0 := h2
    unfold fstErr
    rw [if_neg h2]
    rfl
  | t :: ts, k + 1, h, h1, h2 => by
    have h0 : tkErr lang t = 0 := h1 0 (by simp) (by omega)
    unfold fstErr
    rw [if_pos h0]
    exact fst_at lang ts k (by simpa using h) (fun j hj hjk => h1 (j + 1) (by simpa using hj) (by omega)) h2
theorem fst_none (lang : Int) : ∀ (ts : List Tk), (∀ j (hj : j < ts.length), tkErr lang ts[j] = 0) → fstErr lang ts = 0
  | [], _ => rfl
  | t :: ts, h => by
    have h0 : tkErr lang t = 0 := h 0 (by simp)
    unfold fstErr
    rw [if_pos h0]
    exact fst_none lang ts (fun j hj => h (j + 1) (by simpa using hj))
theorem fst_atD (lang : Int) (ts : List Tk) (k : Nat) (h : k < ts.length) (h1 : ∀ j, j < k → tkErr lang (tkD ts j) = 0) (h2 : tkErr lang (tkD ts k) ≠ 0) : fstErr lang ts = tkErr lang (tkD ts k) := by
  rw [tkD_get ts k h] at h2 ⊢
  exact fst_at lang ts k h (fun j hj hjk => by rw [← tkD_get ts j hj]; exact h1 j hjk) h2
theorem fst_noneD (lang : Int) (ts : List Tk) (h1 : ∀ j, j < ts.length → tkErr lang (tkD ts j) = 0) : fstErr lang ts = 0 :=
  fst_none lang ts (fun j hj => by rw [← tkD_get ts j hj]; exact h1 j hj)
theorem join_err {lang : Int} (hlang : lang = 0 ∨ lang = 1) {ts : List Tk} (h15 : ts.length ≤ 1500) {e : Int} (h : fstErr lang ts = e) (he : e ≠ 0) : joinT lang ts = ([], e) := by
  unfold joinT
  rw [if_pos hlang, if_neg (by omega), h, if_neg he]
theorem join_ok {lang : Int} (hlang : lang = 0 ∨ lang = 1) {ts : List Tk} (h15 : ts.length ≤ 1500) (h : fstErr lang ts = 0) : joinT lang ts = if 8000 < (jnA lang ts ts.length).length then ([], 2) else (jnA lang ts ts.length, 0) := by
  unfold joinT
  rw [if_pos hlang, if_neg (by omega), if_pos h, jnA_all]
def ops16 : Array Oper := #[{ dst := some 41, op := Op.move (Operand.tmp 10), type := 3, pos := "lexis.go:356", after := #[], guard := none }, { dst := some 42, op := Op.binOp BinOp.gtr 3 (Operand.tmp 41) (Operand.const (Value.int IntKind.i64 0)) 3, type := 4, pos := "lexis.go:356", after := #[{ on := 0, ground := Ground.data }], guard := none }, { dst := some 43, op := Op.move (Operand.tmp 42), type := 4, pos := "lexis.go:356", after := #[{ on := 1, ground := Ground.data }], guard := none }, { dst := some 44, op := Op.move (Operand.tmp 0), type := 3, pos := "lexis.go:356", after := #[{ on := 2, ground := Ground.guard }], guard := some (2, true) }, { dst := some 45, op := Op.move (Operand.tmp 1), type := 24, pos := "lexis.go:356", after := #[{ on := 2, ground := Ground.guard }], guard := some (2, true) }, { dst := some 46, op := Op.move (Operand.tmp 10), type := 3, pos := "lexis.go:356", after := #[{ on := 2, ground := Ground.guard }], guard := some (2, true) }, { dst := some 47, op := Op.binOp BinOp.sub 3 (Operand.tmp 46) (Operand.const (Value.int IntKind.i64 1)) 3, type := 3, pos := "lexis.go:356", after := #[{ on := 5, ground := Ground.data }, { on := 2, ground := Ground.guard }], guard := some (2, true) }, { dst := some 48, op := Op.indexAddr 24 (Operand.tmp 45) (Operand.tmp 47), type := 0, pos := "lexis.go:356", after := #[{ on := 4, ground := Ground.data }, { on := 6, ground := Ground.data }, { on := 2, ground := Ground.guard }], guard := some (2, true) }, { dst := some 49, op := Op.load 35 (Operand.tmp 48), type := 35, pos := "lexis.go:356", after := #[{ on := 7, ground := Ground.data }, { on := 2, ground := Ground.guard }], guard := some (2, true) }, { dst := some 50, op := Op.load 35 (Operand.tmp 11), type := 35, pos := "lexis.go:356", after := #[{ on := 2, ground := Ground.guard }], guard := some (2, true) }, { dst := some 51, op := Op.call { callee := Callee.value (Operand.func 41), args := #[Operand.tmp 44, Operand.tmp 49, Operand.tmp 50], argTypes := #[3, 35, 35] }, type := 4, pos := "lexis.go:356", after := #[{ on := 3, ground := Ground.data }, { on := 8, ground := Ground.data }, { on := 9, ground := Ground.data }, { on := 2, ground := Ground.chain }, { on := 2, ground := Ground.guard }], guard := some (2, true) }, { dst := some 52, op := Op.unOp UnOp.not 4 (Operand.tmp 51), type := 4, pos := "lexis.go:356", after := #[{ on := 10, ground := Ground.data }, { on := 2, ground := Ground.guard }], guard := some (2, true) }, { dst := some 53, op := Op.pick (Operand.tmp 43) (Operand.tmp 52) (Operand.const (Value.bool false)), type := 4, pos := "lexis.go:356", after := #[{ on := 2, ground := Ground.data }, { on := 11, ground := Ground.data }], guard := none }]
end Go.Proofs.YtdhbhedfbdckaaaGreatDoor

/- JoinedText: a drawn region, in whatever order. -/
namespace Go.Proofs.YtdhbhedfbdckaaaGreatDoor
open Go.Dam Go.RowKit
set_option linter.unusedVariables false
set_option linter.unusedSimpArgs false
theorem act_eq {R : Act → World → Prop} {a b : Act} {w : World} (h : R b w) (e : a = b) : R a w := e ▸ h
def nrm (R : Act → World → Prop) : Exit → Act → World → Prop
  | .normal, a, w => R a w
  | _, _, _ => False
set_option maxHeartbeats 40000000 in
set_option maxRecDepth 100000 in
theorem reg16z (L : Int) (bk o n c b11 : Nat) (W : World) (u2 u3 u4 u5 u6 u7 u8 u9 u12 u13 u14 u15 u16 u17 u18 u19 u20 u21 u22 u23 u24 u25 u26 u27 u28 u29 u30 u31 u32 u33 u34 u35 u36 u37 u38 u39 u40 u41 u42 u43 u44 u45 u46 u47 u48 u49 u50 u51 u52 u53 u54 u55 u56 u57 u58 u59 u60 u61 : Value)
    (R : Act → World → Prop) (ds : List Deferred) (hQ : ∀ v41 v42 v43 v44 v45 v46 v47 v48 v49 v50 v51 v52 W', Below W.heap.size W W' → R { tmps := #[.int .i64 L, .slice (some ⟨bk, o, none⟩) n c, u2, u3, u4, u5, u6, u7, u8, u9, .int .i64 0, .pointer (some ⟨b11, 0, none⟩), u12, u13, u14, u15, u16, u17, u18, u19, u20, u21, u22, u23, u24, u25, u26, u27, u28, u29, u30, u31, u32, u33, u34, u35, u36, u37, u38, u39, u40, v41, v42, v43, v44, v45, v46, v47, v48, v49, v50, v51, v52, .bool false, u54, u55, u56, u57, u58, u59, u60, u61], defers := ds } W') :
    Code.wp Tryz.prog (.region 16 ops16 true) (nrm R) { tmps := #[.int .i64 L, .slice (some ⟨bk, o, none⟩) n c, u2, u3, u4, u5, u6, u7, u8, u9, .int .i64 0, .pointer (some ⟨b11, 0, none⟩), u12, u13, u14, u15, u16, u17, u18, u19, u20, u21, u22, u23, u24, u25, u26, u27, u28, u29, u30, u31, u32, u33, u34, u35, u36, u37, u38, u39, u40, u41, u42, u43, u44, u45, u46, u47, u48, u49, u50, u51, u52, u53, u54, u55, u56, u57, u58, u59, u60, u61], defers := ds } W := by
  refine wp_region_any (by kernel_rfl) ?_
  try (change wpAny _ _ _ _ _ _ _ (World.drew _))
  refine wpAny_take (i := 0) (oi := { dst := some 41, op := Op.move (Operand.tmp 10), type := 3, pos := "lexis.go:356", after := #[], guard := none }) (v := ?_) rfl (by kernel_rfl) (by kernel_rfl) (by kernel_rfl) (fun _ _ _ h => h) (Or.inl ⟨by kernel_rfl, ?_⟩) ?_
  rotate_left
  · intro w
    go_simp
    try with_reducible rfl
  refine wpAny_take (i := 1) (oi := { dst := some 42, op := Op.binOp BinOp.gtr 3 (Operand.tmp 41) (Operand.const (Value.int IntKind.i64 0)) 3, type := 4, pos := "lexis.go:356", after := #[{ on := 0, ground := Ground.data }], guard := none }) (v := .bool false) rfl (by kernel_rfl) (by kernel_rfl) (by kernel_rfl) (fun _ _ _ h => h) (Or.inl ⟨by kernel_rfl, ?_⟩) ?_
  · intro w
    go_simp
  refine wpAny_take (i := 2) (oi := { dst := some 43, op := Op.move (Operand.tmp 42), type := 4, pos := "lexis.go:356", after := #[{ on := 1, ground := Ground.data }], guard := none }) (v := ?_) rfl (by kernel_rfl) (by kernel_rfl) (by kernel_rfl) (fun _ _ _ h => h) (Or.inl ⟨by kernel_rfl, ?_⟩) ?_
  rotate_left
  · intro w
    go_simp
    try with_reducible rfl
  refine wpAny_take (i := 3) (oi := { dst := some 44, op := Op.move (Operand.tmp 0), type := 3, pos := "lexis.go:356", after := #[{ on := 2, ground := Ground.guard }], guard := some (2, true) }) (v := undef) rfl (by kernel_rfl) (by kernel_rfl) (by kernel_rfl) (fun _ _ _ h => h) (Or.inr ⟨by kernel_rfl, rfl⟩) ?_
  refine wpAny_take (i := 4) (oi := { dst := some 45, op := Op.move (Operand.tmp 1), type := 24, pos := "lexis.go:356", after := #[{ on := 2, ground := Ground.guard }], guard := some (2, true) }) (v := undef) rfl (by kernel_rfl) (by kernel_rfl) (by kernel_rfl) (fun _ _ _ h => h) (Or.inr ⟨by kernel_rfl, rfl⟩) ?_
  refine wpAny_take (i := 5) (oi := { dst := some 46, op := Op.move (Operand.tmp 10), type := 3, pos := "lexis.go:356", after := #[{ on := 2, ground := Ground.guard }], guard := some (2, true) }) (v := undef) rfl (by kernel_rfl) (by kernel_rfl) (by kernel_rfl) (fun _ _ _ h => h) (Or.inr ⟨by kernel_rfl, rfl⟩) ?_
  refine wpAny_take (i := 6) (oi := { dst := some 47, op := Op.binOp BinOp.sub 3 (Operand.tmp 46) (Operand.const (Value.int IntKind.i64 1)) 3, type := 3, pos := "lexis.go:356", after := #[{ on := 5, ground := Ground.data }, { on := 2, ground := Ground.guard }], guard := some (2, true) }) (v := undef) rfl (by kernel_rfl) (by kernel_rfl) (by kernel_rfl) (fun _ _ _ h => h) (Or.inr ⟨by kernel_rfl, rfl⟩) ?_
  refine wpAny_take (i := 7) (oi := { dst := some 48, op := Op.indexAddr 24 (Operand.tmp 45) (Operand.tmp 47), type := 0, pos := "lexis.go:356", after := #[{ on := 4, ground := Ground.data }, { on := 6, ground := Ground.data }, { on := 2, ground := Ground.guard }], guard := some (2, true) }) (v := undef) rfl (by kernel_rfl) (by kernel_rfl) (by kernel_rfl) (fun _ _ _ h => h) (Or.inr ⟨by kernel_rfl, rfl⟩) ?_
  refine wpAny_take (i := 8) (oi := { dst := some 49, op := Op.load 35 (Operand.tmp 48), type := 35, pos := "lexis.go:356", after := #[{ on := 7, ground := Ground.data }, { on := 2, ground := Ground.guard }], guard := some (2, true) }) (v := undef) rfl (by kernel_rfl) (by kernel_rfl) (by kernel_rfl) (fun _ _ _ h => h) (Or.inr ⟨by kernel_rfl, rfl⟩) ?_
  refine wpAny_take (i := 9) (oi := { dst := some 50, op := Op.load 35 (Operand.tmp 11), type := 35, pos := "lexis.go:356", after := #[{ on := 2, ground := Ground.guard }], guard := some (2, true) }) (v := undef) rfl (by kernel_rfl) (by kernel_rfl) (by kernel_rfl) (fun _ _ _ h => h) (Or.inr ⟨by kernel_rfl, rfl⟩) ?_
  refine wpAny_take (i := 10) (oi := { dst := some 51, op := Op.call { callee := Callee.value (Operand.func 41), args := #[Operand.tmp 44, Operand.tmp 49, Operand.tmp 50], argTypes := #[3, 35, 35] }, type := 4, pos := "lexis.go:356", after := #[{ on := 3, ground := Ground.data }, { on := 8, ground := Ground.data }, { on := 9, ground := Ground.data }, { on := 2, ground := Ground.chain }, { on := 2, ground := Ground.guard }], guard := some (2, true) }) (v := undef) rfl (by kernel_rfl) (by kernel_rfl) (by kernel_rfl) (fun _ _ _ h => h) (Or.inr ⟨by kernel_rfl, rfl⟩) ?_
  refine wpAny_take (i := 11) (oi := { dst := some 52, op := Op.unOp UnOp.not 4 (Operand.tmp 51), type := 4, pos := "lexis.go:356", after := #[{ on := 10, ground := Ground.data }, { on := 2, ground := Ground.guard }], guard := some (2, true) }) (v := undef) rfl (by kernel_rfl) (by kernel_rfl) (by kernel_rfl) (fun _ _ _ h => h) (Or.inr ⟨by kernel_rfl, rfl⟩) ?_
  refine wpAny_take (i := 12) (oi := { dst := some 53, op := Op.pick (Operand.tmp 43) (Operand.tmp 52) (Operand.const (Value.bool false)), type := 4, pos := "lexis.go:356", after := #[{ on := 2, ground := Ground.data }, { on := 11, ground := Ground.data }], guard := none }) (v := .bool false) rfl (by kernel_rfl) (by kernel_rfl) (by kernel_rfl) (fun _ _ _ h => h) (Or.inl ⟨by kernel_rfl, ?_⟩) ?_
  · intro w
    go_simp
  refine wpAny_done (by kernel_rfl) ?_ _
  exact act_eq (b := { tmps := #[.int .i64 L, .slice (some ⟨bk, o, none⟩) n c, u2, u3, u4, u5, u6, u7, u8, u9, .int .i64 0, .pointer (some ⟨b11, 0, none⟩), u12, u13, u14, u15, u16, u17, u18, u19, u20, u21, u22, u23, u24, u25, u26, u27, u28, u29, u30, u31, u32, u33, u34, u35, u36, u37, u38, u39, u40, .int .i64 0, .bool false, .bool false, undef, undef, undef, undef, undef, undef, undef, undef, undef, .bool false, u54, u55, u56, u57, u58, u59, u60, u61], defers := ds }) (hQ (.int .i64 0) (.bool false) (.bool false) undef undef undef undef undef undef undef undef undef _ (Below.refl _ _).drew) (by kernel_rfl)
end Go.Proofs.YtdhbhedfbdckaaaGreatDoor
