/- A part of an interpreter of the model's code that is proved sound, and of laws told by it: DamRep, DamInv, DamUp. -/
import Derived.Test.YtdehjednpdbhaaaDoorPvA1
import Derived.Laws.AppendOwn
import Derived.Calls
set_option linter.unusedVariables false
set_option linter.unusedSimpArgs false
/- What the interpreter's values stand for in a world: frozen values, rows of the call's own. -/
namespace Go.Dam
open Go.RowKit
set_option linter.unusedVariables false
set_option linter.unusedSimpArgs false

def zval : AV → Value
  | .sc v => v
  | .sl _ _ => .slice none 0 0
  | _ => undef
/-- A zero cell: a scalar of one cell, or an empty list. -/
def zcell : AV → Bool
  | .sc (.agg _) => false
  | .sc (.tuple _) => false
  | .sc (.slice _ _ _) => false
  | .sc _ => true
  | .sl _ [] => true
  | _ => false

def elCell (C : Tab) (T : Nat) (a : AV) (j : Nat) : AV := match isAggT C T with
  | some true => cellN a j
  | _ => a

/-- Stands for a, read from blocks that S names. -/
inductive Frz (C : Tab) (S : Nat → Prop) (w : World) : Value → AV → Prop
  | undef (v : Value) (h1 : v.oneCell' = true) : Frz C S w v .undef
  | sc (v : Value) (h1 : v.oneCell' = true) : Frz C S w v (.sc v)
  | sl (T : Nat) (l : List AV) (A : Option Addr) (cap s b : Nat) (z : List AV) (ad : Addr) (cv : Nat → Nat → Value)
      (hi : C.info T = some (z, s, b)) (hcap : l.length ≤ cap) (hm : cap ≤ maxLen)
      (hA : 0 < l.length → A = some ad ∧ S ad.block ∧ ad.spot = none)
      (hc : ∀ i j, i < l.length → j < s → w.cell? (ad.add (i * s + j)) = some (cv i j))
      (hp : ∀ i j, i < l.length → j < s → isPlain (z.getD j .undef) = true → isSc (elCell C T (l.getD i .undef) j) = true)
      (hr : ∀ i j, i < l.length → j < s → Frz C S w (cv i j) (elCell C T (l.getD i .undef) j)) :
      Frz C S w (.slice A l.length cap) (.sl T l)
  | ref (l : List AV) (b o : Nat) (cv : Nat → Value) (hS : 0 < l.length → S b)
      (hc : ∀ j, j < l.length → w.cell? ⟨b, o + j, none⟩ = some (cv j))
      (hr : ∀ j, j < l.length → Frz C S w (cv j) (l.getD j .undef)) :
      Frz C S w (.pointer (some ⟨b, o, none⟩)) (.ref l)
  | fn (g : Nat) (caps : List AV) (vs : Array Value) (hs : noShare (C.share g) = true) (hl : vs.size = caps.length)
      (hr : ∀ j, j < caps.length → Frz C S w (vs.getD j undef) (caps.getD j .undef)) :
      Frz C S w (.func (.func g) #[] vs) (.fn g caps)
  | er (t : TypeId) (v : Value) : Frz C S w (.iface t v) .er

theorem Frz.mono {C : Tab} {S S' : Nat → Prop} {w w' : World} {v : Value} {a : AV} (h : Frz C S w v a) (hS : ∀ b, S b → S' b) (hw : ∀ b, S b → w'.heap[b]? = w.heap[b]?) : Frz C S' w' v a := by
  induction h with
  | undef v h1 => exact .undef v h1
  | sc v h1 => exact .sc v h1
  | sl T l A cap s b z ad cv hi hcap hm hA hc hp hr ih =>
    exact .sl T l A cap s b z ad cv hi hcap hm (fun h => ⟨(hA h).1, hS _ (hA h).2.1, (hA h).2.2⟩)
      (fun i j hi' hj => by
        have hb := hw _ (hA (by omega)).2.1
        have : (ad.add (i * s + j)).block = ad.block := by unfold Addr.add; split <;> rfl
        rw [World.cell?_of_block (w := w) (by rw [this]; exact hb)]
        exact hc i j hi' hj) hp ih
  | ref l b o cv hS' hc hr ih =>
    exact .ref l b o cv (fun h => hS _ (hS' h)) (fun j hj => by
      rw [World.cell?_of_block (w := w) (hw _ (hS' (by omega)))]
      exact hc j hj) ih
  | fn g caps vs hs hl hr ih => exact .fn g caps vs hs hl ih
  | er t v => exact .er t v

theorem Frz.one {C : Tab} {S : Nat → Prop} {w : World} {v : Value} {a : AV} (h : Frz C S w v a) : v.oneCell' = true := by
  cases h <;> first | assumption | rfl
/-- A value of a slot: an aggregate by its cells. -/
def FrzV (C : Tab) (S : Nat → Prop) (w : World) (v : Value) (a : AV) : Prop :=
  (∃ vs la, v = .agg vs ∧ a = .agg la ∧ la.length = vs.size ∧ ∀ j, j < vs.size → Frz C S w (vs.getD j Go.undef) (cellN a j)) ∨ Frz C S w v a
theorem FrzV.mono {C : Tab} {S S' : Nat → Prop} {w w' : World} {v : Value} {a : AV} (h : FrzV C S w v a) (hS : ∀ b, S b → S' b) (hw : ∀ b, S b → w'.heap[b]? = w.heap[b]?) : FrzV C S' w' v a := by
  rcases h with ⟨vs, la, rfl, rfl, hl, h⟩ | h
  · exact .inl ⟨vs, la, rfl, rfl, hl, fun j hj => (h j hj).mono hS hw⟩
  · exact .inr (h.mono hS hw)

/-- A mark that freezes none of the first n cells. -/
def okFz (n : Nat) (fz : Nat × Nat) : Prop := fz = (0, 0) ∨ n ≤ fz.1
/-- A row that the call has made, whatever mark stands behind it. -/
def rowOf (w : World) (base : Nat) (e : TypeId) (size : Nat) (v : Value) (n : Nat) (xs : List Value) : Prop :=
  xs.length = n * size ∧ ((v = .slice none 0 0 ∧ n = 0) ∨
   ∃ g cap cur fz, v = .slice (some ⟨g, 0, none⟩) n cap ∧ base ≤ g ∧ w.heap[g]? = some (.cells cur e fz) ∧ okFz cur.size fz ∧ n ≤ cap ∧ cap ≤ maxLen ∧ cur.size = cap * size ∧ cur.toList.take (n * size) = xs)
section
variable {w : World} {base : Nat} {e : TypeId} {size : Nat} {v : Value} {n : Nat} {xs : List Value}
theorem rowOf.of (h : w.ownsRow base e size v n xs) : rowOf w base e size v n xs := by
  obtain ⟨hl, h⟩ := h
  refine ⟨hl, h.imp id ?_⟩
  rintro ⟨g, cap, cur, h1, h2, h3, h4⟩
  exact ⟨g, cap, cur, (0, 0), h1, h2, h3, .inl rfl, h4⟩
theorem rowOf.lt (h : rowOf w base e size v n xs) : ∀ k, v.ownBlock = some k → base ≤ k ∧ k < w.heap.size := by
  rintro k hk
  rcases h.2 with ⟨rfl, _⟩ | ⟨g, cap, cur, fz, rfl, hb, hh, _⟩
  · simp [Value.ownBlock] at hk
  · simp only [Value.ownBlock, Option.some.injEq] at hk
    subst hk
    exact ⟨hb, (Array.getElem?_eq_some_iff.1 hh).1⟩
theorem rowOf.cells (h : rowOf w base e size v n xs) {g : Nat} (hg : v.ownBlock = some g) : ∀ j u, xs[j]? = some u → w.cell? ((⟨g, 0, none⟩ : Addr).add j) = some u := by
  intro j u hu
  rcases h.2 with ⟨rfl, _⟩ | ⟨g', cap, cur, fz, rfl, _, hgg, _, _, _, _, htake⟩
  · simp [Value.ownBlock] at hg
  · simp [Value.ownBlock] at hg
    subst hg
    have hadd : (⟨g', 0, none⟩ : Addr).add j = ⟨g', j, none⟩ := by unfold Addr.add; split <;> simp_all
    rw [hadd, cell_of_row w g' j cur e fz hgg]
    rw [← htake, List.getElem?_take] at hu
    split at hu
    · simpa using hu
    · cases hu
theorem rowOf.cellAt {g cap : Nat} (h : rowOf w base e size (.slice (some ⟨g, 0, none⟩) n cap) n xs) (j : Nat) (hj : j < n * size) : w.cell? ⟨g, j, none⟩ = xs[j]? := by
  have hlt : j < xs.length := by rw [h.1]; exact hj
  have := h.cells (g := g) rfl j xs[j] (List.getElem?_eq_getElem hlt)
  have hadd : (⟨g, 0, none⟩ : Addr).add j = ⟨g, j, none⟩ := by unfold Addr.add; split <;> simp_all
  rw [hadd] at this
  rw [this, List.getElem?_eq_getElem hlt]
end

/-- Stands for a list whose row is the call's own; what its elements lead to is frozen (G). -/
def OwnR (C : Tab) (G : Nat → Prop) (base : Nat) (w : World) (v : Value) (a : AV) : Prop :=
  ∃ T l z s b xs, a = .sl T l ∧ C.info T = some (z, s, b) ∧ rowOf w base T s v l.length xs ∧
    (∀ i j, i < l.length → j < s → isPlain (z.getD j .undef) = true → isSc (elCell C T (l.getD i .undef) j) = true) ∧
    ∀ i j, i < l.length → j < s → ∃ c, xs[i * s + j]? = some c ∧ Frz C G w c (elCell C T (l.getD i .undef) j)

theorem OwnR.frz {C : Tab} {G S : Nat → Prop} {base : Nat} {w : World} {v : Value} {a : AV} (h : OwnR C G base w v a) (hG : ∀ b, G b → S b) (hk : ∀ k, v.ownBlock = some k → S k) : Frz C S w v a := by
  obtain ⟨T, l, z, s, b, xs, rfl, hi, ho, hp, hr⟩ := h
  have hx := ho
  obtain ⟨hlen, h⟩ := ho
  rcases h with ⟨rfl, h0⟩ | ⟨g, cap, cur, fz, rfl, hb, hh, hfz, hcap, hm, hsz, htk⟩
  · rw [← h0]
    refine .sl T l none l.length s b z ⟨0, 0, none⟩ (fun _ _ => undef) hi (Nat.le_refl _) (by omega) (by omega) (by omega) (by omega) (by omega)
  · refine .sl T l (some ⟨g, 0, none⟩) cap s b z ⟨g, 0, none⟩ (fun i j => xs.getD (i * s + j) undef) hi hcap hm (fun _ => ⟨rfl, hk g rfl, rfl⟩) ?_ hp ?_
    · intro i j hi' hj
      obtain ⟨c, hc, _⟩ := hr i j hi' hj
      rw [hx.cells (g := g) rfl _ c hc]
      simp [List.getD_eq_getElem?_getD, hc]
    · intro i j hi' hj
      obtain ⟨c, hc, hf⟩ := hr i j hi' hj
      have : xs.getD (i * s + j) undef = c := by simp [List.getD_eq_getElem?_getD, hc]
      rw [this]
      exact hf.mono hG (fun _ _ => rfl)

theorem ownsRow_move {w w' : World} {base : Nat} {e : TypeId} {size n : Nat} {v : Value} {xs : List Value} (h : rowOf w base e size v n xs) (hw : ∀ k, v.ownBlock = some k → w'.heap[k]? = w.heap[k]?) : rowOf w' base e size v n xs := by
  obtain ⟨hl, h⟩ := h
  refine ⟨hl, ?_⟩
  rcases h with h | ⟨g, cap, cur, fz, rfl, hb, hh, r⟩
  · exact .inl h
  · exact .inr ⟨g, cap, cur, fz, rfl, hb, (hw g rfl).trans hh, r⟩

theorem OwnR.mono {C : Tab} {G G' : Nat → Prop} {base : Nat} {w w' : World} {v : Value} {a : AV} (h : OwnR C G base w v a) (hG : ∀ b, G b → G' b) (hw : ∀ b, G b → w'.heap[b]? = w.heap[b]?) (hk : ∀ k, v.ownBlock = some k → w'.heap[k]? = w.heap[k]?) : OwnR C G' base w' v a := by
  obtain ⟨T, l, z, s, b, xs, rfl, hi, ho, hp, hr⟩ := h
  exact ⟨T, l, z, s, b, xs, rfl, hi, ownsRow_move ho hk, hp, fun i j hi' hj => by
    obtain ⟨c, hc, hf⟩ := hr i j hi' hj
    exact ⟨c, hc, hf.mono hG hw⟩⟩
theorem OwnR.lower {C : Tab} {G : Nat → Prop} {base base' : Nat} {w : World} {v : Value} {a : AV} (h : OwnR C G base w v a) (hb : base' ≤ base) : OwnR C G base' w v a := by
  obtain ⟨T, l, z, s, b, xs, rfl, hi, ⟨hl, ho⟩, hp, hr⟩ := h
  refine ⟨T, l, z, s, b, xs, rfl, hi, ⟨hl, ?_⟩, hp, hr⟩
  rcases ho with h | ⟨g, cap, cur, fz, rfl, hb', r⟩
  · exact .inl h
  · exact .inr ⟨g, cap, cur, fz, rfl, Nat.le_trans hb hb', r⟩
theorem OwnR.lt {C : Tab} {G : Nat → Prop} {base : Nat} {w : World} {v : Value} {a : AV} (h : OwnR C G base w v a) : ∀ k, v.ownBlock = some k → base ≤ k ∧ k < w.heap.size := by
  obtain ⟨T, l, z, s, b, xs, rfl, hi, ho, hp, hr⟩ := h
  exact fun k hk => ho.lt k hk
theorem OwnR.nil {C : Tab} {T : Nat} {z : List AV} {s b : Nat} (hi : C.info T = some (z, s, b)) (G : Nat → Prop) (base : Nat) (w : World) : OwnR C G base w (.slice none 0 0) (.sl T []) :=
  ⟨T, [], z, s, b, [], rfl, hi, rowOf.of (World.ownsRow_nil w base T s), by simp, by simp⟩

end Go.Dam

/- The invariant that ties a frame of the interpreter to a frame of the machine and its world. -/
namespace Go.Dam
open Go.RowKit
set_option linter.unusedVariables false
set_option linter.unusedSimpArgs false

theorem Place.eqB_iff {p q : Place} : p.eqB q = true ↔ p = q := by
  cases p; cases q; simp [Place.eqB, and_assoc]
theorem Place.eqB_self (p : Place) : p.eqB p = true := Place.eqB_iff.2 rfl

def cellV (v : Value) (j : Nat) : Value := match v with
  | .agg vs => vs.getD j undef
  | _ => undef
def compV (v : Value) (j : Nat) : Value := match v with
  | .tuple vs => vs.getD j undef
  | _ => undef
def own? (o : Own) (x : AV × Value) : Option (AV × Value) := match o with
  | .own => some x
  | _ => none
theorem own?_some {o : Own} {x y : AV × Value} (h : own? o x = some y) : o = .own ∧ x = y := by
  cases o <;> simp_all [own?]

def av1 (m : Md) (a : AV) (j : Nat) : AV := match m with
  | .cells _ => cellN a j
  | _ => a
def val1 (m : Md) (v : Value) (j : Nat) : Value := match m with
  | .cells _ => cellV v j
  | _ => v
/-- The home of a slot (its c-th part's j-th cell). -/
def homeS (m : Md) (a : AV) (v : Value) (c j : Nat) : Option (AV × Value) := match m with
  | .tup l => own? ((l.getD c (.uni .ro)).home1 j) (av1 (l.getD c (.uni .ro)) (compN a c) j, val1 (l.getD c (.uni .ro)) (compV v c) j)
  | m => if c = 0 then own? (m.home1 j) (av1 m a j, val1 m v j) else none
def homeB (cs : Option (List (AV × Own))) (bv : Nat → Value) (c j : Nat) : Option (AV × Value) := match cs with
  | some cs => if c = 0 then own? (cs.getD j (.undef, .ro)).2 ((cs.getD j (.undef, .ro)).1, bv j) else none
  | none => none
/-- The row at a home, as list and as value. -/
def Fr.homes (fr : Fr) (ts : Array Value) (bv : Nat → Nat → Value) (p : Place) : Option (AV × Value) := match p.box with
  | true => homeB (fr.box? p.n) (bv p.n) p.c p.j
  | false => homeS (fr.getS p.n).2 (fr.getS p.n).1 (ts.getD p.n undef) p.c p.j

/-- What a value stands for depends on: the table, the call's first block, the frozen blocks, the world, the homes, the boxes. -/
structure St where
  C : Tab
  base : Nat
  G : Nat → Prop
  w : World
  ow : Place → Option (AV × Value)
  bx : Nat → Option Nat

def St.low (X : St) (b : Nat) : Prop := X.G b ∨ b < X.base
def Look (X : St) (q : Place) (full : Bool) (v : Value) (a : AV) : Prop :=
  ∃ qa qv, X.ow q = some (qa, qv) ∧ Frz X.C (fun b => X.G b ∨ qv.ownBlock = some b) X.w v a ∧ (full = true → v = qv ∧ a = qa)
def RepO (X : St) (o : Own) (v : Value) (a : AV) : Prop := match o with
  | .ro => Frz X.C X.G X.w v a
  | .lent => Frz X.C X.low X.w v a
  | .own => OwnR X.C X.G X.base X.w v a
  | .brw q full => Look X q full v a
/-- An aggregate under one mark. -/
def RepU (X : St) (o : Own) (v : Value) (a : AV) : Prop :=
  RepO X o v a ∨ ((o = .ro ∨ o = .lent) ∧ ∃ vs la, v = .agg vs ∧ a = .agg la ∧ la.length = vs.size ∧ ∀ j, j < vs.size → RepO X o (vs.getD j undef) (cellN a j))
def RepC (X : St) (l : List Own) (v : Value) (a : AV) : Prop :=
  ∃ vs la, v = .agg vs ∧ a = .agg la ∧ la.length = vs.size ∧ vs.size = l.length ∧ ∀ j, j < l.length → RepO X (l.getD j .ro) (vs.getD j undef) (cellN a j)
def Rep1 (X : St) (m : Md) (v : Value) (a : AV) : Prop := match m with
  | .unk => a = .undef
  | .uni o => RepU X o v a
  | .cells l => RepC X l v a
  | _ => False
def capV (X : St) (c : Nat × Nat) : Value := .pointer (some ⟨(X.bx c.1).getD 0, c.2, none⟩)
def RepM (X : St) (m : Md) (v : Value) (a : AV) : Prop := match m with
  | .unk => a = .undef
  | .uni o => RepU X o v a
  | .cells l => RepC X l v a
  | .tup l => ∃ vs la, v = .tuple vs ∧ a = .tup la ∧ vs.size = l.length ∧ ∀ c, c < l.length → Rep1 X (l.getD c (.uni .ro)) (vs.getD c undef) (compN a c)
  | .adr o off => ∃ b k la, v = .pointer (some ⟨b, k + off, none⟩) ∧ a = .ref la ∧ RepO X o (.pointer (some ⟨b, k, none⟩)) a
  | .elem q i off => ∃ T l z s b' g cap cs, X.ow q = some (.sl T l, .slice (some ⟨g, 0, none⟩) l.length cap) ∧ X.C.info T = some (z, s, b') ∧ i < l.length ∧
      v = .pointer (some ⟨g, i * s + off, none⟩) ∧ a = .ref cs ∧ cs.length = s ∧ ∀ j, j < s → cs.getD j .undef = elCell X.C T (l.getD i .undef) j
  | .loc d off => ∃ b, X.bx d = some b ∧ v = .pointer (some ⟨b, off, none⟩) ∧ a = .undef
  | .mapAt d => ∃ b, X.bx d = some b ∧ v = .map (some b) ∧ a = .undef
  | .fn g caps => v = .func (.func g) #[] (caps.map (capV X)).toArray ∧ (∀ c ∈ caps, ∃ b, X.bx c.1 = some b) ∧ (a = .undef ∨ (a = .fn g [] ∧ caps = [])) ∧ noShare (X.C.share g) = true

/-- From one state to another, as far as looks at 'hit' go. -/
structure Le (X Y : St) (hit : Place → Prop) : Prop where
  C : Y.C = X.C
  base : Y.base = X.base
  G : ∀ b, X.G b → Y.G b
  low : ∀ b, X.low b → Y.w.heap[b]? = X.w.heap[b]?
  ow : ∀ q, hit q → ∀ a v, X.ow q = some (a, v) → Y.ow q = some (a, v) ∧ ∀ k, v.ownBlock = some k → Y.w.heap[k]? = X.w.heap[k]?

def Own.hit (hit : Place → Prop) : Own → Prop
  | .brw q _ => hit q
  | _ => True
def keptV (X Y : St) (v : Value) : Prop := ∀ k, v.ownBlock = some k → Y.w.heap[k]? = X.w.heap[k]?

theorem RepO.mono {X Y : St} {hit : Place → Prop} {o : Own} {v : Value} {a : AV} (h : RepO X o v a) (le : Le X Y hit) (hh : o.hit hit) (ho : o = .own → keptV X Y v) : RepO Y o v a := by
  cases o with
  | ro =>
    show Frz Y.C _ _ _ _
    rw [le.C]
    exact Frz.mono h le.G fun b hb => le.low b (.inl hb)
  | lent =>
    show Frz Y.C _ _ _ _
    rw [le.C]
    exact Frz.mono h (fun b hb => hb.elim (fun h => .inl (le.G b h)) fun h => .inr (by rw [le.base]; exact h)) le.low
  | own =>
    show OwnR _ _ _ _ _ _
    rw [le.C, le.base]
    exact OwnR.mono h le.G (fun b hb => le.low b (.inl hb)) (ho rfl)
  | brw q full =>
    obtain ⟨qa, qv, hq, hf, hfull⟩ := h
    obtain ⟨hq', hk⟩ := le.ow q hh qa qv hq
    refine ⟨qa, qv, hq', ?_, hfull⟩
    rw [le.C]
    exact hf.mono (fun b hb => hb.imp (le.G b) id) fun b hb => hb.elim (fun h => le.low b (.inl h)) (hk b)

theorem RepU.mono {X Y : St} {hit : Place → Prop} {o : Own} {v : Value} {a : AV} (h : RepU X o v a) (le : Le X Y hit) (hh : o.hit hit) (ho : o = .own → keptV X Y v) : RepU Y o v a := by
  rcases h with h | ⟨ho', vs, la, rfl, rfl, hla, h⟩
  · exact .inl (h.mono le hh ho)
  · exact .inr ⟨ho', vs, la, rfl, rfl, hla, fun j hj => (h j hj).mono le hh (by rintro rfl; simp at ho')⟩
theorem RepC.mono {X Y : St} {hit : Place → Prop} {l : List Own} {v : Value} {a : AV} (h : RepC X l v a) (le : Le X Y hit) (hh : ∀ o ∈ l, o.hit hit)
    (ho : ∀ j, l.getD j .ro = .own → keptV X Y (cellV v j)) : RepC Y l v a := by
  obtain ⟨vs, la, rfl, rfl, hla, hl, h⟩ := h
  refine ⟨vs, la, rfl, rfl, hla, hl, fun j hj => (h j hj).mono le ?_ (ho j)⟩
  have : l.getD j .ro = l[j] := by simp [hj]
  rw [this]
  exact hh _ (List.getElem_mem hj)

def Md.hit1 (hit : Place → Prop) : Md → Prop
  | .uni o => o.hit hit
  | .cells l => ∀ o ∈ l, o.hit hit
  | _ => True
def Md.hit (hit : Place → Prop) : Md → Prop
  | .uni o => o.hit hit
  | .cells l => ∀ o ∈ l, o.hit hit
  | .tup l => ∀ m ∈ l, m.hit1 hit
  | .adr o _ => o.hit hit
  | .elem q _ _ => hit q
  | _ => True
/-- The blocks of a value's own rows are kept. -/
def keptM (X Y : St) (m : Md) (a : AV) (v : Value) : Prop := ∀ c j x u, homeS m a v c j = some (x, u) → keptV X Y u

theorem Rep1.mono {X Y : St} {hit : Place → Prop} {m : Md} {v : Value} {a : AV} (h : Rep1 X m v a) (le : Le X Y hit) (hh : m.hit1 hit)
    (ho : ∀ j, m.home1 j = .own → keptV X Y (val1 m v j)) : Rep1 Y m v a := by
  cases m with
  | uni o => exact RepU.mono h le hh fun e => ho 0 (by simp [Md.home1, e])
  | cells l => exact RepC.mono h le hh fun j e => ho j (by simp only [Md.home1]; exact e)
  | _ => exact h

theorem RepM.mono {X Y : St} {hit : Place → Prop} {m : Md} {v : Value} {a : AV} (h : RepM X m v a) (le : Le X Y hit) (hb : ∀ d b, X.bx d = some b → Y.bx d = some b) (hh : m.hit hit)
    (ho : keptM X Y m a v) : RepM Y m v a := by
  cases m with
  | unk => exact h
  | uni o => exact RepU.mono h le hh fun e => ho 0 0 a v (by simp [homeS, Md.home1, e, own?, av1, val1])
  | cells l => exact RepC.mono h le hh fun j e => ho 0 j (cellN a j) _ (by simp only [homeS, Md.home1, if_true, e, own?, av1, val1])
  | tup l =>
    obtain ⟨vs, la, rfl, rfl, hl, h⟩ := h
    refine ⟨vs, la, rfl, rfl, hl, fun c hc => (h c hc).mono le ?_ fun j e => ?_⟩
    · have : l.getD c (.uni .ro) = l[c] := by simp [hc]
      rw [this]; exact hh _ (List.getElem_mem hc)
    · exact ho c j _ _ (by simp only [homeS, e, own?]; rfl)
  | adr o off =>
    obtain ⟨b, k, la, rfl, rfl, h⟩ := h
    exact ⟨b, k, la, rfl, rfl, h.mono le hh (fun e => by intro k hk; simp [Value.ownBlock] at hk)⟩
  | elem q i off =>
    obtain ⟨T, l, z, s, b', g, cap, cs, hq, hi, h⟩ := h
    rw [← le.C] at hi h
    exact ⟨T, l, z, s, b', g, cap, cs, (le.ow q hh _ _ hq).1, hi, h⟩
  | loc d off =>
    obtain ⟨b, h1, h2⟩ := h
    exact ⟨b, hb d b h1, h2⟩
  | mapAt d =>
    obtain ⟨b, h1, h2⟩ := h
    exact ⟨b, hb d b h1, h2⟩
  | fn g caps =>
    obtain ⟨h1, h2, h3, h4⟩ := h
    refine ⟨?_, fun c hc => ?_, h3, by rw [le.C]; exact h4⟩
    · rw [h1]
      congr 2
      refine List.map_congr_left fun c hc => ?_
      obtain ⟨b, hb'⟩ := h2 c hc
      simp [capV, hb', hb _ _ hb']
    · obtain ⟨b, hb'⟩ := h2 c hc
      exact ⟨b, hb _ _ hb'⟩

/-- A number, a bool or a string of type t. -/
def scV (C : Tab) (t : Nat) (v : Value) : Prop := match C.ty t with
  | some (.int k) => ∃ n, v = .int k n
  | some .bool => ∃ b, v = .bool b
  | some .string => ∃ s, v = .string s
  | _ => False
/-- A map's entries. -/
def MapRep (C : Tab) (T : Nat) (l : List AV) (es : List MapEntry) : Prop :=
  ∃ kt vt, C.ty T = some (.map kt vt) ∧ l = es.map (fun e => AV.agg [.sc e.key, .sc e.val]) ∧ ∀ e ∈ es, scV C kt e.key ∧ scV C vt e.val
/-- A map in memory. -/
def RepP (X : St) (b : Nat) (cs : List (AV × Own)) : Prop :=
  ∃ T l es n, cs = [(.mp T l, .ro)] ∧ X.w.heap[b]? = some (.map es n) ∧ MapRep X.C T l es.toList
/-- A variable's cells in memory, or a map. -/
def RepB (X : St) (b : Nat) (cs : List (AV × Own)) : Prop :=
  (∃ c e, X.w.heap[b]? = some (.cells c e (0, 0)) ∧ c.size = cs.length ∧ ∀ j, j < cs.length → RepO X (cs.getD j (.undef, .ro)).2 (c.getD j undef) (cs.getD j (.undef, .ro)).1) ∨ RepP X b cs
theorem RepP.isMap {X : St} {b : Nat} {cs : List (AV × Own)} (h : RepP X b cs) : isMapB cs = true := by
  obtain ⟨T, l, es, n, rfl, _⟩ := h; rfl
theorem RepP.move {X Y : St} {b b' : Nat} {cs : List (AV × Own)} (h : RepP X b cs) (hC : Y.C = X.C) (hw : Y.w.heap[b']? = X.w.heap[b]?) : RepP Y b' cs := by
  obtain ⟨T, l, es, n, h1, h2, h3⟩ := h
  exact ⟨T, l, es, n, h1, hw.trans h2, by rw [hC]; exact h3⟩
theorem RepB.cells {X : St} {b : Nat} {cs : List (AV × Own)} (h : RepB X b cs) (hm : isMapB cs = false) : ∃ c e, X.w.heap[b]? = some (.cells c e (0, 0)) ∧ c.size = cs.length ∧ ∀ j, j < cs.length → RepO X (cs.getD j (.undef, .ro)).2 (c.getD j undef) (cs.getD j (.undef, .ro)).1 := by
  rcases h with h | h
  · exact h
  · rw [h.isMap] at hm; cases hm
theorem RepB.some {X : St} {b : Nat} {cs : List (AV × Own)} (h : RepB X b cs) : ∃ o, X.w.heap[b]? = some o := by
  rcases h with ⟨c, e, h, _⟩ | ⟨T, l, es, n, _, h, _⟩
  · exact ⟨_, h⟩
  · exact ⟨_, h⟩
theorem RepP.noOwn {X : St} {b : Nat} {cs : List (AV × Own)} (h : RepP X b cs) (j : Nat) : (cs.getD j (.undef, .ro)).2 ≠ .own := by
  obtain ⟨T, l, es, n, rfl, _⟩ := h
  cases j <;> simp

def bvOf (w : World) (gb : Nat → Nat) (d j : Nat) : Value := (w.cell? ⟨gb d, j, none⟩).getD undef
def stOf (C : Tab) (base : Nat) (G : Nat → Prop) (gb : Nat → Nat) (fr : Fr) (ts : Array Value) (w : World) : St :=
  ⟨C, base, G, w, fr.homes ts (bvOf w gb), fun d => (fr.box? d).map fun _ => gb d⟩

structure Inv (C : Tab) (w0 : World) (Gin G : Nat → Prop) (gb : Nat → Nat) (fr : Fr) (ts : Array Value) (w : World) : Prop where
  below : Below w0.heap.size w0 w
  gs : ∀ b, G b → b < w.heap.size
  gin : ∀ b, G b → b < w0.heap.size → Gin b
  size : ts.size = fr.slots.length
  slots : ∀ n, n < fr.slots.length → RepM (stOf C w0.heap.size G gb fr ts w) (fr.getS n).2 (ts.getD n undef) (fr.getS n).1
  boxes : ∀ d cs, fr.box? d = some cs → RepB (stOf C w0.heap.size G gb fr ts w) (gb d) cs ∧ w0.heap.size ≤ gb d ∧ ¬ G (gb d)
  inj : ∀ d d' cs cs', fr.box? d = some cs → fr.box? d' = some cs' → gb d = gb d' → d = d'
  ow : ∀ p a v k, fr.homes ts (bvOf w gb) p = some (a, v) → v.ownBlock = some k → ¬ G k ∧ ∀ d cs, fr.box? d = some cs → gb d ≠ k
  sep : ∀ p q a v a' v' k, fr.homes ts (bvOf w gb) p = some (a, v) → fr.homes ts (bvOf w gb) q = some (a', v') → v.ownBlock = some k → v'.ownBlock = some k → p = q

end Go.Dam

/- Marks that are forgotten or frozen: the invariant goes on. -/
namespace Go.Dam
open Go.RowKit
set_option linter.unusedVariables false
set_option linter.unusedSimpArgs false

def upOwn (u : Up) (o : Own) : Own := match u with
  | .keep => o
  | _ => .ro
theorem upO_snd (u : Up) (x : AV × Own) : (upO u x).2 = upOwn u x.2 := by cases u <;> rfl
theorem upO_keep (x : AV × Own) : upO .keep x = x := rfl
theorem upO_none (u : Up) : upO u (.undef, .ro) = (.undef, .ro) := by cases u <;> rfl
theorem getD_over {α : Type} (l : List α) (d : α) {n : Nat} (h : l.length ≤ n) : l.getD n d = d := by
  simp [List.getD_eq_getElem?_getD, List.getElem?_eq_none h]
theorem getD_upSlots (F : Place → Own → Up) : ∀ (l : List (AV × Md)) (k i : Nat), i < l.length → (upSlots F k l).getD i none1 = upS F (k + i) (l.getD i none1)
  | [], _, _, h => by simp at h
  | s :: l, k, 0, _ => by simp [upSlots]
  | s :: l, k, i + 1, h => by
    simp only [upSlots, List.getD_cons_succ]
    rw [getD_upSlots F l (k + 1) i (by simpa using h)]
    congr 1; omega
theorem length_upSlots (F : Place → Own → Up) : ∀ (l : List (AV × Md)) (k : Nat), (upSlots F k l).length = l.length
  | [], _ => rfl
  | s :: l, k => by simp [upSlots, length_upSlots F l]
theorem upS_none1 (F : Place → Own → Up) (n : Nat) : upS F n none1 = none1 := by
  simp [upS, none1]
theorem getS_up (fr : Fr) (F : Place → Own → Up) (n : Nat) : (fr.up F).getS n = upS F n (fr.getS n) := by
  unfold Fr.getS Fr.up
  rcases Nat.lt_or_ge n fr.slots.length with h | h
  · simpa using getD_upSlots F fr.slots 0 n h
  · rw [getD_over _ _ (by rw [length_upSlots]; exact h), getD_over _ _ h, upS_none1]
theorem box?_up (fr : Fr) (F : Place → Own → Up) (d : Nat) : (fr.up F).box? d = (fr.box? d).map (upBox F d 0) := by
  unfold Fr.box? Fr.up
  simp only
  induction fr.boxes with
  | nil => rfl
  | cons x l ih =>
    obtain ⟨e, c⟩ := x
    simp only [upBoxes, assoc]
    split
    · rename_i h; subst h; rfl
    · exact ih
theorem upB_ne {u : Up} {x : AV × Own} (h : x.2 ≠ .ro) : upB u x = upO u x := by
  obtain ⟨a, o⟩ := x
  cases a <;> cases o <;> first | rfl | exact absurd rfl h
theorem upB_or (u : Up) (x : AV × Own) : upB u x = upO u x ∨ upB u x = x := by
  obtain ⟨a, o⟩ := x
  cases a <;> cases o <;> first | exact .inl rfl | exact .inr rfl
theorem upB_av {u : Up} {x : AV × Own} (h : ∀ T l, x.1 ≠ .mp T l) : upB u x = upO u x := by
  obtain ⟨a, o⟩ := x
  cases a <;> first | rfl | exact absurd rfl (h _ _)
theorem RepO.noMp {X : St} {o : Own} {v : Value} {T : Nat} {l : List AV} (h : RepO X o v (.mp T l)) : False := by
  cases o with
  | ro => cases (show Frz _ _ _ _ _ from h)
  | lent => cases (show Frz _ _ _ _ _ from h)
  | own =>
    obtain ⟨T, l, z, s, b, xs, e, _⟩ := (show OwnR _ _ _ _ _ _ from h)
    cases e
  | brw q f =>
    obtain ⟨qa, qv, _, hf, _⟩ := (show Look _ _ _ _ _ from h)
    cases hf
theorem length_upBox (F : Place → Own → Up) (d : Nat) : ∀ (l : List (AV × Own)) (k : Nat), (upBox F d k l).length = l.length
  | [], _ => rfl
  | s :: l, k => by simp [upBox, length_upBox F d l]
theorem getD_upBox (F : Place → Own → Up) (d : Nat) : ∀ (l : List (AV × Own)) (k j : Nat), (upBox F d k l).getD j (.undef, .ro) = upB (F ⟨true, d, 0, k + j⟩ (l.getD j (.undef, .ro)).2) (l.getD j (.undef, .ro))
  | [], k, j => by simp [upBox, upB, upO_none]
  | s :: l, k, 0 => by simp [upBox]
  | s :: l, k, j + 1 => by
    simp only [upBox, List.getD_cons_succ]
    rw [getD_upBox F d l (k + 1) j]
    rw [show k + 1 + j = k + (j + 1) by omega]
theorem length_upOwns (F : Place → Own → Up) (b : Bool) (n c : Nat) : ∀ (l : List Own) (k : Nat), (upOwns F b n c k l).length = l.length
  | [], _ => rfl
  | s :: l, k => by simp [upOwns, length_upOwns F b n c l]
theorem getD_upOwns (F : Place → Own → Up) (b : Bool) (n c : Nat) : ∀ (l : List Own) (k j : Nat), (upOwns F b n c k l).getD j .ro = upOwn (F ⟨b, n, c, k + j⟩ (l.getD j .ro)) (l.getD j .ro)
  | [], k, j => by simp [upOwns]; cases F ⟨b, n, c, k + j⟩ .ro <;> rfl
  | s :: l, k, 0 => by simp [upOwns, upO_snd]
  | s :: l, k, j + 1 => by
    simp only [upOwns, List.getD_cons_succ]
    rw [getD_upOwns F b n c l (k + 1) j, show k + 1 + j = k + (j + 1) by omega]
theorem getD_upCells (F : Place → Own → Up) (b : Bool) (n c : Nat) (f : Nat → AV) : ∀ (l : List Own) (k j : Nat), j < l.length → (upCells F b n c f k l).getD j .undef = (upO (F ⟨b, n, c, k + j⟩ (l.getD j .ro)) (f (k + j), l.getD j .ro)).1
  | [], k, j, h => by simp at h
  | s :: l, k, 0, _ => by simp [upCells]
  | s :: l, k, j + 1, h => by
    simp only [upCells, List.getD_cons_succ]
    rw [getD_upCells F b n c f l (k + 1) j (by simpa using h), show k + 1 + j = k + (j + 1) by omega]
theorem length_upCells (F : Place → Own → Up) (b : Bool) (n c : Nat) (f : Nat → AV) : ∀ (l : List Own) (k : Nat), (upCells F b n c f k l).length = l.length
  | [], _ => rfl
  | s :: l, k => by simp [upCells, length_upCells F b n c f l]
theorem allKeep_spec (F : Place → Own → Up) (b : Bool) (n c : Nat) : ∀ (l : List Own) (k : Nat), allKeep F b n c k l = true → ∀ j, j < l.length → F ⟨b, n, c, k + j⟩ (l.getD j .ro) = .keep
  | [], k, _, j, h => by simp at h
  | s :: l, k, h, j, hj => by
    simp only [allKeep, Bool.and_eq_true] at h
    cases j with
    | zero => simp only [List.getD_cons_zero, Nat.add_zero]; revert h; cases F ⟨b, n, c, k⟩ s <;> simp [isKeep]
    | succ j =>
      have := allKeep_spec F b n c l (k + 1) h.2 j (by simpa using hj)
      rw [List.getD_cons_succ, show k + (j + 1) = k + 1 + j by omega]; exact this
theorem length_upComps (F : Place → Own → Up) (n : Nat) (f : Nat → AV) : ∀ (l : List Md) (k : Nat), (upComps F n f k l).length = l.length
  | [], _ => rfl
  | s :: l, k => by simp [upComps, length_upComps F n f l]
theorem getD_upComps (F : Place → Own → Up) (n : Nat) (f : Nat → AV) (x : AV × Md) : ∀ (l : List Md) (k j : Nat), j < l.length → (upComps F n f k l).getD j x = up1 F n (k + j) (f (k + j)) (l.getD j (.uni .ro))
  | [], k, j, h => by simp at h
  | s :: l, k, 0, _ => by simp [upComps]
  | s :: l, k, j + 1, h => by
    simp only [upComps, List.getD_cons_succ]
    rw [getD_upComps F n f x l (k + 1) j (by simpa using h), show k + 1 + j = k + (j + 1) by omega]

/-- What F does to a part of a slot: cell for cell. -/
theorem up1_cells (F : Place → Own → Up) (n c : Nat) (a : AV) (l : List Own) : ∃ l' a', up1 F n c a (.cells l) = (a', .cells l') ∧ l'.length = l.length ∧ (a' = a ∨ ∃ la, a' = .agg la ∧ la.length = l.length) ∧
    (∀ j, l'.getD j .ro = upOwn (F ⟨false, n, c, j⟩ (l.getD j .ro)) (l.getD j .ro)) ∧
    ∀ j, j < l.length → cellN a' j = (upO (F ⟨false, n, c, j⟩ (l.getD j .ro)) (cellN a j, l.getD j .ro)).1 := by
  by_cases h : allKeep F false n c 0 l = true
  · refine ⟨l, a, by simp [up1, h], rfl, .inl rfl, fun j => ?_, fun j hj => ?_⟩
    · rcases Nat.lt_or_ge j l.length with hj | hj
      · have := allKeep_spec F false n c l 0 h j hj
        rw [Nat.zero_add] at this
        rw [this]; rfl
      · rw [getD_over _ _ hj]; cases F ⟨false, n, c, j⟩ .ro <;> rfl
    · have := allKeep_spec F false n c l 0 h j hj
      rw [Nat.zero_add] at this
      rw [this]; rfl
  · refine ⟨upOwns F false n c 0 l, .agg (upCells F false n c (cellN a) 0 l), by simp [up1, h], length_upOwns .., .inr ⟨_, rfl, length_upCells ..⟩, fun j => ?_, fun j hj => ?_⟩
    · have := getD_upOwns F false n c l 0 j
      rwa [Nat.zero_add] at this
    · have := getD_upCells F false n c (cellN a) l 0 j hj
      rw [Nat.zero_add] at this
      simpa [cellN] using this

/-- The home of a part, F done. -/
theorem up1_home (F : Place → Own → Up) (n c j : Nat) (a : AV) (m : Md) : (up1 F n c a m).2.home1 j = .own →
    m.home1 j = .own ∧ F ⟨false, n, c, j⟩ .own = .keep ∧ av1 (up1 F n c a m).2 (up1 F n c a m).1 j = av1 m a j := by
  cases m with
  | unk => simp [up1, Md.home1]
  | uni o =>
    intro h
    simp only [up1] at h ⊢
    cases ho : F ⟨false, n, c, 0⟩ o with
    | keep =>
      simp only [ho, Md.home1] at h ⊢
      split at h
      · rename_i hj; subst hj h
        simp [ho, Md.home1, av1]
      · simp at h
    | drop => simp [ho, none1, Md.home1] at h
    | froze => simp [ho, Md.home1] at h
  | cells l =>
    obtain ⟨l', a', he, hl, hla', h1, h2⟩ := up1_cells F n c a l
    rw [he]
    simp only [Md.home1, av1]
    intro h
    rw [h1 j] at h
    have hj : j < l.length := by
      rcases Nat.lt_or_ge j l.length with h' | h'
      · exact h'
      · rw [getD_over _ _ h'] at h; revert h; cases F ⟨false, n, c, j⟩ .ro <;> simp [upOwn]
    have ho : F ⟨false, n, c, j⟩ (l.getD j .ro) = .keep ∧ l.getD j .ro = .own := by
      revert h; cases hF : F ⟨false, n, c, j⟩ (l.getD j .ro) <;> simp [upOwn]
    rw [h2 j hj, ho.1]
    refine ⟨ho.2, ?_, rfl⟩
    have := ho.1; rwa [ho.2] at this
  | tup l => simp [up1, Md.home1]
  | adr o off => simp [up1, Md.home1]
  | elem p i off => simp [up1, Md.home1]
  | loc d off => simp [up1, Md.home1]
  | fn g caps => simp [up1, Md.home1]
  | mapAt d => simp [up1, Md.home1]
theorem up1_home' (F : Place → Own → Up) (n c j : Nat) (a : AV) (m : Md) (hm : m.home1 j = .own) (hk : F ⟨false, n, c, j⟩ .own = .keep) :
    (up1 F n c a m).2.home1 j = .own := by
  cases m with
  | uni o =>
    simp only [Md.home1] at hm
    split at hm
    · rename_i hj; subst hj hm
      simp [up1, Md.home1, hk]
    · simp at hm
  | cells l =>
    obtain ⟨l', a', he, hl, hla', h1, h2⟩ := up1_cells F n c a l
    rw [he]
    simp only [Md.home1] at hm ⊢
    rw [h1 j, hm, hk]; rfl
  | unk => simp [Md.home1] at hm
  | tup l => simp [Md.home1] at hm
  | adr o off => simp [Md.home1] at hm
  | elem p i off => simp [Md.home1] at hm
  | loc d off => simp [Md.home1] at hm
  | fn g caps => simp [Md.home1] at hm
  | mapAt d => simp [Md.home1] at hm
theorem up1_shape (F : Place → Own → Up) (n c j : Nat) (a : AV) (m : Md) (v : Value) : val1 (up1 F n c a m).2 v j = val1 m v j := by
  cases m with
  | cells l => obtain ⟨l', a', he, _⟩ := up1_cells F n c a l; rw [he]; rfl
  | uni o => simp only [up1]; split <;> rfl
  | _ => rfl

theorem own?_none {o : Own} {x : AV × Value} (h : o ≠ .own) : own? o x = none := by cases o <;> simp_all [own?]

theorem up1_own? (F : Place → Own → Up) (n c j : Nat) (a : AV) (m : Md) (v : Value) :
    own? ((up1 F n c a m).2.home1 j) (av1 (up1 F n c a m).2 (up1 F n c a m).1 j, val1 (up1 F n c a m).2 v j) =
      if isKeep (F ⟨false, n, c, j⟩ .own) then own? (m.home1 j) (av1 m a j, val1 m v j) else none := by
  rw [up1_shape]
  by_cases h : (up1 F n c a m).2.home1 j = .own
  · obtain ⟨h1, h2, h3⟩ := up1_home F n c j a m h
    rw [h, h1, h2, h3]; rfl
  · rw [own?_none h]
    split
    · rename_i hk
      by_cases hm : m.home1 j = .own
      · exact absurd (up1_home' F n c j a m hm (by revert hk; cases F ⟨false, n, c, j⟩ .own <;> simp [isKeep])) h
      · rw [own?_none hm]
    · rfl

theorem homeS_up (F : Place → Own → Up) (n c j : Nat) (a : AV) (m : Md) (v : Value) :
    homeS (upS F n (a, m)).2 (upS F n (a, m)).1 v c j = if isKeep (F ⟨false, n, c, j⟩ .own) then homeS m a v c j else none := by
  cases m with
  | tup l =>
    simp only [upS, homeS]
    rcases Nat.lt_or_ge c l.length with hc | hc
    · have h2 : ((upComps F n (compN a) 0 l).map (·.2)).getD c (.uni .ro) = (up1 F n c (compN a c) (l.getD c (.uni .ro))).2 := by
        have := getD_upComps F n (compN a) none1 l 0 c hc
        rw [Nat.zero_add] at this
        rw [← this]
        simp [List.getD_eq_getElem?_getD, hc, length_upComps]
      have h1 : compN (.tup ((upComps F n (compN a) 0 l).map (·.1))) c = (up1 F n c (compN a c) (l.getD c (.uni .ro))).1 := by
        have := getD_upComps F n (compN a) none1 l 0 c hc
        rw [Nat.zero_add] at this
        rw [← this]
        simp [compN, List.getD_eq_getElem?_getD, hc, length_upComps]
      rw [h1, h2]
      exact up1_own? F n c j (compN a c) _ _
    · rw [getD_over _ _ (by simp [length_upComps, hc]), getD_over _ _ hc]
      have : (Md.uni Own.ro).home1 j = .ro := by simp [Md.home1]
      rw [this]; simp [own?]
  | unk => simp [upS, homeS, Md.home1, own?]
  | uni o =>
    have := up1_own? F n 0 j a (.uni o) v
    by_cases hc : c = 0
    · subst hc
      simp only [upS, up1] at this ⊢
      cases hF : F ⟨false, n, 0, 0⟩ o <;> rw [hF] at this <;> exact this
    · have h0 : homeS (.uni o) a v c j = none := by simp [homeS, hc]
      rw [h0, ite_self]
      simp only [upS, up1]
      cases F ⟨false, n, 0, 0⟩ o <;> simp [none1, homeS, hc]
  | cells l =>
    have := up1_own? F n 0 j a (.cells l) v
    obtain ⟨l', a', he, _⟩ := up1_cells F n 0 a l
    simp only [upS, he, homeS] at this ⊢
    split
    · rename_i hc; subst hc; exact this
    · simp
  | adr o off =>
    have h0 : homeS (.adr o off) a v c j = none := by simp [homeS, Md.home1, own?]
    rw [h0, ite_self]
    simp only [upS]
    split <;> simp [homeS, Md.home1, own?, none1]
  | elem p i off =>
    have h0 : homeS (.elem p i off) a v c j = none := by simp [homeS, Md.home1, own?]
    rw [h0, ite_self]
    simp only [upS]
    split <;> simp [homeS, Md.home1, own?, none1]
  | loc d off => simp [upS, homeS, Md.home1, own?]
  | fn g caps => simp [upS, homeS, Md.home1, own?]
  | mapAt d => simp [upS, homeS, Md.home1, own?]

theorem homes_up (fr : Fr) (F : Place → Own → Up) (ts : Array Value) (bv : Nat → Nat → Value) (p : Place) :
    (fr.up F).homes ts bv p = if isKeep (F p .own) then fr.homes ts bv p else none := by
  obtain ⟨b, n, c, j⟩ := p
  cases b with
  | false =>
    simp only [Fr.homes, getS_up]
    exact homeS_up F n c j (fr.getS n).1 (fr.getS n).2 _
  | true =>
    simp only [Fr.homes, box?_up]
    cases h : fr.box? n with
    | none => simp [homeB]
    | some cs =>
      simp only [Option.map_some, homeB]
      split
      · rename_i hc; subst hc
        rw [getD_upBox, Nat.zero_add]
        by_cases ho : (cs.getD j (.undef, .ro)).2 = .own
        · rw [ho]
          have hB := fun u => upB_ne (u := u) (x := cs.getD j (.undef, .ro)) (by rw [ho]; exact fun e => by cases e)
          cases hF : F ⟨true, n, 0, j⟩ .own <;> rw [hB]
          · rw [upO_keep, ho]; simp [isKeep]
          · simp [upO, isKeep, own?]
          · simp [upO, isKeep, own?]
        · rw [own?_none ho, ite_self, own?_none]
          rcases upB_or (F ⟨true, n, 0, j⟩ (cs.getD j (.undef, .ro)).2) (cs.getD j (.undef, .ro)) with e | e
          rotate_left
          · rw [e]; exact ho
          rw [e, upO_snd]
          cases F ⟨true, n, 0, j⟩ (cs.getD j (.undef, .ro)).2 <;> simp_all [upOwn]
      · simp

/-- What F must heed. -/
structure UpOk (F : Place → Own → Up) (X Y : St) : Prop where
  C : Y.C = X.C
  base : Y.base = X.base
  w : Y.w = X.w
  G : ∀ b, X.G b → Y.G b
  bx : ∀ d b, X.bx d = some b → Y.bx d = some b
  ow : ∀ q a v, X.ow q = some (a, v) → F q .own = .keep → Y.ow q = some (a, v)
  own : ∀ q a v, X.ow q = some (a, v) → OwnR X.C X.G X.base X.w v a
  k : ∀ p q f, F p (.brw q f) = .keep → F q .own = .keep
  z1 : ∀ p a v k, X.ow p = some (a, v) → F p .own = .froze → v.ownBlock = some k → Y.G k
  z2 : ∀ p q f, F p (.brw q f) = .froze → ∀ a v k, X.ow q = some (a, v) → v.ownBlock = some k → Y.G k
  z3 : ∀ p, F p .lent ≠ .froze

section
variable {F : Place → Own → Up} {X Y : St}
theorem UpOk.le (ok : UpOk F X Y) : Le X Y (fun q => F q .own = .keep) where
  C := ok.C
  base := ok.base
  G := ok.G
  low := fun b _ => by rw [ok.w]
  ow := fun q hq a v h => ⟨ok.ow q a v h hq, fun k _ => by rw [ok.w]⟩
theorem UpOk.kept (ok : UpOk F X Y) (v : Value) : keptV X Y v := fun k _ => by rw [ok.w]

theorem RepO.one {X : St} {o : Own} {v : Value} {a : AV} (h : RepO X o v a) : v.oneCell' = true := by
  cases o with
  | ro => exact Frz.one h
  | lent => exact Frz.one h
  | own => exact Frz.one (OwnR.frz (S := fun _ => True) h (fun _ _ => trivial) fun _ _ => trivial)
  | brw q f => obtain ⟨_, _, _, h, _⟩ := h; exact Frz.one h
theorem RepO.up (ok : UpOk F X Y) {o : Own} {v : Value} {a : AV} (h : RepO X o v a) (p : Place) (ho : o = .own → X.ow p = some (a, v)) :
    RepO Y (upO (F p o) (a, o)).2 v (upO (F p o) (a, o)).1 := by
  cases hF : F p o with
  | keep =>
    refine h.mono ok.le ?_ fun _ => ok.kept v
    cases o with
    | brw q f => exact ok.k p q f hF
    | _ => trivial
  | drop => exact .undef v h.one
  | froze =>
    show Frz _ _ _ _ _
    rw [ok.C, ok.w]
    cases o with
    | ro => exact Frz.mono h ok.G fun _ _ => rfl
    | lent => exact absurd hF (ok.z3 p)
    | own => exact OwnR.frz h ok.G fun k hk => ok.z1 p a v k (ho rfl) hF hk
    | brw q f =>
      obtain ⟨qa, qv, hq, hf, _⟩ := h
      exact hf.mono (fun b hb => hb.elim (ok.G b) (ok.z2 p q f hF qa qv b hq)) fun _ _ => rfl

theorem RepU.up (ok : UpOk F X Y) {o : Own} {v : Value} {a : AV} (h : RepU X o v a) (n c : Nat) (ho : o = .own → X.ow ⟨false, n, c, 0⟩ = some (a, v)) :
    Rep1 Y (up1 F n c a (.uni o)).2 v (up1 F n c a (.uni o)).1 := by
  simp only [up1]
  rcases h with h | ⟨ho', vs, la, rfl, rfl, hla, h⟩
  · have := h.up ok ⟨false, n, c, 0⟩ ho
    cases hF : F ⟨false, n, c, 0⟩ o with
    | keep => rw [hF] at this; exact .inl this
    | drop => rfl
    | froze => rw [hF] at this; exact .inl this
  · cases hF : F ⟨false, n, c, 0⟩ o with
    | keep => exact .inr ⟨ho', vs, la, rfl, rfl, hla, fun j hj => (h j hj).mono ok.le (by rcases ho' with rfl | rfl <;> trivial) (by rcases ho' with rfl | rfl <;> simp)⟩
    | drop => rfl
    | froze =>
      rcases ho' with rfl | rfl
      · exact .inr ⟨.inl rfl, vs, la, rfl, rfl, hla, fun j hj => (h j hj).mono ok.le trivial (by simp)⟩
      · exact absurd hF (ok.z3 _)

theorem Rep1.up (ok : UpOk F X Y) {m : Md} {v : Value} {a : AV} (h : Rep1 X m v a) (n c : Nat) (ho : ∀ j, m.home1 j = .own → X.ow ⟨false, n, c, j⟩ = some (av1 m a j, val1 m v j)) :
    Rep1 Y (up1 F n c a m).2 v (up1 F n c a m).1 := by
  cases m with
  | unk => exact h
  | uni o => exact RepU.up ok h n c fun e => ho 0 (by simp [Md.home1, e])
  | cells l =>
    obtain ⟨vs, la, rfl, rfl, hla, hl, h⟩ := h
    obtain ⟨l', a', he, hl', hla', h1, h2⟩ := up1_cells F n c (.agg la) l
    rw [he]
    have hla2 : ∃ la', a' = .agg la' ∧ la'.length = vs.size := by
      rcases hla' with rfl | ⟨la', rfl, e⟩
      · exact ⟨la, rfl, hla⟩
      · exact ⟨la', rfl, e.trans hl.symm⟩
    obtain ⟨la', rfl, e⟩ := hla2
    refine ⟨vs, la', rfl, rfl, e, hl.trans hl'.symm, fun j hj => ?_⟩
    have hj' := hl' ▸ hj
    have := (h j hj').up ok ⟨false, n, c, j⟩ fun e => ho j e
    rw [h1 j, h2 j hj']
    rwa [upO_snd] at this
  | _ => exact h.elim

theorem RepM.up (ok : UpOk F X Y) {m : Md} {v : Value} {a : AV} (h : RepM X m v a) (n : Nat) (ho : ∀ c j x u, homeS m a v c j = some (x, u) → X.ow ⟨false, n, c, j⟩ = some (x, u)) :
    RepM Y (upS F n (a, m)).2 v (upS F n (a, m)).1 := by
  cases m with
  | unk => exact h
  | uni o =>
    have := Rep1.up ok (m := .uni o) h n 0 fun j e => ho 0 j _ _ (by simp [homeS, e, own?])
    simp only [upS]
    revert this
    simp only [up1]
    cases F ⟨false, n, 0, 0⟩ o <;> exact fun h => h
  | cells l =>
    have := Rep1.up ok (m := .cells l) h n 0 fun j e => ho 0 j _ _ (by simp only [homeS, if_true, e, own?])
    obtain ⟨l', a', he, _⟩ := up1_cells F n 0 a l
    simp only [upS, he] at this ⊢
    exact this
  | tup l =>
    obtain ⟨vs, la, rfl, rfl, hl, h⟩ := h
    generalize (AV.tup la) = a at *
    refine ⟨vs, _, rfl, rfl, by simp [length_upComps, hl], fun c hc => ?_⟩
    have hc' : c < l.length := by simpa [length_upComps] using hc
    have h2 : ((upComps F n (compN a) 0 l).map (·.2)).getD c (.uni .ro) = (up1 F n c (compN a c) (l.getD c (.uni .ro))).2 := by
      have := getD_upComps F n (compN a) none1 l 0 c hc'
      rw [Nat.zero_add] at this
      rw [← this]
      simp [List.getD_eq_getElem?_getD, hc', length_upComps]
    have h1 : compN (.tup ((upComps F n (compN a) 0 l).map (·.1))) c = (up1 F n c (compN a c) (l.getD c (.uni .ro))).1 := by
      have := getD_upComps F n (compN a) none1 l 0 c hc'
      rw [Nat.zero_add] at this
      rw [← this]
      simp [compN, List.getD_eq_getElem?_getD, hc', length_upComps]
    show Rep1 Y (((upComps F n (compN a) 0 l).map (·.2)).getD c (.uni .ro)) _ (compN (.tup ((upComps F n (compN a) 0 l).map (·.1))) c)
    rw [h1, h2]
    exact (h c hc').up ok n c fun j e => ho c j _ _ (by simp only [homeS, e, own?]; rfl)
  | adr o off =>
    obtain ⟨b, k, la, rfl, rfl, h⟩ := h
    have := h.up ok ⟨false, n, 0, 0⟩ (by
      rintro rfl
      obtain ⟨T, l, z, s, b', xs, e, _⟩ := (show OwnR _ _ _ _ _ _ from h)
      simp at e)
    simp only [upS]
    cases hF : F ⟨false, n, 0, 0⟩ o with
    | keep => rw [hF] at this; exact ⟨b, k, la, rfl, rfl, this⟩
    | drop => rfl
    | froze => rw [hF] at this; exact ⟨b, k, la, rfl, rfl, this⟩
  | elem q i off =>
    obtain ⟨T, l, z, s, b', g, cap, cs, hq, hi, hil, rfl, rfl, hcs, hj⟩ := h
    simp only [upS]
    cases hF : F ⟨false, n, 0, 0⟩ (.brw q true) with
    | keep =>
      refine ⟨T, l, z, s, b', g, cap, cs, ok.ow q _ _ hq (ok.k _ q true hF), by rw [ok.C]; exact hi, hil, rfl, rfl, hcs, by rw [ok.C]; exact hj⟩
    | drop => rfl
    | froze =>
      refine ⟨g, i * s, cs, rfl, rfl, ?_⟩
      show Frz _ _ _ _ _
      rw [ok.C, ok.w]
      obtain ⟨T', l', z', s', b'', xs, he, hi', how, hp, hr⟩ := ok.own q _ _ hq
      cases he
      rw [hi'] at hi; cases hi
      refine .ref cs g (i * s) (fun j => xs.getD (i * s + j) undef) (fun _ => ok.z2 _ q true hF _ _ g hq rfl) (fun j hjl => ?_) fun j hjl => ?_
      · obtain ⟨c, hc, _⟩ := hr i j hil (by omega)
        have hlt : i * s + j < l.length * s := by
          have : (i + 1) * s ≤ l.length * s := Nat.mul_le_mul_right _ (by omega)
          rw [Nat.add_mul] at this; omega
        rw [how.cellAt _ hlt, hc]
        simp [List.getD_eq_getElem?_getD, hc]
      · obtain ⟨c, hc, hf⟩ := hr i j hil (by omega)
        have : xs.getD (i * s + j) undef = c := by simp [List.getD_eq_getElem?_getD, hc]
        rw [this, hj j (by omega)]
        exact hf.mono ok.G fun _ _ => rfl
  | loc d off =>
    obtain ⟨b, h1, h2⟩ := h
    exact ⟨b, ok.bx d b h1, h2⟩
  | mapAt d =>
    obtain ⟨b, h1, h2⟩ := h
    exact ⟨b, ok.bx d b h1, h2⟩
  | fn g caps =>
    exact RepM.mono (m := .fn g caps) h ok.le ok.bx trivial (by intro c j x u e; simp [homeS, Md.home1, own?] at e)
end

end Go.Dam
