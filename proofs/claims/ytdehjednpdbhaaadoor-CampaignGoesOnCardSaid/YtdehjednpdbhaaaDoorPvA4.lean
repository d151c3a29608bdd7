/- A part of an interpreter of the model's code that is proved sound, and of laws told by it: DamTake. -/
import Derived.Test.YtdehjednpdbhaaaDoorPvA3
set_option linter.unusedVariables false
set_option linter.unusedSimpArgs false
/- Operands; values on their way into a variable, a row, out of the function. -/
namespace Go.Dam
open Go.RowKit
set_option linter.unusedVariables false
set_option linter.unusedSimpArgs false

def aggC (C : Tab) (T : Nat) : Bool := match isAggT C T with
  | some true => true
  | _ => false
/-- The table tells the program. -/
structure Tab.Ok (C : Tab) (P : Program) : Prop where
  fn : ∀ f fn, C.fn f = some fn → C.ext f = none → P.funcs[f]? = some fn ∧ fn.body.isSome = true ∧ (fn.name == "runtime.NumGoroutine") = false
  ty : ∀ t d, C.ty t = some d → P.underlying t = some d
  info : ∀ t z s b, C.info t = some (z, s, b) → ∃ i zv, P.info? t = some i ∧ i.size = s ∧ i.bytes = b ∧ i.zero = some zv ∧ z.length = s ∧ zv.cells = (z.map zval).toArray ∧ (∀ a ∈ z, zcell a = true) ∧
    (∃ d, C.ty t = some d ∧ (isAggD d = false → s = 1)) ∧ (aggC C t = false → zv.cells = #[zv])
  elem : ∀ t e, C.ty t = some (.slice e) → ∃ i, C.info e = some i
  fld : ∀ T fs, C.ty T = some (.struct fs) → ∀ f ∈ fs.toList, ∃ i, P.info? f.type = some i
  zsl : ∀ t z s b T l, C.info t = some (z, s, b) → .sl T l ∈ z → ∃ i, C.info T = some i

section
variable {C : Tab} {P : Program} {w0 : World} {Gin G : Nat → Prop} {gb : Nat → Nat} {fr : Fr} {ts : Array Value} {w : World}

theorem viewO_of {X : St} {o : Own} {v : Value} {a : AV} (h : RepO X o v a) (p : Place) (ho : o = .own → X.ow p = some (a, v)) : RepO X (viewO p o) v a := by
  cases o with
  | own => exact ⟨a, v, ho rfl, OwnR.frz h (fun b h => .inl h) (fun k hk => .inr hk), fun _ => ⟨rfl, rfl⟩⟩
  | _ => exact h
theorem viewU_of {X : St} {o : Own} {v : Value} {a : AV} (h : RepU X o v a) (p : Place) (ho : o = .own → X.ow p = some (a, v)) : RepU X (viewO p o) v a := by
  rcases h with h | ⟨h1, h2⟩
  · exact .inl (viewO_of h p ho)
  · refine .inr ?_
    rcases h1 with rfl | rfl
    · exact ⟨.inl rfl, h2⟩
    · exact ⟨.inr rfl, h2⟩
theorem getD_viewOs (b : Bool) (n c : Nat) : ∀ (l : List Own) (k j : Nat), (viewOs b n c k l).getD j .ro = viewO ⟨b, n, c, k + j⟩ (l.getD j .ro)
  | [], k, j => rfl
  | o :: l, k, 0 => rfl
  | o :: l, k, j + 1 => by
    simp only [viewOs, List.getD_cons_succ]
    rw [getD_viewOs b n c l (k + 1) j, show k + 1 + j = k + (j + 1) by omega]
theorem length_viewOs (b : Bool) (n c : Nat) : ∀ (l : List Own) (k : Nat), (viewOs b n c k l).length = l.length
  | [], _ => rfl
  | o :: l, k => by simp [viewOs, length_viewOs b n c l]
theorem view1_of {X : St} {m : Md} {v : Value} {a : AV} (h : Rep1 X m v a) (b : Bool) (n c : Nat) (ho : ∀ j, m.home1 j = .own → X.ow ⟨b, n, c, j⟩ = some (av1 m a j, val1 m v j)) : Rep1 X (view1 b n c m) v a := by
  cases m with
  | uni o => exact viewU_of h _ fun e => ho 0 (by simp [Md.home1, e])
  | cells l =>
    obtain ⟨vs, la, rfl, rfl, hla, hl, h⟩ := h
    refine ⟨vs, la, rfl, rfl, hla, by rw [length_viewOs]; exact hl, fun j hj => ?_⟩
    rw [length_viewOs] at hj
    rw [getD_viewOs, Nat.zero_add]
    exact viewO_of (h j hj) _ fun e => ho j e
  | unk => exact h
  | _ => exact h.elim
theorem length_viewMs (b : Bool) (n : Nat) : ∀ (l : List Md) (k : Nat), (viewMs b n k l).length = l.length
  | [], _ => rfl
  | o :: l, k => by simp [viewMs, length_viewMs b n l]
theorem getD_viewMs (b : Bool) (n : Nat) : ∀ (l : List Md) (k c : Nat), c < l.length → (viewMs b n k l).getD c (.uni .ro) = view1 b n (k + c) (l.getD c (.uni .ro))
  | [], k, c, h => by simp at h
  | o :: l, k, 0, _ => rfl
  | o :: l, k, c + 1, h => by
    simp only [viewMs, List.getD_cons_succ]
    rw [getD_viewMs b n l (k + 1) c (by simpa using h), show k + 1 + c = k + (c + 1) by omega]
theorem viewM_of {X : St} {m : Md} {v : Value} {a : AV} (h : RepM X m v a) (n : Nat) (ho : ∀ c j x u, homeS m a v c j = some (x, u) → X.ow ⟨false, n, c, j⟩ = some (x, u)) : RepM X (viewM false n m) v a := by
  cases m with
  | unk => exact h
  | uni o => exact view1_of (m := .uni o) h false n 0 fun j e => ho 0 j _ _ (by simp [homeS, e, own?])
  | cells l => exact view1_of (m := .cells l) h false n 0 fun j e => ho 0 j _ _ (by simp only [homeS, if_true, e, own?])
  | tup l =>
    obtain ⟨vs, la, rfl, rfl, hl, h⟩ := h
    refine ⟨vs, la, rfl, rfl, by rw [length_viewMs]; exact hl, fun c hc => ?_⟩
    rw [length_viewMs] at hc
    rw [getD_viewMs _ _ _ _ _ hc, Nat.zero_add]
    exact view1_of (h c hc) false n c fun j e => ho c j _ _ (by simp only [homeS, e, own?]; rfl)
  | adr o off => exact h
  | elem q i off => exact h
  | loc d off => exact h
  | fn g caps => exact h
  | mapAt d => exact h
theorem owns_viewO (p : Place) (o : Own) : (viewO p o).owns = false := by cases o <;> rfl
theorem owns_viewOs (b : Bool) (n c : Nat) : ∀ (l : List Own) (k : Nat), (viewOs b n c k l).any Own.owns = false
  | [], _ => rfl
  | o :: l, k => by simp [viewOs, owns_viewO, owns_viewOs b n c l]
theorem owns_viewMs (b : Bool) (n : Nat) : ∀ (l : List Md) (k : Nat), (Md.tup (viewMs b n k l)).owns = false
  | [], _ => rfl
  | m :: l, k => by
    have := owns_viewMs b n l (k + 1)
    simp only [Md.owns] at this
    simp only [Md.owns, viewMs, List.any_cons, this, Bool.or_false]
    cases m with
    | uni o => exact owns_viewO _ _
    | cells l => exact owns_viewOs _ _ _ _ _
    | _ => rfl
theorem owns_viewM (b : Bool) (n : Nat) (m : Md) : (viewM b n m).owns = false := by
  cases m with
  | uni o => exact owns_viewO _ _
  | cells l => exact owns_viewOs _ _ _ _ _
  | tup l => exact owns_viewMs _ _ _ _
  | _ => rfl

theorem constM_of (X : St) (v : Value) : RepM X (constM v).2 v (constM v).1 := by
  cases v <;> first | rfl | exact .inl (Frz.sc _ rfl) | exact .inl (Frz.undef _ rfl)
theorem owns_constM (v : Value) : (constM v).2.owns = false := by cases v <;> rfl

theorem Inv.ev (h : Inv C w0 Gin G gb fr ts w) (ok : Tab.Ok C P) (ds : List Deferred) (t : Nat) (x : Operand) :
    RepM (stOf C w0.heap.size G gb fr ts w) (ev C fr t x).2 (({ tmps := ts, defers := ds } : Act).eval x) (ev C fr t x).1 ∧
    Fresh G gb fr ts w (ev C fr t x).2 (ev C fr t x).1 (({ tmps := ts, defers := ds } : Act).eval x) := by
  cases x with
  | tmp i =>
    refine ⟨?_, Fresh.of_owns (owns_viewM _ _ _) _ _⟩
    show RepM _ (viewM false i (fr.getS i).2) (ts.getD i undef) (fr.getS i).1
    rcases Nat.lt_or_ge i fr.slots.length with hi | hi
    · exact viewM_of (h.slots i hi) i fun c j x u hx => hx
    · rw [getS_over fr hi]; exact RepM.none1 _ _
  | const v =>
    show RepM _ (Dam.ev C fr t (.const v)).2 v (Dam.ev C fr t (.const v)).1 ∧ Fresh G gb fr ts w (Dam.ev C fr t (.const v)).2 (Dam.ev C fr t (.const v)).1 v
    simp only [Dam.ev]
    split
    · rename_i hn
      split
      · rename_i e he
        obtain ⟨⟨z, s, b⟩, hi⟩ := ok.elem t e he
        have hv : v = .slice none 0 0 := by
          unfold isNilSlice at hn; split at hn <;> simp_all
        subst hv
        refine ⟨.inl (OwnR.nil hi G _ w), fun c j x u k hx hk => ?_⟩
        simp only [homeS] at hx
        split at hx
        · obtain ⟨_, h2⟩ := own?_some hx
          cases h2
          simp [val1, Value.ownBlock] at hk
        · simp at hx
      · exact ⟨RepM.none1 _ _, Fresh.of_owns rfl _ _⟩
    · exact ⟨constM_of _ v, Fresh.of_owns (owns_constM v) _ _⟩
  | func f =>
    simp only [Dam.ev]
    split
    · rename_i hs; exact ⟨⟨rfl, by simp, .inr ⟨rfl, rfl⟩, hs⟩, Fresh.of_owns rfl _ _⟩
    · exact ⟨RepM.none1 _ _, Fresh.of_owns rfl _ _⟩
  | global g => exact ⟨RepM.none1 _ _, Fresh.of_owns rfl _ _⟩

/-- How a frame has come out of another by giving up homes: nothing new stands in it. -/
structure Less (G : Nat → Prop) (fr : Fr) (G' : Nat → Prop) (fr' : Fr) (gb : Nat → Nat) (ts : Array Value) (w : World) : Prop where
  homes : ∀ p a v, fr'.homes ts (bvOf w gb) p = some (a, v) → fr.homes ts (bvOf w gb) p = some (a, v)
  box : ∀ d, (∃ cs, fr'.box? d = some cs) ↔ ∃ cs, fr.box? d = some cs
  len : fr'.slots.length = fr.slots.length
  mono : ∀ b, G b → G' b
  back : ∀ b, G' b → G b ∨ ∃ p a v, fr.homes ts (bvOf w gb) p = some (a, v) ∧ v.ownBlock = some b ∧ fr'.homes ts (bvOf w gb) p = none
  dead : ∀ n, fr.getS n = none1 → fr'.getS n = none1

theorem Less.refl : Less G fr G fr gb ts w := ⟨fun _ _ _ h => h, fun _ => Iff.rfl, rfl, fun _ h => h, fun _ h => .inl h, fun _ h => h⟩
theorem getS_up_dead (F : Place → Own → Up) {n : Nat} (h : fr.getS n = none1) : (fr.up F).getS n = none1 := by rw [getS_up, h]; rfl
theorem Less.trans {G1 G2 : Nat → Prop} {fr1 fr2 : Fr} (h : Less G fr G1 fr1 gb ts w) (k : Less G1 fr1 G2 fr2 gb ts w) : Less G fr G2 fr2 gb ts w where
  homes := fun p a v hp => h.homes p a v (k.homes p a v hp)
  box := fun d => (k.box d).trans (h.box d)
  len := k.len.trans h.len
  mono := fun b hb => k.mono b (h.mono b hb)
  back := fun b hb => by
    rcases k.back b hb with hb | ⟨p, a, v, hp, hk, hn⟩
    · rcases h.back b hb with hb | ⟨p, a, v, hp, hk, hn⟩
      · exact .inl hb
      · refine .inr ⟨p, a, v, hp, hk, ?_⟩
        cases hx : fr2.homes ts (bvOf w gb) p with
        | none => rfl
        | some x => rw [k.homes p x.1 x.2 hx] at hn; simp at hn
    · exact .inr ⟨p, a, v, h.homes p a v hp, hk, hn⟩
  dead := fun n hn => k.dead n (h.dead n hn)
theorem box?_up_iff (F : Place → Own → Up) (d : Nat) : (∃ cs, (fr.up F).box? d = some cs) ↔ ∃ cs, fr.box? d = some cs := by
  rw [box?_up]
  cases fr.box? d <;> simp
theorem Less.nix (bad : Place → Bool) : Less G fr G (fr.nix bad) gb ts w where
  homes := fun p a v hp => by
    rw [homes_nix] at hp
    split at hp
    · simp at hp
    · exact hp
  box := fun d => box?_up_iff _ d
  len := length_upSlots ..
  mono := fun _ h => h
  back := fun _ h => .inl h
  dead := fun _ h => getS_up_dead _ h
theorem Less.kill (p : Place) : Less G fr G (fr.kill p) gb ts w := Less.nix _
theorem Less.freeze (p : Place) : Less G fr (G' G fr ts (bvOf w gb) p) (fr.freeze p) gb ts w where
  homes := fun q a v hp => by
    rw [homes_freeze] at hp
    split at hp
    · simp at hp
    · exact hp
  box := fun d => box?_up_iff _ d
  len := length_upSlots ..
  mono := fun _ h => .inl h
  back := fun b hb => hb.imp id fun ⟨a, v, h1, h2⟩ => ⟨p, a, v, h1, h2, by rw [homes_freeze, if_pos (Place.eqB_self p)]⟩
  dead := fun _ h => getS_up_dead _ h

/-- What stood for something still does, if what it looks at is there. -/
theorem Less.le {G1 : Nat → Prop} {fr1 : Fr} (h : Less G fr G1 fr1 gb ts w) : Le (stOf C w0.heap.size G gb fr ts w) (stOf C w0.heap.size G1 gb fr1 ts w) (fun q => fr1.homes ts (bvOf w gb) q ≠ none) where
  C := rfl
  base := rfl
  G := h.mono
  low := fun _ _ => rfl
  ow := fun q hq a v hqa => ⟨by
    show fr1.homes ts (bvOf w gb) q = _
    cases hx : fr1.homes ts (bvOf w gb) q with
    | none => exact absurd hx hq
    | some x =>
      have := h.homes q x.1 x.2 hx
      rw [show (stOf C w0.heap.size G gb fr ts w).ow q = fr.homes ts (bvOf w gb) q from rfl] at hqa
      rw [← hqa, this], fun _ _ => rfl⟩
theorem Less.bxs {G1 : Nat → Prop} {fr1 : Fr} (h : Less G fr G1 fr1 gb ts w) : ∀ d b, (stOf C w0.heap.size G gb fr ts w).bx d = some b → (stOf C w0.heap.size G1 gb fr1 ts w).bx d = some b := by
  intro d b hb
  obtain ⟨h1, h2⟩ := bx_stOf.1 hb
  exact bx_stOf.2 ⟨(h.box d).2 h1, h2⟩

/-- A cell on its way: as its mark says, or a look at a home that is no more. -/
def Pend (X : St) (o : Own) (v : Value) (a : AV) : Prop := RepO X o v a ∨ ∃ p f, o = .brw p f ∧ X.ow p = none
theorem Pend.less {G1 : Nat → Prop} {fr1 : Fr} {o : Own} {v : Value} {a : AV} (h : Pend (stOf C w0.heap.size G gb fr ts w) o v a) (l : Less G fr G1 fr1 gb ts w) :
    Pend (stOf C w0.heap.size G1 gb fr1 ts w) o v a := by
  rcases h with h | ⟨p, f, rfl, hp⟩
  · cases o with
    | brw p f =>
      cases hx : fr1.homes ts (bvOf w gb) p with
      | none => exact .inr ⟨p, f, rfl, hx⟩
      | some x =>
        refine .inl (h.mono l.le ?_ (by simp))
        show fr1.homes ts (bvOf w gb) p ≠ none
        rw [hx]; simp
    | ro => exact .inl (h.mono l.le trivial fun _ _ _ => rfl)
    | lent => exact .inl (h.mono l.le trivial fun _ _ _ => rfl)
    | own => exact .inl (h.mono l.le trivial fun _ _ _ => rfl)
  · refine .inr ⟨p, f, rfl, ?_⟩
    show fr1.homes ts (bvOf w gb) p = none
    cases hx : fr1.homes ts (bvOf w gb) p with
    | none => rfl
    | some x =>
      have := l.homes p x.1 x.2 hx
      rw [show (stOf C w0.heap.size G gb fr ts w).ow p = fr.homes ts (bvOf w gb) p from rfl] at hp
      rw [hp] at this; simp at this

theorem ownAt_homes {p : Place} (ho : fr.ownAt p = .own) : ∃ a v, fr.homes ts (bvOf w gb) p = some (a, v) := by
  obtain ⟨b, n, c, j⟩ := p
  cases b with
  | true =>
    simp only [Fr.ownAt] at ho
    simp only [Fr.homes]
    split at ho
    · rename_i cs hb
      rw [hb]
      simp only [homeB, if_true, ho, own?]
      exact ⟨_, _, rfl⟩
    · simp at ho
  | false =>
    simp only [Fr.ownAt] at ho
    simp only [Fr.homes, homeS]
    split at ho
    · rename_i l hm
      simp only [hm, ho, own?]
      exact ⟨_, _, rfl⟩
    · split at ho
      · rename_i hm hc
        subst hc
        split
        · rename_i l hl; exact absurd hl (hm l)
        · rw [if_pos rfl, ho]; exact ⟨_, _, rfl⟩
      · simp at ho
end

end Go.Dam
