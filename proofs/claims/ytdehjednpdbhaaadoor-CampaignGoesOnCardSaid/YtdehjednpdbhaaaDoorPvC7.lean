/- A part of an interpreter of the model's code that is proved sound, and of laws told by it: DamRow, DamTwo. -/
import Derived.Test.YtdehjednpdbhaaaDoorPvC6
import Derived.ChangeOld
import Derived.OpenShut
import Derived.SizedLaws
import Derived.ChangeShapes
import Derived.WideShapes
import Derived.Carry
set_option linter.unusedVariables false
set_option linter.unusedSimpArgs false
/- Arguments that are read as data stand for values of the interpreter. -/
namespace Go.Dam
open Go.RowKit
set_option linter.unusedVariables false
set_option linter.unusedSimpArgs false

/-- Well-formed cells (beside the type's zero cell). -/
inductive Wf (C : Tab) : AV → AV → Prop
  | int (k : IntKind) (n0 n : Int) (h : (Lit.int k n).wf = true) : Wf C (.sc (.int k n0)) (.sc (.int k n))
  | bool (b0 b : Bool) : Wf C (.sc (.bool b0)) (.sc (.bool b))
  | string (s0 s : ByteArray) (h : s.size ≤ reachBytes) : Wf C (.sc (.string s0)) (.sc (.string s))
  | sl (T : Nat) (l0 l : List AV) (z : List AV) (s b : Nat) (hi : C.info T = some (z, s, b)) (h1 : l.length ≤ maxLen) (h2 : l.length * b ≤ reachBytes)
      (hag : ∀ i, i < l.length → aggC C T = true → ∃ la, l.getD i .undef = .agg la ∧ la.length = s)
      (h : ∀ i j, i < l.length → j < s → Wf C (z.getD j .undef) (elCell C T (l.getD i .undef) j)) : Wf C (.sl T l0) (.sl T l)
/-- A well-formed value of type t. -/
def WfA (C : Tab) (t : Nat) (a : AV) : Prop := ∃ z s b, C.info t = some (z, s, b) ∧ (aggC C t = true → ∃ la, a = .agg la ∧ la.length = s) ∧ ∀ j, j < s → Wf C (z.getD j .undef) (elCell C t a j)

def sameZ : AV → AV → Bool
  | .sc (.int k _), .sc (.int k' _) => k == k'
  | .sc (.bool _), .sc (.bool _) => true
  | .sc (.string _), .sc (.string _) => true
  | .sl T _, .sl T' _ => T == T'
  | _, _ => false
def sameZs : List AV → List AV → Bool
  | [], [] => true
  | a :: l, b :: m => sameZ a b && sameZs l m
  | _, _ => false
def fieldsGood (C : Tab) (L : List Nat) : Nat → List AV → List Field → Bool
  | _, [], [] => true
  | off, z, f :: fs => f.offset == off && L.contains f.type && (match C.info f.type with
      | some (zf, sf, _) => zf.length == sf && Nat.ble sf z.length && sameZs zf (z.take sf) && fieldsGood C L (off + sf) (z.drop sf) fs
      | none => false)
  | _, _, _ => false
def goodOne (C : Tab) (L : List Nat) (t : Nat) : Bool := match C.ty t, C.info t with
  | some (.int k), some ([.sc (.int k' _)], 1, _) => k == k'
  | some .bool, some ([.sc (.bool _)], 1, _) => true
  | some .string, some ([.sc (.string _)], 1, _) => true
  | some (.slice e), some ([.sl e' _], 1, _) => e == e' && L.contains e && (match C.info e with
      | some (_, s, _) => Nat.blt 0 s
      | none => false)
  | some (.struct fs), some (z, s, _) => z.length == s && fieldsGood C L 0 z fs.toList
  | _, _ => false

section
variable {C : Tab} {P : Program} {w : World} {H : Type} {enc : TypeId × Value → H} {base : Nat} {spare : Nat → Bool} {held : Bool}

theorem Wf.same {z z' a : AV} (h : Wf C z a) (hz : sameZ z z' = true) : Wf C z' a := by
  unfold sameZ at hz
  split at hz
  · simp only [beq_iff_eq] at hz; subst hz
    cases h with
    | int k n0 n h => exact .int _ _ _ h
  · cases h; exact .bool _ _
  · cases h with
    | string _ _ h => exact .string _ _ h
  · simp only [beq_iff_eq] at hz; subst hz
    cases h with
    | sl T l0 l z s b hi h1 h2 hag h => exact .sl _ _ _ z s b hi h1 h2 hag h
  · simp at hz
theorem sameZs_getD : ∀ {l m : List AV}, sameZs l m = true → l.length = m.length ∧ ∀ j, j < l.length → sameZ (l.getD j .undef) (m.getD j .undef) = true
  | [], [], _ => ⟨rfl, by simp⟩
  | [], _ :: _, h => by simp [sameZs] at h
  | _ :: _, [], h => by simp [sameZs] at h
  | a :: l, b :: m, h => by
    simp only [sameZs, Bool.and_eq_true] at h
    obtain ⟨h1, h2⟩ := sameZs_getD h.2
    refine ⟨by simp [h1], fun j hj => ?_⟩
    cases j with
    | zero => exact h.1
    | succ j => simpa using h2 j (by simpa using hj)
theorem mapM_some {α β : Type} {f : α → Option β} : ∀ {l : List α} {r : List β}, l.mapM f = some r → r.length = l.length ∧ ∀ i (hi : i < l.length), ∃ y, f l[i] = some y ∧ r[i]? = some y
  | [], r, h => by simp at h; subst h; exact ⟨rfl, by simp⟩
  | a :: l, r, h => by
    rw [List.mapM_cons] at h
    simp only [bind, Option.bind_eq_some_iff, pure, Option.some.injEq] at h
    obtain ⟨y, hy, r', hr, rfl⟩ := h
    obtain ⟨h1, h2⟩ := mapM_some hr
    refine ⟨by simp [h1], fun i hi => ?_⟩
    cases i with
    | zero => exact ⟨y, hy, rfl⟩
    | succ i => simpa using h2 i (by simpa using hi)

theorem wbytes (ok : Tab.Ok C P) {t : Nat} {z : List AV} {s b : Nat} (hi : C.info t = some (z, s, b)) : P.cellsOf t = s ∧ P.bytesOf t = b := by
  obtain ⟨i, zv, h1, h2, h3, _⟩ := ok.info t z s b hi
  exact ⟨by simp [Program.cellsOf, h1, h2], by simp [Program.bytesOf, h1, h3]⟩

/-- What stands for a cell. -/
def Dec (C : Tab) (w : World) (z : AV) (v : Value) : Prop := ∃ a, Frz C (fun b => b < w.heap.size) w v a ∧ Wf C z a

theorem dec_list {z : List AV} {s : Nat} {f : Nat → Value} (h : ∀ j, j < s → Dec C w (z.getD j .undef) (f j)) :
    ∃ la : List AV, la.length = s ∧ ∀ j, j < s → Frz C (fun b => b < w.heap.size) w (f j) (la.getD j .undef) ∧ Wf C (z.getD j .undef) (la.getD j .undef) := by
  refine ⟨(List.range s).map fun j => if hj : j < s then (h j hj).choose else .undef, by simp, fun j hj => ?_⟩
  have : (List.map (fun j => if hj : j < s then (h j hj).choose else AV.undef) (List.range s)).getD j .undef = (h j hj).choose := by
    simp [List.getD_eq_getElem?_getD, hj]
  rw [this]
  exact (h j hj).choose_spec

theorem Wf.plain {z a : AV} (h : Wf C z a) (hp : isPlain z = true) : isSc a = true := by
  cases h <;> first | rfl | simp [isPlain] at hp
theorem weightsAll_mem {e : Nat} : ∀ {l : List (DataW H × List MemPlace)} {i : Nat} {y : DataW H × List MemPlace}, l[i]? = some y → ∀ n ∈ y.1.weights P e, n ∈ DataW.weightsAll P e (l.map (·.1))
  | [], _, _, h, _, _ => by simp at h
  | x :: l, 0, y, h, n, hn => by
    simp only [List.getElem?_cons_zero, Option.some.injEq] at h
    subst h
    simp [DataW.weightsAll, hn]
  | x :: l, i + 1, y, h, n, hn => by
    simp only [List.getElem?_cons_succ] at h
    have := weightsAll_mem h n hn
    simp [DataW.weightsAll, this]

theorem fields_dec (ok : Tab.Ok C P) {L : List Nat} (hL : ∀ t ∈ L, goodOne C L t = true) {fuel : Nat}
    (ih : ∀ (t : Nat) (cs : List Value) (x : DataW H × List MemPlace), DataW.trod enc P w base spare held fuel t cs = some x → t ∈ L →
      (∀ n ∈ x.1.weights P t, n ≤ reachBytes) → ∀ z s b, C.info t = some (z, s, b) → cs.length = s ∧ ∀ j, j < s → Dec C w (z.getD j .undef) (cs.getD j undef)) :
    ∀ (fs : List Field) (off : Nat) (z : List AV) (xs : List (DataW H × List MemPlace)) (cs : List Value), fieldsGood C L off z fs = true →
    (fs.mapM fun f => DataW.trod enc P w base spare held fuel f.type ((cs.drop f.offset).take (P.cellsOf f.type))) = some xs →
    (∀ n ∈ DataW.weightsEach P (fs.map (·.type)) (xs.map (·.1)), n ≤ reachBytes) → ∀ j, j < z.length → Dec C w (z.getD j .undef) (cs.getD (off + j) undef)
  | [], off, [], xs, cs, _, _, _, j, hj => by simp at hj
  | [], off, _ :: _, xs, cs, h, _, _, j, hj => by simp [fieldsGood] at h
  | f :: fs, off, z, xs, cs, h, hm, hw, j, hj => by
    simp only [fieldsGood, Bool.and_eq_true, beq_iff_eq] at h
    obtain ⟨⟨rfl, h2⟩, h3⟩ := h
    split at h3
    case h_2 => simp at h3
    rename_i zf sf bf hif
    simp only [Bool.and_eq_true, beq_iff_eq, Nat.ble_eq] at h3
    obtain ⟨⟨⟨h4, h5⟩, h6⟩, h7⟩ := h3
    rw [List.mapM_cons] at hm
    simp only [bind, Option.bind_eq_some_iff, pure, Option.some.injEq] at hm
    obtain ⟨y, hy, xs', hxs, rfl⟩ := hm
    simp only [List.map_cons, DataW.weightsEach, List.mem_append] at hw
    rw [(wbytes ok hif).1] at hy
    obtain ⟨g1, g2⟩ := ih f.type _ y hy (List.contains_iff_mem.1 h2) (fun n hn => hw n (.inl hn)) zf sf bf hif
    rcases Nat.lt_or_ge j sf with hjs | hjs
    · obtain ⟨a, ha, hwf⟩ := g2 j hjs
      obtain ⟨_, e2⟩ := sameZs_getD h6
      have e3 := e2 j (by omega)
      refine ⟨a, ?_, hwf.same ?_⟩
      · have : (List.take sf (List.drop f.offset cs)).getD j undef = cs.getD (f.offset + j) undef := by
          simp [List.getD_eq_getElem?_getD, List.getElem?_take, hjs, List.getElem?_drop]
        rwa [this] at ha
      · have : (z.take sf).getD j .undef = z.getD j .undef := by simp [List.getD_eq_getElem?_getD, List.getElem?_take, hjs]
        rwa [this] at e3
    · have := fields_dec ok hL ih fs (f.offset + sf) (z.drop sf) xs' cs h7 hxs (fun n hn => hw n (.inr hn)) (j - sf) (by simp; omega)
      have e1 : (z.drop sf).getD (j - sf) .undef = z.getD j .undef := by simp [List.getD_eq_getElem?_getD, List.getElem?_drop, show sf + (j - sf) = j by omega]
      rw [e1, show f.offset + sf + (j - sf) = f.offset + j by omega] at this
      exact this

theorem trod_dec (ok : Tab.Ok C P) {L : List Nat} (hL : ∀ t ∈ L, goodOne C L t = true) : ∀ (fuel t : Nat) (cs : List Value) (x : DataW H × List MemPlace), DataW.trod enc P w base spare held fuel t cs = some x → t ∈ L →
    (∀ n ∈ x.1.weights P t, n ≤ reachBytes) → ∀ z s b, C.info t = some (z, s, b) → cs.length = s ∧ ∀ j, j < s → Dec C w (z.getD j .undef) (cs.getD j undef)
  | 0, t, cs, x, h, _, _, _, _, _, _ => by simp [DataW.trod] at h
  | fuel + 1, t, cs, x, h, ht, hw, z, s, b, hi => by
    have ih := trod_dec ok hL fuel
    have hg := hL t ht
    unfold goodOne at hg
    rw [hi] at hg
    split at hg
    · rename_i k k' n0 b' hty heq
      cases heq
      have hu := ok.ty t _ hty
      simp only [beq_iff_eq] at hg
      subst hg
      simp only [DataW.trod, hu] at h
      split at h <;> first | (simp at h; done) | skip
      all_goals (rename_i heq; first | (cases heq; done) | skip)
      rename_i k2 n heq2
      cases heq
      split at h
      · rename_i hc
        obtain ⟨rfl, hwf⟩ := hc
        refine ⟨rfl, fun j hj => ?_⟩
        obtain rfl : j = 0 := by omega
        exact ⟨_, .sc _ rfl, .int _ _ _ hwf⟩
      · simp at h
    · rename_i b0 b' hty heq
      cases heq
      have hu := ok.ty t _ hty
      simp only [DataW.trod, hu] at h
      split at h <;> first | (simp at h; done) | skip
      all_goals (rename_i heq; first | (cases heq; done) | skip)
      exact ⟨rfl, fun j hj => by
        obtain rfl : j = 0 := by omega
        exact ⟨_, .sc _ rfl, .bool _ _⟩⟩
    · rename_i b0 b' hty heq
      cases heq
      have hu := ok.ty t _ hty
      simp only [DataW.trod, hu] at h
      split at h <;> first | (simp at h; done) | skip
      all_goals (rename_i heq; first | (cases heq; done) | skip)
      split at h
      · simp only [Option.some.injEq] at h
        subst h
        refine ⟨rfl, fun j hj => ?_⟩
        obtain rfl : j = 0 := by omega
        refine ⟨_, .sc _ rfl, .string _ _ ?_⟩
        have := hw _ (by simp only [DataW.weights]; exact List.mem_cons_self)
        simpa using this
      · simp at h
    · rename_i e e' l0 b' hty heq
      cases heq
      have hu := ok.ty t _ hty
      simp only [Bool.and_eq_true, beq_iff_eq] at hg
      obtain ⟨⟨rfl, heL⟩, hs⟩ := hg
      split at hs
      case h_2 => simp at hs
      rename_i ze se be hie
      have hs0 : 0 < se := by simpa using hs
      obtain ⟨hce, hbe⟩ := wbytes ok hie
      simp only [DataW.trod, hu] at h
      split at h <;> first | (simp at h; done) | skip
      all_goals (rename_i heq; first | (cases heq; done) | skip)
      · simp only [Option.some.injEq] at h
        subst h
        refine ⟨rfl, fun j hj => ?_⟩
        obtain rfl : j = 0 := by omega
        refine ⟨.sl e [], .sl e [] none 0 se be ze ⟨0, 0, none⟩ (fun _ _ => undef) hie (Nat.le_refl _) (by simp) (by simp) (by simp) (by simp) (by simp), .sl e _ [] ze se be hie (by simp) (by simp) (by simp) (by simp)⟩
      · cases heq
        rename_i a len cap
        split at h
        case isFalse => simp at h
        rename_i hc
        obtain ⟨hc1, hc2, hc3⟩ := hc
        simp only [Option.bind_eq_some_iff, Option.map_eq_some_iff] at h
        obtain ⟨elems, hel, rest, hrest, rfl⟩ := h
        obtain ⟨hlen, hget⟩ := mapM_some hel
        simp only [List.length_range] at hlen hget
        rw [hce] at hget
        simp only [DataW.weights, hu, List.length_map, hbe, List.mem_cons, List.mem_append, forall_eq_or_imp] at hw
        obtain ⟨hw1, hw2⟩ := hw
        have hmul : len * be ≤ reachBytes := Nat.le_trans (Nat.mul_le_mul_right _ (by omega)) hw1
        -- the elements
        have hone : ∀ i, i < len → ∃ csi, w.cells? base (a.add (i * se)) se = some csi ∧ csi.length = se ∧ ∀ j, j < se → Dec C w (ze.getD j .undef) (csi.getD j undef) := by
          intro i hil
          obtain ⟨y, hy, hry⟩ := hget i hil
          simp only [List.getElem_range, Option.bind_eq_some_iff] at hy
          obtain ⟨csi, hcs, hty⟩ := hy
          obtain ⟨g1, g2⟩ := ih e csi y hty (List.contains_iff_mem.1 heL) (fun n hn => hw2 n (.inl (weightsAll_mem hry n hn))) ze se be hie
          exact ⟨csi, hcs, g1, g2⟩
        have hcell : ∀ i, i < len → ∀ csi, w.cells? base (a.add (i * se)) se = some csi → ∀ j, j < se → w.cell? ((a.add (i * se)).add j) = some (csi.getD j undef) := by
          intro i hil csi hcs j hj
          unfold World.cells? at hcs
          split at hcs
          · obtain ⟨h1, h2⟩ := mapM_some hcs
            obtain ⟨y, hy, hry⟩ := h2 j (by simpa using hj)
            simp only [List.getElem_range] at hy
            rw [hy, List.getD_eq_getElem?_getD, hry]; rfl
          · simp at hcs
        have hsp : 0 < len → a.spot = none ∧ a.block < w.heap.size := by
          intro h0
          obtain ⟨csi, hcs, _, _⟩ := hone 0 h0
          have := hcell 0 h0 csi hcs 0 hs0
          rw [Nat.zero_mul] at this
          have e0 : (a.add 0).add 0 = a := rfl
          rw [e0] at this
          refine ⟨by simpa using World.cell?_spot this, ?_⟩
          unfold World.cell? at this
          rcases Nat.lt_or_ge a.block w.heap.size with h' | h'
          · exact h'
          · rw [Array.getElem?_eq_none h'] at this; simp at this
        have hall : ∀ i, ∃ la : List AV, i < len → la.length = se ∧ ∀ j, j < se → ∃ v, w.cell? (a.add (i * se + j)) = some v ∧ Frz C (fun b => b < w.heap.size) w v (la.getD j .undef) ∧ Wf C (ze.getD j .undef) (la.getD j .undef) := by
          intro i
          by_cases hil : i < len
          · obtain ⟨csi, hcs, g1, g2⟩ := hone i hil
            obtain ⟨la, hla, hd⟩ := dec_list g2
            refine ⟨la, fun _ => ⟨hla, fun j hj => ⟨_, ?_, hd j hj⟩⟩⟩
            have := hcell i hil csi hcs j hj
            obtain ⟨s1, _⟩ := hsp (by omega)
            rw [Addr.add_none s1] at this ⊢
            rw [Addr.add_none rfl] at this
            rw [← this]; congr 2; simp; omega
          · exact ⟨[], fun h => absurd h hil⟩
        obtain ⟨d, hd, hd', hag, hzl, hone'⟩ := isAggT_of ok hie
        let el : Nat → AV := fun i => if aggC C e = true then .agg (hall i).choose else (hall i).choose.getD 0 .undef
        have hel' : ∀ i j, i < len → j < se → elCell C e (el i) j = (hall i).choose.getD j .undef := by
          intro i j hil hj
          show elCell C e (if aggC C e = true then .agg (hall i).choose else (hall i).choose.getD 0 .undef) j = _
          have e1 : ∀ a, elCell C e a j = if aggC C e = true then cellN a j else a := fun a => by
            unfold elCell aggC
            cases hx : isAggT C e with
            | none => rfl
            | some bb => cases bb <;> rfl
          rw [e1]
          cases hA : aggC C e with
          | true => simp [cellN]
          | false =>
            have hs1 : se = 1 := hone' (by rw [← hag, hA])
            obtain rfl : j = 0 := by omega
            simp
        have hl : ((List.range len).map el).length = len := by simp
        have hgd : ∀ i, i < len → ((List.range len).map el).getD i .undef = el i := fun i hil => by simp [List.getD_eq_getElem?_getD, hil]
        refine ⟨rfl, fun j hj => ?_⟩
        obtain rfl : j = 0 := by omega
        refine ⟨.sl e ((List.range len).map el), ?_, .sl e _ _ ze se be hie (by rw [hl]; exact Nat.le_trans hc2 hc3) (by rw [hl]; exact hmul) ?_ ?_⟩
        · have hA : ∀ i j, ∃ v, i < len → j < se → w.cell? (a.add (i * se + j)) = some v ∧ Frz C (fun b => b < w.heap.size) w v ((hall i).choose.getD j .undef) ∧ Wf C (ze.getD j .undef) ((hall i).choose.getD j .undef) := by
            intro i j
            by_cases hil : i < len
            · by_cases hj : j < se
              · obtain ⟨v, hv⟩ := ((hall i).choose_spec hil).2 j hj
                exact ⟨v, fun _ _ => hv⟩
              · exact ⟨undef, fun _ h => absurd h hj⟩
            · exact ⟨undef, fun h => absurd h hil⟩
          have := Frz.sl (C := C) (S := fun b => b < w.heap.size) (w := w) e ((List.range len).map el) (some a) cap se be ze a (fun i j => (hA i j).choose) hie (by rw [hl]; exact hc2) hc3
            (fun h0 => ⟨rfl, (hsp (by rwa [hl] at h0)).2, (hsp (by rwa [hl] at h0)).1⟩)
            (fun i j hil hj => by rw [hl] at hil; exact ((hA i j).choose_spec hil hj).1)
            (fun i j hil hj hpl => by
              rw [hl] at hil
              rw [hgd i hil, hel' i j hil hj]
              exact ((hA i j).choose_spec hil hj).2.2.plain hpl)
            (fun i j hil hj => by
              rw [hl] at hil
              rw [hgd i hil, hel' i j hil hj]
              exact ((hA i j).choose_spec hil hj).2.1)
          rw [hl] at this
          exact this
        · intro i hil hA
          rw [hl] at hil
          rw [hgd i hil]
          refine ⟨(hall i).choose, ?_, ((hall i).choose_spec hil).1⟩
          show (if aggC C e = true then AV.agg (hall i).choose else _) = _
          rw [if_pos hA]
        · intro i j hil hj
          rw [hl] at hil
          rw [hgd i hil, hel' i j hil hj]
          obtain ⟨v, _, _, h3⟩ := ((hall i).choose_spec hil).2 j hj
          exact h3
    · rename_i fs z' s' b' hty heq
      cases heq
      have hu := ok.ty t _ hty
      simp only [Bool.and_eq_true, beq_iff_eq] at hg
      obtain ⟨hzl, hg⟩ := hg
      simp only [DataW.trod, hu] at h
      split at h
      · rename_i hl
        rw [(wbytes ok hi).1] at hl
        simp only [Option.map_eq_some_iff] at h
        obtain ⟨xs, hxs, rfl⟩ := h
        simp only [DataW.weights, hu] at hw
        refine ⟨hl, fun j hj => ?_⟩
        have := fields_dec ok hL ih fs.toList 0 z xs cs hg hxs hw j (by omega)
        rwa [Nat.zero_add] at this
      · simp at h
    · simp at hg

theorem aggC_eq (ok : Tab.Ok C P) {t : Nat} {d : TypeDesc} (hd : C.ty t = some d) : aggC C t = isAggD d := by
  simp only [aggC, isAggT, hd]
  cases isAggD d <;> rfl
theorem elCell_eq (t : Nat) (a : AV) (j : Nat) : elCell C t a j = if aggC C t = true then cellN a j else a := by
  unfold elCell aggC
  cases hx : isAggT C t with
  | none => rfl
  | some bb => cases bb <;> rfl
theorem arg_dec (ok : Tab.Ok C P) {L : List Nat} (hL : ∀ t ∈ L, goodOne C L t = true) {r : Reach} {b0 t : Nat} {v : Value} {d : DataW H} {p : List MemPlace} (ht : t ∈ L) (hval : Value.okWide P w r b0 t v)
    (h : DataW.Trod enc P w base spare held t v d p) (hw : ∀ n ∈ d.weights P t, n ≤ reachBytes) : ∃ a, FrzV C (fun b => b < w.heap.size) w v a ∧ WfA C t a := by
  obtain ⟨fuel, hf⟩ := h
  have hg := hL t ht
  obtain ⟨z, s, b, hi⟩ : ∃ z s b, C.info t = some (z, s, b) := by
    cases hx : C.info t with
    | none =>
      unfold goodOne at hg
      rw [hx] at hg
      split at hg <;> first | (rename_i heq; cases heq; done) | (rename_i heq _; cases heq; done) | (simp at hg; done) | simp_all
    | some q => exact ⟨q.1, q.2.1, q.2.2, rfl⟩
  obtain ⟨hl, hd⟩ := trod_dec ok hL fuel t _ (d, p) hf ht hw z s b hi
  obtain ⟨la, hla, hc⟩ := dec_list hd
  obtain ⟨dd, hdd, hdd', hag, hzl, hone⟩ := isAggT_of ok hi
  have hu := ok.ty t dd hdd
  cases hA : aggC C t with
  | true =>
    have hsa : ∃ cs, v = .agg cs := by
      rw [aggC_eq ok hdd] at hA
      unfold Value.okWide at hval
      rw [hu] at hval
      cases dd <;> simp only [isAggD, Bool.false_eq_true] at hA
      · obtain ⟨cs, h1, _⟩ := hval; exact ⟨cs, h1⟩
      · obtain ⟨cs, h1, _⟩ := hval; exact ⟨cs, h1⟩
    obtain ⟨cs, rfl⟩ := hsa
    simp only [Value.cells] at hl hc
    refine ⟨.agg la, .inl ⟨cs, la, rfl, rfl, by rw [hla, ← hl]; simp, fun j hj => ?_⟩, z, s, b, hi, fun _ => ⟨la, rfl, hla⟩, fun j hj => ?_⟩
    · have := (hc j (by rw [← hl]; simpa using hj)).1
      simpa [cellN, List.getD_eq_getElem?_getD] using this
    · rw [elCell_eq, if_pos hA]
      exact (hc j hj).2
  | false =>
    have hs1 : s = 1 := hone (by rw [← hag, hA])
    subst hs1
    have hcv : v.cells = #[v] := by
      rw [aggC_eq ok hdd] at hA
      unfold Value.okWide at hval
      rw [hu] at hval
      cases v with
      | agg cs => cases dd <;> simp_all [isAggD, Cell.okWide, Cell.ok]
      | _ => rfl
    rw [hcv] at hc
    obtain ⟨h1, h2⟩ := hc 0 (by omega)
    refine ⟨la.getD 0 .undef, .inr (by simpa using h1), z, 1, b, hi, fun h => by simp [hA] at h, fun j hj => ?_⟩
    obtain rfl : j = 0 := by omega
    rw [elCell_eq, hA]
    simpa using h2

theorem args_dec (ok : Tab.Ok C P) {L : List Nat} (hL : ∀ t ∈ L, goodOne C L t = true) {r : Reach} {b0 : Nat} : ∀ (ts : List Nat) (vs : List Value) (ds : List (DataW H)) (p : List MemPlace), (∀ t ∈ ts, t ∈ L) →
    DataW.TrodAll enc P w base spare held ts vs ds p → (∀ (j : Nat) t v, ts[j]? = some t → vs[j]? = some v → Value.okWide P w r b0 t v) → (∀ n ∈ DataW.weightsEach P ts ds, n ≤ reachBytes) →
    ∃ as : List AV, as.length = ts.length ∧ vs.length = ts.length ∧ ∀ j t, ts[j]? = some t → FrzV C (fun b => b < w.heap.size) w (vs.getD j undef) (as.getD j .undef) ∧ WfA C t (as.getD j .undef)
  | [], vs, ds, p, _, h, _, _ => by
    cases vs with
    | nil => exact ⟨[], rfl, rfl, by simp⟩
    | cons v vs => cases ds <;> exact h.elim
  | t :: ts, [], ds, p, _, h, _, _ => by cases ds <;> exact h.elim
  | t :: ts, v :: vs, [], p, _, h, _, _ => h.elim
  | t :: ts, v :: vs, d :: ds, p, hts, h, hval, hw => by
    obtain ⟨p1, q, h1, h2, _⟩ := h
    simp only [DataW.weightsEach, List.mem_append] at hw
    obtain ⟨a, ha⟩ := arg_dec ok hL (hts t (by simp)) (hval 0 t v rfl rfl) h1 (fun n hn => hw n (.inl hn))
    obtain ⟨as, g1, g2, g3⟩ := args_dec ok hL ts vs ds q (fun t ht => hts t (by simp [ht])) h2 (fun j t v h h' => hval (j + 1) t v (by simpa using h) (by simpa using h')) (fun n hn => hw n (.inr hn))
    refine ⟨a :: as, by simp [g1], by simp [g2], fun j t' hj => ?_⟩
    cases j with
    | zero => simp at hj; subst hj; exact ha
    | succ j => simpa using g3 j t' (by simpa using hj)

theorem args_back (hl : laidOutB P = true) {w' : World} (hb : Below w.heap.size w w') : ∀ (ts : List Nat) (vs : List Value) (ds : List (DataW H)) (p : List MemPlace), (∀ t ∈ ts, P.readableRec t = true ∧ t < P.types.size) →
    DataW.TrodAll enc P w 0 (fun _ => true) true ts vs ds p → ∃ q, DataW.TrodAll enc P w' 0 (fun b => decide (b < w.heap.size)) true ts vs ds q
  | [], vs, ds, p, _, h => by
    cases vs with
    | nil =>
      cases ds with
      | nil => exact ⟨[], rfl⟩
      | cons _ _ => exact h.elim
    | cons v vs => cases ds <;> exact h.elim
  | t :: ts, [], ds, p, _, h => by cases ds <;> exact h.elim
  | t :: ts, v :: vs, [], p, _, h => h.elim
  | t :: ts, v :: vs, d :: ds, p, hts, h => by
    obtain ⟨p1, q, h1, h2, _⟩ := h
    obtain ⟨g1, g2⟩ := hts t (by simp)
    obtain ⟨q2, hq2⟩ := args_back hl hb ts vs ds q (fun t ht => hts t (by simp [ht])) h2
    exact ⟨p1 ++ q2, p1, q2, Below.trod hl g1 g2 h1 hb (by obtain ⟨m, hm⟩ := h1; exact DataW.trod_lt m _ _ _ hm), hq2, rfl⟩

/-- A law of which the interpreter tells true for each well-formed input returns true. -/
theorem law_calls (ok : Tab.Ok C P) (ok2 : Tab.Ok2 C P) (eqok : EqOk C P) {L : List Nat} (hL : ∀ t ∈ L, goodOne C L t = true) {f : Nat} (hext : C.ext f = none) {tb : Nat} (hres : C.res f = [tb]) (hsh : C.share f = []) (hflat : C.flat tb = true)
    {r : Reach} {b0 : Nat} {ts : List Nat} (hts : ∀ t ∈ ts, t ∈ L) {args : Array Value} {ds : List (DataW H)} {p : List MemPlace}
    (law : ∀ as : List AV, as.length = ts.length → (∀ j t, ts[j]? = some t → WfA C t (as.getD j .undef)) → ∃ k, run C k f as = some (.sc (.bool true)))
    (h : DataW.TrodAll enc P w base spare held ts args.toList ds p) (hval : ∀ (j : Nat) t v, ts[j]? = some t → args[j]? = some v → Value.okWide P w r b0 t v) (hw : (DataW.weightsEach P ts ds).all (· ≤ reachBytes) = true) (hlay : C.lay w) :
    Calls P f args w fun e w' => e = .returned (.bool true) ∧ Below w.heap.size w w' := by
  obtain ⟨as, h1, h2, h3⟩ := args_dec ok hL ts args.toList ds p hts h (fun j t v hj hv => hval j t v hj (by simpa using hv)) (fun n hn => by simpa using List.all_eq_true.1 hw n hn)
  obtain ⟨k, hk⟩ := law as h1 fun j t hj => (h3 j t hj).2
  cases k with
  | zero => simp [run] at hk
  | succ k =>
    obtain ⟨_, hc⟩ := run_calls ok ok2 eqok (run_ok ok ok2 eqok k) hext hk args w (fun _ => False) hlay (fun _ h => h.elim) ⟨by omega, fun j hj => by
      obtain ⟨t, ht⟩ : ∃ t, ts[j]? = some t := ⟨_, List.getElem?_eq_getElem (by omega)⟩
      exact ⟨(h3 j t ht).1, by simp [hsh]⟩⟩
    refine hc.mono fun e w' he => ?_
    cases e with
    | returned v =>
      obtain ⟨G', hb, _, hr⟩ := he
      have := hr.rep
      rw [hres] at this
      exact ⟨by rw [RepM.sc this], hb⟩
    | _ => exact he.elim
end
end Go.Dam

/- A second table over a first one: what stands for what does not look at the functions that are told by hand. -/
namespace Go.Dam
open Go.RowKit
set_option linter.unusedVariables false
set_option linter.unusedSimpArgs false
/-- The table with other functions told by hand, and other variables looked at. -/
def Tab.two (C : Tab) (e : Nat → Option (List AV → Option AV)) (l : World → Prop) : Tab := { C with ext := e, lay := l }
section
variable {C : Tab} {P : Program} {e : Nat → Option (List AV → Option AV)} {l : World → Prop}
theorem Frz.two {S : Nat → Prop} {w : World} {v : Value} {a : AV} (h : Frz C S w v a) : Frz (C.two e l) S w v a := by
  induction h with
  | undef v h1 => exact .undef v h1
  | sc v h1 => exact .sc v h1
  | sl T l A cap s b z ad cv hi hcap hm hA hc hp hr ih => exact .sl T l A cap s b z ad cv hi hcap hm hA hc hp ih
  | ref l b o cv hS hc hr ih => exact .ref l b o cv hS hc ih
  | fn g caps vs hs hl hr ih => exact .fn g caps vs hs hl ih
  | er t v => exact .er t v
theorem Tab.two_back (C : Tab) (e : Nat → Option (List AV → Option AV)) (l : World → Prop) : (C.two e l).two C.ext C.lay = C := rfl
theorem Frz.back {S : Nat → Prop} {w : World} {v : Value} {a : AV} (h : Frz (C.two e l) S w v a) : Frz C S w v a := by
  have := Frz.two (e := C.ext) (l := C.lay) h
  rwa [Tab.two_back] at this
theorem FrzV.back {S : Nat → Prop} {w : World} {v : Value} {a : AV} (h : FrzV (C.two e l) S w v a) : FrzV C S w v a := by
  rcases h with ⟨vs, la, h1, h2, h3, h4⟩ | h
  · exact .inl ⟨vs, la, h1, h2, h3, fun j hj => (h4 j hj).back⟩
  · exact .inr h.back
theorem OwnR.two {G : Nat → Prop} {base : Nat} {w : World} {v : Value} {a : AV} (h : OwnR C G base w v a) : OwnR (C.two e l) G base w v a := by
  obtain ⟨T, ls, z, s, b, xs, h1, h2, h3, h4, h5⟩ := h
  exact ⟨T, ls, z, s, b, xs, h1, h2, h3, h4, fun i j hi hj => by
    obtain ⟨c, hc, hf⟩ := h5 i j hi hj
    exact ⟨c, hc, hf.two⟩⟩
def St.two (X : St) (e : Nat → Option (List AV → Option AV)) (l : World → Prop) : St := { X with C := X.C.two e l }
theorem RepO.two {X : St} {o : Own} {v : Value} {a : AV} (h : RepO X o v a) : RepO (X.two e l) o v a := by
  cases o with
  | ro => exact Frz.two h
  | lent => exact Frz.two h
  | own => exact OwnR.two h
  | brw q f =>
    obtain ⟨qa, qv, h1, h2, h3⟩ := h
    exact ⟨qa, qv, h1, h2.two, h3⟩
theorem RepU.two {X : St} {o : Own} {v : Value} {a : AV} (h : RepU X o v a) : RepU (X.two e l) o v a := by
  rcases h with h | ⟨ho, vs, la, h1, h2, h3, h4⟩
  · exact .inl h.two
  · exact .inr ⟨ho, vs, la, h1, h2, h3, fun j hj => (h4 j hj).two⟩
theorem RepC.two {X : St} {o : List Own} {v : Value} {a : AV} (h : RepC X o v a) : RepC (X.two e l) o v a := by
  obtain ⟨vs, la, h1, h2, h3, h4, h5⟩ := h
  exact ⟨vs, la, h1, h2, h3, h4, fun j hj => (h5 j hj).two⟩
theorem Rep1.two {X : St} {m : Md} {v : Value} {a : AV} (h : Rep1 X m v a) : Rep1 (X.two e l) m v a := by
  cases m with
  | uni o => exact RepU.two h
  | cells o => exact RepC.two h
  | _ => exact h
theorem RepM.two {X : St} {m : Md} {v : Value} {a : AV} (h : RepM X m v a) : RepM (X.two e l) m v a := by
  cases m with
  | unk => exact h
  | uni o => exact RepU.two h
  | cells o => exact RepC.two h
  | tup ms =>
    obtain ⟨vs, la, h1, h2, h3, h4⟩ := h
    exact ⟨vs, la, h1, h2, h3, fun c hc => (h4 c hc).two⟩
  | adr o off =>
    obtain ⟨b, k, la, h1, h2, h3⟩ := h
    exact ⟨b, k, la, h1, h2, h3.two⟩
  | elem q i off => exact h
  | loc d off => exact h
  | mapAt d => exact h
  | fn g caps => exact h
theorem resMd_two (ro : Bool) : ∀ ts : List Nat, resMd (C.two e l) ro ts = resMd C ro ts
  | [] => rfl
  | t :: ts => by
    simp only [resMd]
    rw [resMd_two ro ts]
    rfl
theorem retMd_two (ro : Bool) (ts : List Nat) : retMd (C.two e l) ro ts = retMd C ro ts := by
  unfold retMd
  split <;> rw [resMd_two]
theorem RetOk.two {ro : Bool} {G : Nat → Prop} {base : Nat} {w : World} {ts : List Nat} {v : Value} {a : AV} (h : RetOk C ro G base w ts v a) : RetOk (C.two e l) ro G base w ts v a :=
  ⟨by rw [retMd_two]; exact RepM.two (X := st0 C G base w) h.rep, by rw [retMd_two]; exact h.sep, h.agg⟩
theorem ArgsOk.back {Gin : Nat → Prop} {w : World} {bs : List Bool} {vals : List Value} {args : List AV} (h : ArgsOk (C.two e l) Gin w bs vals args) : ArgsOk C Gin w bs vals args :=
  ⟨h.1, fun j hj => ⟨(h.2 j hj).1.back, fun hb => ((h.2 j hj).2 hb).back⟩⟩
/-- What the first table tells of a function is a contract at the second. -/
theorem run_two (ok : Tab.Ok C P) (ok2 : Tab.Ok2 C P) (eqok : EqOk C P) (hl : ∀ w, l w → C.lay w) (k f : Nat) (args : List AV) (r : AV) (h : run C k f args = some r) : ContractL (C.two e l) P f args r := by
  intro vals w Gin hw hGin hargs
  have := run_ok ok ok2 eqok k w (hl w hw) f args r h vals w Gin hGin (ArgsOk.back hargs) (Below.refl _ _)
  intro o a next Q hR
  refine this o a next Q fun v w' hv => ?_
  obtain ⟨G', h1, h2, h3⟩ := hv
  exact hR v w' ⟨G', h1, h2, h3.two⟩
end
end Go.Dam
