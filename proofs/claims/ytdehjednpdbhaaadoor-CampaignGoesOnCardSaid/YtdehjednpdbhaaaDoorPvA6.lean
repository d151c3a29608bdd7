/- A part of an interpreter of the model's code that is proved sound, and of laws told by it: DamCast, DamRead. -/
import Derived.Test.YtdehjednpdbhaaaDoorPvA5
import Derived.ChangeKeysEq
set_option linter.unusedVariables false
set_option linter.unusedSimpArgs false
/- What a successful reading of values says. -/
namespace Go.Dam
open Go.RowKit
set_option linter.unusedVariables false
set_option linter.unusedSimpArgs false

section
variable {R : Type}
theorem castI_some {k : IntKind} {a : AV} {K : Int → Option R} {r : R} (h : castI k a K = some r) : ∃ n, a = .sc (.int k n) ∧ K n = some r := by
  unfold castI at h
  split at h
  · split at h
    · rename_i hk; subst hk; exact ⟨_, rfl, h⟩
    · simp at h
  · simp at h
theorem castB_some {a : AV} {K : Bool → Option R} {r : R} (h : castB a K = some r) : ∃ n, a = .sc (.bool n) ∧ K n = some r := by
  unfold castB at h
  split at h
  · exact ⟨_, rfl, h⟩
  · simp at h
theorem castS_some {a : AV} {K : ByteArray → Option R} {r : R} (h : castS a K = some r) : ∃ n, a = .sc (.string n) ∧ K n = some r := by
  unfold castS at h
  split at h
  · exact ⟨_, rfl, h⟩
  · simp at h
theorem castL_some {T : Nat} {a : AV} {K : List AV → Option R} {r : R} (h : castL T a K = some r) : ∃ l, a = .sl T l ∧ K l = some r := by
  unfold castL at h
  split at h
  · split at h
    · rename_i hk; subst hk; exact ⟨_, rfl, h⟩
    · simp at h
  · simp at h
theorem castRef_some {a : AV} {K : List AV → Option R} {r : R} (h : castRef a K = some r) : ∃ l, a = .ref l ∧ K l = some r := by
  unfold castRef at h
  split at h
  · exact ⟨_, rfl, h⟩
  · simp at h
theorem castAny_some {a : AV} {K : Nat → List AV → Option R} {r : R} (h : castAny a K = some r) : ∃ T l, a = .sl T l ∧ K T l = some r := by
  unfold castAny at h
  split at h
  · exact ⟨_, _, rfl, h⟩
  · simp at h
theorem castFn_some {a : AV} {K : Nat → List AV → Option R} {r : R} (h : castFn a K = some r) : ∃ T l, a = .fn T l ∧ K T l = some r := by
  unfold castFn at h
  split at h
  · exact ⟨_, _, rfl, h⟩
  · simp at h
theorem castNil_some {a : AV} {K : Bool → Option R} {r : R} (h : castNil a K = some r) : (a = .sc (.pointer none) ∧ K true = some r) ∨ ((∃ l, a = .ref l) ∧ K false = some r) := by
  unfold castNil at h
  split at h
  · exact .inl ⟨rfl, h⟩
  · exact .inr ⟨⟨_, rfl⟩, h⟩
  · simp at h
theorem castErr_some {a : AV} {K : Bool → Option R} {r : R} (h : castErr a K = some r) : (a = .sc .nilIface ∧ K true = some r) ∨ (a = .er ∧ K false = some r) := by
  unfold castErr at h
  split at h
  · exact .inl ⟨rfl, h⟩
  · exact .inr ⟨rfl, h⟩
  · simp at h
/-- A number, a bool, a string, an address, a function. -/
def isP : AV → Bool
  | .sc _ => true
  | .ref _ => true
  | .fn _ _ => true
  | .er => true
  | _ => false
theorem castP_some {a : AV} {K : AV → Option R} {r : R} (h : castP a K = some r) : isP a = true ∧ K a = some r := by
  cases a <;> simp_all [castP, isP]

theorem length_tell (f : Nat → AV) : ∀ (n i : Nat), (tell f i n).length = n
  | 0, _ => rfl
  | n + 1, i => by simp [tell, length_tell f n]
theorem getD_tell (f : Nat → AV) : ∀ (n i j : Nat), j < n → (tell f i n).getD j .undef = f (i + j)
  | 0, _, _, h => by simp at h
  | n + 1, i, 0, _ => by simp [tell]
  | n + 1, i, j + 1, h => by
    simp only [tell, List.getD_cons_succ]
    rw [getD_tell f n (i + 1) j (by omega), show i + 1 + j = i + (j + 1) by omega]

/-- What a type's zero cell says of a cell. -/
def likeZ : AV → AV → Prop
  | .sc (.int k _), a => ∃ n, a = .sc (.int k n)
  | .sc (.bool _), a => ∃ n, a = .sc (.bool n)
  | .sc (.string _), a => ∃ n, a = .sc (.string n)
  | .sl T _, a => ∃ l, a = .sl T l
  | _, a => isP a = true
theorem likeZ.ne {z a : AV} (h : likeZ z a) : a ≠ .undef := by
  unfold likeZ at h
  split at h <;> first | (obtain ⟨_, rfl⟩ := h; simp; done) | (rintro rfl; simp [isP] at h)
theorem likeZ.sc {z a : AV} (h : likeZ z a) (hz : isPlain z = true) : isSc a = true := by
  unfold likeZ at h
  split at h <;> first | (obtain ⟨_, rfl⟩ := h; rfl) | (simp_all [isPlain]; done)

theorem castCells_some {f : Nat → AV} : ∀ (z : List AV) (j : Nat) {K : List AV → Option R} {r : R}, castCells f z j K = some r →
    K (tell f j z.length) = some r ∧ ∀ i, i < z.length → likeZ (z.getD i .undef) (f (j + i)) := by
  intro z
  induction z with
  | nil => intro j K r h; exact ⟨h, by simp⟩
  | cons c z ih =>
    intro j K r h
    have key : ∀ {x : AV}, (castCells f z (j + 1) fun l => K (x :: l)) = some r → f j = x → likeZ c x → K (tell f j (c :: z).length) = some r ∧ ∀ i, i < (c :: z).length → likeZ ((c :: z).getD i .undef) (f (j + i)) := by
      intro x hx hf hl
      obtain ⟨h1, h2⟩ := ih (j + 1) hx
      refine ⟨by simp only [List.length_cons, tell, hf]; exact h1, fun i hi => ?_⟩
      cases i with
      | zero => simpa [hf] using hl
      | succ i =>
        have := h2 i (by simpa using hi)
        rw [List.getD_cons_succ, show j + (i + 1) = j + 1 + i by omega]; exact this
    unfold castCells at h
    split at h
    · simp_all
    · rename_i heq
      cases heq
      obtain ⟨n, hn, h⟩ := castI_some h
      exact key h hn ⟨n, rfl⟩
    · rename_i heq
      cases heq
      obtain ⟨n, hn, h⟩ := castB_some h
      exact key h hn ⟨n, rfl⟩
    · rename_i heq
      cases heq
      obtain ⟨n, hn, h⟩ := castS_some h
      exact key h hn ⟨n, rfl⟩
    · rename_i heq
      cases heq
      obtain ⟨n, hn, h⟩ := castL_some h
      exact key h hn ⟨n, rfl⟩
    · rename_i h1 h2 h3 h4 heq
      cases heq
      obtain ⟨hn, h⟩ := castP_some h
      refine key h rfl ?_
      unfold likeZ
      split <;> first | exact hn | simp_all
end

section
variable {C : Tab} {P : Program}
theorem isAggT_of (ok : Tab.Ok C P) {t : Nat} {z : List AV} {s b : Nat} (hi : C.info t = some (z, s, b)) : ∃ d, C.ty t = some d ∧ isAggT C t = some (isAggD d) ∧ aggC C t = isAggD d ∧ z.length = s ∧ (isAggD d = false → s = 1) := by
  obtain ⟨i, zv, h1, h2, h3, h4, h5, h6, h7, ⟨d, h8, h9⟩, h10⟩ := ok.info t z s b hi
  refine ⟨d, h8, by simp [isAggT, h8], ?_, h5, h9⟩
  simp only [aggC, isAggT, h8]
  cases isAggD d <;> rfl

/-- What a value of type t is, told from its cells. -/
def valA (C : Tab) (t : Nat) (f : Nat → AV) (n : Nat) : AV := match aggC C t with
  | true => .agg (tell f 0 n)
  | false => f 0
theorem tellK_some {R : Type} (ok : Tab.Ok C P) {t : Nat} {f : Nat → AV} {off : Nat} {K : AV → Option R} {r : R} (h : tellK C t f off K = some r) :
    ∃ z s b, C.info t = some (z, s, b) ∧ z.length = s ∧ K (valA C t (fun j => f (off + j)) s) = some r ∧ ∀ i, i < s → likeZ (z.getD i .undef) (f (off + i)) := by
  unfold tellK at h
  split at h
  · rename_i z s b hi ha
    obtain ⟨d, hd, hd', hag, hl, h1⟩ := isAggT_of ok hi
    rw [hd'] at ha
    obtain ⟨hk, hz⟩ := castCells_some z 0 h
    refine ⟨z, s, b, hi, hl, ?_, fun i hil => by have := hz i (hl ▸ hil); rwa [Nat.zero_add] at this⟩
    simp only [valA, hag, Option.some.inj ha, ← hl]; exact hk
  · rename_i z s b hi ha
    obtain ⟨d, hd, hd', hag, hl, h1⟩ := isAggT_of ok hi
    rw [hd'] at ha
    have ha := Option.some.inj ha
    have hs := h1 ha
    obtain ⟨hk, hz⟩ := castCells_some z 0 h
    refine ⟨z, s, b, hi, hl, ?_, fun i hil => by have := hz i (hl ▸ hil); rwa [Nat.zero_add] at this⟩
    simp only [hl, hs, tell] at hk
    simp only [valA, hag, ha]; exact hk
  · simp at h

/-- A value of type t of cells. -/
def valV (C : Tab) (t : Nat) (vs : Array Value) : Value := match aggC C t with
  | true => .agg vs
  | false => vs.getD 0 undef

theorem RepO.sc {X : St} {o : Own} {v : Value} {x : Value} (h : RepO X o v (.sc x)) : v = x := by
  cases o with
  | ro => cases (show Frz _ _ _ _ _ from h); rfl
  | lent => cases (show Frz _ _ _ _ _ from h); rfl
  | own => obtain ⟨T, l, z, s, b, xs, e, _⟩ := (show OwnR _ _ _ _ _ _ from h); simp at e
  | brw q f => obtain ⟨_, _, _, h, _⟩ := h; cases h; rfl
theorem RepO.plain {X : St} {o o' : Own} {v : Value} {a : AV} (h : RepO X o v a) (ha : isSc a = true) : Frz X.C X.G X.w v a := by
  cases a <;> simp [isSc] at ha
  have := h.sc
  subst this
  exact .sc _ h.one

/-- Cells that stand for what is told of them, put together, with one mark or with a mark for each. -/
theorem mdOf_rep {X : St} (hX : X.C = C) (ok : Tab.Ok C P) {t : Nat} {z : List AV} {s b : Nat} (hi : C.info t = some (z, s, b)) {f : Nat → AV} {og : Nat → Own} {off : Nat} {vs : Array Value} (hs : vs.size = s)
    (hr : ∀ i, i < s → RepO X (og (off + i)) (vs.getD i undef) (f (off + i))) (hz : ∀ i, i < s → likeZ (z.getD i .undef) (f (off + i))) :
    RepM X (mdOf C t og off) (valV C t vs) (valA C t (fun j => f (off + j)) s) := by
  obtain ⟨d, hd, hd', hag, hl, h1⟩ := isAggT_of ok hi
  unfold mdOf
  split
  · rename_i hfl
    have hpl : ∀ i, i < s → isSc (f (off + i)) = true := by
      intro i hil
      refine (hz i hil).sc ?_
      simp only [Tab.flat, hi, List.all_eq_true] at hfl
      have : z.getD i .undef = z[i] := by simp [hl, hil]
      rw [this]; exact hfl _ (List.getElem_mem _)
    cases ha : isAggD d with
    | true =>
      simp only [valV, valA, hag, ha]
      refine .inr ⟨.inl rfl, vs, tell (fun j => f (off + j)) 0 s, rfl, rfl, by rw [length_tell, hs], fun j hj => ?_⟩
      simp only [cellN]
      rw [getD_tell _ _ _ _ (hs ▸ hj), Nat.zero_add]
      exact (hr j (hs ▸ hj)).plain (o' := .ro) (hpl j (hs ▸ hj))
    | false =>
      simp only [valV, valA, hag, ha]
      have hs1 := h1 ha
      exact .inl ((hr 0 (by omega)).plain (o' := .ro) (hpl 0 (by omega)))
  · have hsz : sizeC C t = some s := by simp [sizeC, hi]
    rw [hd', hsz]
    cases ha : isAggD d with
    | true =>
      simp only [valV, valA, hag, ha]
      refine ⟨vs, tell (fun j => f (off + j)) 0 s, rfl, rfl, by rw [length_tell, hs], by simp [hs], fun j hj => ?_⟩
      have hj' : j < s := by simpa using hj
      simp only [cellN]
      rw [getD_tell _ _ _ _ hj', Nat.zero_add]
      have : ((List.range s).map fun j => og (off + j)).getD j .ro = og (off + j) := by simp [hj']
      rw [this]
      exact hr j hj'
    | false =>
      simp only [valV, valA, hag, ha]
      have hs1 := h1 ha
      exact .inl (by have := hr 0 (by omega); exact this)
theorem normM_rep {X : St} (hX : X.C = C) (ok : Tab.Ok C P) {t : Nat} {z : List AV} {s b : Nat} (hi : C.info t = some (z, s, b)) {f : Nat → AV} {o : Own} (ho : aggC C t = true → o = .ro ∨ o = .lent) {off : Nat} {vs : Array Value} (hs : vs.size = s)
    (hr : ∀ i, i < s → RepO X o (vs.getD i undef) (f (off + i))) (hz : ∀ i, i < s → likeZ (z.getD i .undef) (f (off + i))) :
    RepM X (normM C t (.uni o)) (valV C t vs) (valA C t (fun j => f (off + j)) s) := by
  unfold normM
  split
  · rename_i hfl
    have := mdOf_rep hX ok hi (og := fun _ => o) (off := off) hs hr hz
    unfold mdOf at this
    rw [hfl] at this
    exact this
  · obtain ⟨d, hd, hd', hag, hl, h1⟩ := isAggT_of ok hi
    cases ha : isAggD d with
    | true =>
      have := ho (by rw [hag, ha])
      simp only [valV, valA, hag, ha]
      refine .inr ⟨this, vs, tell (fun j => f (off + j)) 0 s, rfl, rfl, by rw [length_tell, hs], fun j hj => ?_⟩
      simp only [cellN]
      rw [getD_tell _ _ _ _ (hs ▸ hj), Nat.zero_add]
      exact hr j (hs ▸ hj)
    | false =>
      simp only [valV, valA, hag, ha]
      have hs1 := h1 ha
      exact .inl (hr 0 (by omega))
end

end Go.Dam

/- Operations that read. -/
namespace Go.Dam
open Go.RowKit
set_option linter.unusedVariables false
set_option linter.unusedSimpArgs false

theorem RepO.frz {X : St} {o : Own} {v : Value} {a : AV} (h : RepO X o v a) : ∃ S, Frz X.C S X.w v a := by
  cases o with
  | ro => exact ⟨_, h⟩
  | lent => exact ⟨_, h⟩
  | own => exact ⟨_, OwnR.frz (S := fun _ => True) h (fun _ _ => trivial) fun _ _ => trivial⟩
  | brw q f => obtain ⟨_, _, _, h, _⟩ := h; exact ⟨_, h⟩

theorem RepM.sc {X : St} {m : Md} {v x : Value} (h : RepM X m v (.sc x)) : v = x := by
  cases m with
  | unk => simp [RepM] at h
  | uni o =>
    rcases h with h | ⟨_, _, _, _, e, _⟩
    · exact h.sc
    · simp at e
  | cells l => obtain ⟨_, _, _, e, _⟩ := h; simp at e
  | tup l => obtain ⟨_, _, _, e, _⟩ := h; simp at e
  | adr o off => obtain ⟨_, _, _, _, e, _⟩ := h; simp at e
  | elem q i off => obtain ⟨_, _, _, _, _, _, _, _, _, _, _, _, e, _⟩ := h; simp at e
  | loc d off => obtain ⟨_, _, _, e⟩ := h; simp at e
  | fn g caps => obtain ⟨_, _, e, _⟩ := h; simp at e
  | mapAt d => obtain ⟨_, _, _, e⟩ := h; simp at e
theorem RepM.sl {X : St} {m : Md} {v : Value} {T : Nat} {l : List AV} (h : RepM X m v (.sl T l)) : ∃ o, m = .uni o ∧ RepO X o v (.sl T l) := by
  cases m with
  | unk => simp [RepM] at h
  | uni o =>
    rcases h with h | ⟨_, _, _, _, e, _⟩
    · exact ⟨o, rfl, h⟩
    · simp at e
  | cells l => obtain ⟨_, _, _, e, _⟩ := h; simp at e
  | tup l => obtain ⟨_, _, _, e, _⟩ := h; simp at e
  | adr o off => obtain ⟨_, _, _, _, e, _⟩ := h; simp at e
  | elem q i off => obtain ⟨_, _, _, _, _, _, _, _, _, _, _, _, e, _⟩ := h; simp at e
  | loc d off => obtain ⟨_, _, _, e⟩ := h; simp at e
  | fn g caps => obtain ⟨_, _, e, _⟩ := h; simp at e
  | mapAt d => obtain ⟨_, _, _, e⟩ := h; simp at e

/-- A slice, as a value. -/
theorem Frz.slice {C : Tab} {S : Nat → Prop} {w : World} {v : Value} {T : Nat} {l : List AV} (h : Frz C S w v (.sl T l)) :
    ∃ A cap s b z ad, ∃ cv : Nat → Nat → Value, v = .slice A l.length cap ∧ C.info T = some (z, s, b) ∧ l.length ≤ cap ∧ cap ≤ maxLen ∧ (0 < l.length → A = some ad ∧ S ad.block ∧ ad.spot = none) ∧
      (∀ i j, i < l.length → j < s → w.cell? (ad.add (i * s + j)) = some (cv i j)) ∧
      (∀ i j, i < l.length → j < s → isPlain (z.getD j .undef) = true → isSc (elCell C T (l.getD i .undef) j) = true) ∧
      (∀ i j, i < l.length → j < s → Frz C S w (cv i j) (elCell C T (l.getD i .undef) j)) := by
  cases h with
  | sl _ _ A cap s b z ad cv hi hcap hm hA hc hp hr => exact ⟨A, cap, s, b, z, ad, cv, rfl, hi, hcap, hm, hA, hc, hp, hr⟩
theorem RepM.slice {X : St} {m : Md} {v : Value} {T : Nat} {l : List AV} (h : RepM X m v (.sl T l)) : ∃ A cap, v = .slice A l.length cap ∧ l.length ≤ cap ∧ cap ≤ maxLen := by
  obtain ⟨o, _, hr⟩ := RepM.sl h
  obtain ⟨S, hf⟩ := RepO.frz hr
  obtain ⟨A, cap, s, b, z, ad, cv, hv, _, h1, h2, _⟩ := hf.slice
  exact ⟨A, cap, hv, h1, h2⟩

section
variable {C : Tab} {P : Program} {w : World}
theorem run_isAgg' {t : Nat} {d : TypeDesc} (h : P.underlying t = some d) : (isAgg t).run P w = .ok (isAggD d) w := by
  simp only [isAgg, Sem.run_bind, run_underlying h, Result.andThen_ok]
  cases d <;> rfl
theorem run_sizeOf' (ok : Tab.Ok C P) {t : Nat} {z : List AV} {s b : Nat} (hi : C.info t = some (z, s, b)) : (sizeOf t).run P w = .ok s w := by
  obtain ⟨i, zv, h1, h2, _⟩ := ok.info t z s b hi
  simp only [sizeOf, Sem.run_bind, run_typeInfo w h1, Result.andThen_ok, Sem.run_pure, h2]
theorem run_part (ok : Tab.Ok C P) {t : Nat} {z : List AV} {s b : Nat} (hi : C.info t = some (z, s, b)) {cs : Array Value} {off : Nat} (hl : off + s ≤ cs.size) :
    (part t cs off).run P w = .ok (valV C t (cs.extract off (off + s))) w := by
  obtain ⟨d, hd, hd', hag, hz, h1⟩ := isAggT_of ok hi
  simp only [part, Sem.run_bind, run_isAgg' (ok.ty t d hd), Result.andThen_ok, valV, hag]
  cases ha : isAggD d with
  | true => simp [run_sizeOf' ok hi]
  | false =>
    have := h1 ha
    subst this
    have hlt : off < cs.size := by omega
    simp [hlt]
    rw [Array.getElem?_extract]
    simp [hlt]
    rw [if_pos (by omega)]
    rfl
theorem run_loadVar (ok : Tab.Ok C P) {t : Nat} {z : List AV} {s b : Nat} (hi : C.info t = some (z, s, b)) {a : Addr} {cv : Nat → Value} (hc : ∀ j, j < s → w.cell? (a.add j) = some (cv j)) :
    (loadVar t a).run P w = .ok (valV C t ((List.range s).map cv).toArray) w := by
  obtain ⟨d, hd, hd', hag, hz, h1⟩ := isAggT_of ok hi
  simp only [loadVar, Sem.run_bind, run_isAgg' (ok.ty t d hd), Result.andThen_ok, valV, hag]
  cases ha : isAggD d with
  | true => simp [run_sizeOf' ok hi, run_loadCells w a s cv hc]
  | false =>
    have := h1 ha
    subst this
    have h0 := hc 0 (by omega)
    have : a.add 0 = a := by simp [Addr.add]
    rw [this] at h0
    simp [run_load, h0]

theorem getD_mapRange (cv : Nat → Value) (s j : Nat) (hj : j < s) : (((List.range s).map cv).toArray).getD j undef = cv j := by
  simp [hj]
end

section
variable {C : Tab} {P : Program} {w0 : World} {Gin G : Nat → Prop} {gb : Nat → Nat} {fr : Fr} {ts : Array Value} {w : World} {ds : List Deferred} {r : AV} {Q : Exit → Act → World → Prop}

theorem Inv.gb_lt (h : Inv C w0 Gin G gb fr ts w) {d : Nat} {cs : List (AV × Own)} (hd : fr.box? d = some cs) : gb d < w.heap.size := by
  obtain ⟨hB, _⟩ := h.boxes d cs hd
  obtain ⟨_, hh⟩ := hB.some
  rcases Nat.lt_or_ge (gb d) w.heap.size with h' | h'
  · exact h'
  · rw [show (stOf C w0.heap.size G gb fr ts w).w = w from rfl, Array.getElem?_eq_none h'] at hh; simp at hh

/-- Blocks that the frame knows. -/
def Foot (G : Nat → Prop) (gb : Nat → Nat) (fr : Fr) (ts : Array Value) (w : World) (b : Nat) : Prop :=
  G b ∨ (∃ d cs, fr.box? d = some cs ∧ gb d = b) ∨ ∃ p a v, fr.homes ts (bvOf w gb) p = some (a, v) ∧ v.ownBlock = some b
/-- Own rows only grow, blocks that no one knew are as they were; a soft step leaves all that stands for something as it was. -/
structure StepRel (C : Tab) (G : Nat → Prop) (gb : Nat → Nat) (fr : Fr) (ts : Array Value) (w : World) (G' : Nat → Prop) (gb' : Nat → Nat) (fr' : Fr) (ts' : Array Value) (w' : World) (soft : Bool) : Prop where
  size : w.heap.size ≤ w'.heap.size
  home : ∀ p' T l' v' k, fr'.homes ts' (bvOf w' gb') p' = some (.sl T l', v') → v'.ownBlock = some k → k < w.heap.size → ∃ p l v, fr.homes ts (bvOf w gb) p = some (.sl T l, v) ∧ v.ownBlock = some k ∧ l.length ≤ l'.length
  gs : ∀ b, G' b → b < w.heap.size → G b ∨ ∃ p a v, fr.homes ts (bvOf w gb) p = some (a, v) ∧ v.ownBlock = some b
  box : ∀ d cs', fr'.box? d = some cs' → gb' d < w.heap.size → ∃ d2 cs, fr.box? d2 = some cs ∧ gb d2 = gb' d
  keep : soft = true → ∀ b, b < w.heap.size → w'.heap[b]? = w.heap[b]? ∨ ∃ p T l v, fr.homes ts (bvOf w gb) p = some (.sl T l, v) ∧ v.ownBlock = some b ∧ ∀ z s bb, C.info T = some (z, s, bb) → ∀ o, o < l.length * s → w'.cell? ⟨b, o, none⟩ = w.cell? ⟨b, o, none⟩
  far : ∀ b, b < w.heap.size → w'.heap[b]? = w.heap[b]? ∨ (∃ p a v, fr.homes ts (bvOf w gb) p = some (a, v) ∧ v.ownBlock = some b) ∨ ∃ d cs, fr.box? d = some cs ∧ gb d = b

theorem StepRel.less {G1 : Nat → Prop} {fr1 : Fr} (l : Less G fr G1 fr1 gb ts w) (soft : Bool) : StepRel C G gb fr ts w G1 gb fr1 ts w soft where
  size := Nat.le_refl _
  home := fun p' T l' v' k hp hk _ => ⟨p', l', v', l.homes _ _ _ hp, hk, Nat.le_refl _⟩
  gs := fun b hb _ => (l.back b hb).imp id fun ⟨p, a, v, h1, h2, _⟩ => ⟨p, a, v, h1, h2⟩
  box := fun d cs' hd _ => by obtain ⟨cs, hcs⟩ := (l.box d).1 ⟨cs', hd⟩; exact ⟨d, cs, hcs, rfl⟩
  keep := fun _ _ _ => .inl rfl
  far := fun _ _ => .inl rfl
theorem StepRel.refl (soft : Bool) : StepRel C G gb fr ts w G gb fr ts w soft := StepRel.less Less.refl soft

theorem Inv.own_sl (h : Inv C w0 Gin G gb fr ts w) {p : Place} {a : AV} {v : Value} (hp : fr.homes ts (bvOf w gb) p = some (a, v)) : ∃ T l, a = .sl T l := by
  obtain ⟨T, l, z, s, bb, xs, rfl, _⟩ := h.own hp
  exact ⟨T, l, rfl⟩

theorem put_eta (ts : Array Value) (ds : List Deferred) (dst : Option Nat) (v : Value) : ({ tmps := ts, defers := ds } : Act).put dst v = { tmps := (({ tmps := ts, defers := ds } : Act).put dst v).tmps, defers := ds } := by
  cases dst <;> rfl

/-- The homes of a frame in which a slot was written. -/
theorem homes_put {fr : Fr} {ts : Array Value} {bv : Nat → Nat → Value} {ds : List Deferred} {dst : Option Nat} {x : AV × Md} {v : Value} {p : Place} {a : AV} {u : Value} (hl : ts.size = fr.slots.length)
    (h : (fr.put dst x).homes (({ tmps := ts, defers := ds } : Act).put dst v).tmps bv p = some (a, u)) : fr.homes ts bv p = some (a, u) ∨ ∃ c j, homeS x.2 x.1 v c j = some (a, u) := by
  cases dst with
  | none => exact .inl h
  | some d =>
    have h : ((if (fr.getS d).2.owns then fr.nix (slotB d) else fr).setS d (if x.2.hits (slotB d) then none1 else x)).homes (ts.setIfInBounds d v) bv p = some (a, u) := h
    have hsub : ∀ q a u, (if (fr.getS d).2.owns then fr.nix (slotB d) else fr).homes ts bv q = some (a, u) → fr.homes ts bv q = some (a, u) := by
      intro q a u hq
      split at hq
      · rw [homes_nix] at hq
        split at hq
        · simp at hq
        · exact hq
      · exact hq
    have hlen : (if (fr.getS d).2.owns then fr.nix (slotB d) else fr).slots.length = fr.slots.length := by
      split
      · exact length_upSlots ..
      · rfl
    revert h hsub hlen
    generalize (if (fr.getS d).2.owns then fr.nix (slotB d) else fr) = fr1
    intro h hsub hlen
    obtain ⟨b, n, c, j⟩ := p
    cases b with
    | true => exact .inl (hsub _ _ _ h)
    | false =>
      simp only [Fr.homes, getS_setS] at h
      by_cases hn : n = d ∧ d < fr1.slots.length
      · obtain ⟨rfl, hd⟩ := hn
        rw [if_pos ⟨rfl, hd⟩] at h
        have hv : (ts.setIfInBounds n v).getD n undef = v := by
          have : n < ts.size := by omega
          simp [this]
        rw [hv] at h
        split at h
        · rw [homeS_none1] at h; simp at h
        · exact .inr ⟨c, j, h⟩
      · rw [if_neg hn] at h
        refine .inl (hsub ⟨false, n, c, j⟩ _ _ ?_)
        have hv : (ts.setIfInBounds d v).getD n undef = ts.getD n undef := by
          by_cases hnd : n = d
          · subst hnd
            have : ¬ n < ts.size := fun hlt => hn ⟨rfl, by omega⟩
            simp [this]
          · simp [Array.getElem?_setIfInBounds_ne (Ne.symm hnd)]
        rw [hv] at h
        exact h
theorem box?_put {fr : Fr} {dst : Option Nat} {x : AV × Md} {d : Nat} {cs : List (AV × Own)} (h : (fr.put dst x).box? d = some cs) : ∃ cs', fr.box? d = some cs' := by
  cases dst with
  | none => exact ⟨cs, h⟩
  | some e =>
    have h : ((if (fr.getS e).2.owns then fr.nix (slotB e) else fr).setS e (if x.2.hits (slotB e) then none1 else x)).box? d = some cs := h
    rw [box?_setS] at h
    split at h
    · rw [show fr.nix (slotB e) = fr.up (nixF (slotB e)) from rfl, box?_up] at h
      cases hb : fr.box? d with
      | none => simp [hb] at h
      | some c => exact ⟨c, rfl⟩
    · exact ⟨cs, h⟩

/-- Behind a change of the world a slot is written. -/
theorem StepRel.put {G2 : Nat → Prop} {gb2 : Nat → Nat} {fr2 : Fr} {w2 : World} {soft : Bool} (h : StepRel C G gb fr ts w G2 gb2 fr2 ts w2 soft) (hl : ts.size = fr2.slots.length) (ds : List Deferred) (dst : Option Nat) {x : AV × Md} {v : Value}
    (hx : ∀ c j T l u k, homeS x.2 x.1 v c j = some (.sl T l, u) → u.ownBlock = some k → k < w.heap.size → ∃ p l0 v', fr.homes ts (bvOf w gb) p = some (.sl T l0, v') ∧ v'.ownBlock = some k ∧ l0.length ≤ l.length) :
    StepRel C G gb fr ts w G2 gb2 (fr2.put dst x) (({ tmps := ts, defers := ds } : Act).put dst v).tmps w2 soft where
  size := h.size
  home := fun p' T l' v' k hp hk hlt => by
    rcases homes_put hl hp with hp | ⟨c, j, hp⟩
    · exact h.home p' T l' v' k hp hk hlt
    · exact hx c j T l' v' k hp hk hlt
  gs := h.gs
  box := fun d cs' hd hlt => by obtain ⟨cs, hcs⟩ := box?_put hd; exact h.box d cs hcs hlt
  keep := h.keep
  far := h.far

/-- What an operation leaves. -/
def After (C : Tab) (w0 : World) (Gin : Nat → Prop) (ds : List Deferred) (K : Fr → Option AV) (r : AV) (a' : Act) (w' : World) : Prop :=
  ∃ G' gb' fr' ts', a' = { tmps := ts', defers := ds } ∧ Inv C w0 Gin G' gb' fr' ts' w' ∧ K fr' = some r
def AfterR (C : Tab) (w0 : World) (Gin : Nat → Prop) (ds : List Deferred) (K : Fr → Option AV) (r : AV) (G : Nat → Prop) (gb : Nat → Nat) (fr : Fr) (soft : Bool) (dst : Option Nat) (ts : Array Value) (w : World) (a' : Act) (w' : World) : Prop :=
  ∃ G' gb' fr' ts', a' = { tmps := ts', defers := ds } ∧ Inv C w0 Gin G' gb' fr' ts' w' ∧ K fr' = some r ∧ StepRel C G gb fr ts w G' gb' fr' ts' w' soft ∧
    (∀ d, dst ≠ some d → fr.getS d = none1 → fr'.getS d = none1) ∧ ∃ v, ts' = (({ tmps := ts, defers := ds } : Act).put dst v).tmps
theorem getD_put (ts : Array Value) (ds : List Deferred) {dst : Option Nat} {d : Nat} (h : dst ≠ some d) (v : Value) : (({ tmps := ts, defers := ds } : Act).put dst v).tmps.getD d undef = ts.getD d undef := by
  cases dst with
  | none => rfl
  | some e =>
    have hne : e ≠ d := fun he => h (by rw [he])
    show (ts.setIfInBounds e v).getD d undef = _
    simp [Array.getElem?_setIfInBounds_ne hne]
theorem getS_put_dead {fr : Fr} {dst : Option Nat} {x : AV × Md} {d : Nat} (h : dst ≠ some d) (hd : fr.getS d = none1) : (fr.put dst x).getS d = none1 := by
  cases dst with
  | none => exact hd
  | some e =>
    have hne : d ≠ e := fun he => h (by rw [he])
    show ((if (fr.getS e).2.owns then fr.nix (slotB e) else fr).setS e (if x.2.hits (slotB e) then none1 else x)).getS d = none1
    rw [getS_setS, if_neg (fun hh => hne hh.1)]
    split
    · exact getS_up_dead _ hd
    · exact hd
/-- What a step must bring. -/
def StepOk (C : Tab) (P : Program) (w0 : World) (Gin : Nat → Prop) (ds : List Deferred) (r : AV) (Q : Exit → Act → World → Prop) (G : Nat → Prop) (gb : Nat → Nat) (fr : Fr) (soft : Bool) (ts : Array Value) (w : World) (o : Oper) (K : Fr → Option AV) : Prop :=
  o.wp P { tmps := ts, defers := ds } w (AfterR C w0 Gin ds K r G gb fr soft o.dst ts w) Q

/-- An operation that yields a value in all worlds of S. -/
def StepQ (C : Tab) (P : Program) (w0 : World) (Gin : Nat → Prop) (ds : List Deferred) (r : AV) (S : World → Prop) (G : Nat → Prop) (gb : Nat → Nat) (fr : Fr) (ts : Array Value) (w : World) (o : Oper) (K : Fr → Option AV) : Prop :=
  ∃ G1 fr1 x v, (∀ w', S w' → (execOp ({ tmps := ts, defers := ds } : Act).eval o).run P w' = .ok (.value v) w') ∧ Inv C w0 Gin G1 gb fr1 ts w ∧ Less G fr G1 fr1 gb ts w ∧ RepM (stOf C w0.heap.size G1 gb fr1 ts w) x.2 v x.1 ∧
    Fresh G1 gb fr1 ts w x.2 x.1 v ∧ FromX fr gb ts w x.2 x.1 v ∧ K (fr1.put o.dst x) = some r
theorem StepQ.after {S : World → Prop} {o : Oper} {K : Fr → Option AV} (h : StepQ C P w0 Gin ds r S G gb fr ts w o K) (soft : Bool) :
    ∃ v, (∀ w', S w' → (execOp ({ tmps := ts, defers := ds } : Act).eval o).run P w' = .ok (.value v) w') ∧ AfterR C w0 Gin ds K r G gb fr soft o.dst ts w (({ tmps := ts, defers := ds } : Act).put o.dst v) w := by
  obtain ⟨G1, fr1, x, v, hrun, i1, l1, hx, hf, hfrom, hk⟩ := h
  exact ⟨v, hrun, G1, gb, _, _, put_eta ts ds o.dst v, i1.put o.dst hx hf ds, hk, (StepRel.less l1 soft).put i1.size ds o.dst fun c j T l u k hu hk hlt => by
    obtain ⟨p, hp⟩ := hfrom c j _ u k hu hk
    exact ⟨p, l, u, hp, hk, Nat.le_refl _⟩, fun d hd hn => getS_put_dead hd (l1.dead d hn), v, rfl⟩
theorem StepQ.ok {S : World → Prop} {o : Oper} {K : Fr → Option AV} (h : StepQ C P w0 Gin ds r S G gb fr ts w o K) (hS : S w) (soft : Bool) : StepOk C P w0 Gin ds r Q G gb fr soft ts w o K := by
  obtain ⟨G1, fr1, x, v, hrun, i1, l1, hx, hf, hfrom, hk⟩ := h
  unfold StepOk Oper.wp
  rw [hrun w hS]
  exact ⟨G1, gb, _, _, put_eta ts ds o.dst v, i1.put o.dst hx hf ds, hk, (StepRel.less l1 soft).put i1.size ds o.dst fun c j T l u k hu hk hlt => by
    obtain ⟨p, hp⟩ := hfrom c j _ u k hu hk
    exact ⟨p, l, u, hp, hk, Nat.le_refl _⟩, fun d hd hn => getS_put_dead hd (l1.dead d hn), v, rfl⟩
/-- An operation that yields a value, whatever the world. -/
theorem wp_value {o : Oper} {K : Fr → Option AV} (h : Inv C w0 Gin G gb fr ts w) {x : AV × Md} {v : Value} (hrun : ∀ w, (execOp ({ tmps := ts, defers := ds } : Act).eval o).run P w = .ok (.value v) w)
    (hx : RepM (stOf C w0.heap.size G gb fr ts w) x.2 v x.1) (hn : NoBlk x.2 x.1 v) (hk : K (fr.put o.dst x) = some r) : StepQ C P w0 Gin ds r (fun _ => True) G gb fr ts w o K :=
  ⟨G, fr, x, v, fun w _ => hrun w, h, Less.refl, hx, hn.fresh, .of_noblk hn, hk⟩

theorem sc_rep {X : St} {v : Value} (h : v.oneCell' = true) : RepM X (.uni .ro) v (.sc v) := .inl (Frz.sc v h)

end
end Go.Dam
