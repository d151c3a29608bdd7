/- A part of an interpreter of the model's code that is proved sound, and of laws told by it: DamGive, DamGive2. -/
import Derived.Test.YtdehjednpdbhaaaDoorPvA4
set_option linter.unusedVariables false
set_option linter.unusedSimpArgs false
/- take and giv keep the invariant. -/
namespace Go.Dam
open Go.RowKit
set_option linter.unusedVariables false
set_option linter.unusedSimpArgs false

/-- Own marks beside values without a row. -/
def NoBlk (m : Md) (a : AV) (v : Value) : Prop := ∀ c j x u, homeS m a v c j = some (x, u) → u.ownBlock = none

section
variable {C : Tab} {P : Program} {w0 : World} {Gin G : Nat → Prop} {gb : Nat → Nat} {fr : Fr} {ts : Array Value} {w : World}

theorem NoBlk.of_owns {m : Md} (h : m.owns = false) (a : AV) (v : Value) : NoBlk m a v := fun c j x u hx => by
  rw [homeS_owns h] at hx; simp at hx
theorem NoBlk.fresh {m : Md} {a : AV} {v : Value} (h : NoBlk m a v) : Fresh G gb fr ts w m a v := fun c j x u k hx hk => by
  rw [h c j x u hx] at hk; simp at hk
theorem ev_noblk (C : Tab) (fr : Fr) (t : Nat) (x : Operand) (ts : Array Value) (ds : List Deferred) : NoBlk (ev C fr t x).2 (ev C fr t x).1 (({ tmps := ts, defers := ds } : Act).eval x) := by
  cases x with
  | tmp i => exact NoBlk.of_owns (owns_viewM _ _ _) _ _
  | const v =>
    show NoBlk (Dam.ev C fr t (.const v)).2 (Dam.ev C fr t (.const v)).1 v
    simp only [Dam.ev]
    split
    · rename_i hn
      split
      · intro c j x u hx
        simp only [homeS] at hx
        split at hx
        · obtain ⟨_, h2⟩ := own?_some hx
          cases h2
          unfold isNilSlice at hn
          split at hn <;> simp_all [val1, Value.ownBlock]
        · simp at hx
      · exact NoBlk.of_owns rfl _ _
    · exact NoBlk.of_owns (owns_constM v) _ _
  | func f =>
    simp only [Dam.ev]
    split <;> exact NoBlk.of_owns rfl _ _
  | global g => exact NoBlk.of_owns rfl _ _

/-- A row that has left its home. -/
def OwnOk (C : Tab) (w0 : World) (G : Nat → Prop) (fr : Fr) (G1 : Nat → Prop) (fr1 : Fr) (gb : Nat → Nat) (ts : Array Value) (w : World) (v : Value) (a : AV) : Prop :=
  OwnR C G1 w0.heap.size w v a ∧ ∀ k, v.ownBlock = some k → ¬ G1 k ∧ ∃ p a' v', fr.homes ts (bvOf w gb) p = some (a', v') ∧ v'.ownBlock = some k ∧ fr1.homes ts (bvOf w gb) p = none ∧ a' = a ∧ v' = v

structure Moved (C : Tab) (w0 : World) (Gin G : Nat → Prop) (fr : Fr) (G1 : Nat → Prop) (fr1 : Fr) (gb : Nat → Nat) (ts : Array Value) (w : World) (n : Nat) (l' : List Own) (vf : Nat → Value) (af : Nat → AV) : Prop where
  inv : Inv C w0 Gin G1 gb fr1 ts w
  less : Less G fr G1 fr1 gb ts w
  len : l'.length = n
  each : ∀ j, j < n → (l'.getD j .ro = .own ∧ OwnOk C w0 G fr G1 fr1 gb ts w (vf j) (af j)) ∨ (l'.getD j .ro ≠ .own ∧ Pend (stOf C w0.heap.size G1 gb fr1 ts w) (l'.getD j .ro) (vf j) (af j))
  dist : ∀ j j' k, j < n → j' < n → l'.getD j .ro = .own → l'.getD j' .ro = .own → (vf j).ownBlock = some k → (vf j').ownBlock = some k → j = j'

/-- One cell first, the others behind it. -/
theorem Moved.cons {G1 G2 : Nat → Prop} {fr1 fr2 : Fr} {n : Nat} {l' : List Own} {vf : Nat → Value} {af : Nat → AV} {o' : Own}
    (h : Inv C w0 Gin G gb fr ts w) (less : Less G fr G1 fr1 gb ts w)
    (head : (o' = .own ∧ OwnOk C w0 G fr G1 fr1 gb ts w (vf 0) (af 0)) ∨ (o' ≠ .own ∧ Pend (stOf C w0.heap.size G1 gb fr1 ts w) o' (vf 0) (af 0)))
    (k : Moved C w0 Gin G1 fr1 G2 fr2 gb ts w n l' (fun j => vf (j + 1)) (fun j => af (j + 1))) : Moved C w0 Gin G fr G2 fr2 gb ts w (n + 1) (o' :: l') vf af := by
  have keyG : ∀ b p a v, fr.homes ts (bvOf w gb) p = some (a, v) → v.ownBlock = some b → fr1.homes ts (bvOf w gb) p = none → ¬ G1 b → ¬ G2 b := by
    intro b p a v hp hb hn hg hg2
    rcases k.less.back b hg2 with hg2 | ⟨q, a', v', hq, hb', _⟩
    · exact hg hg2
    · have := h.sep p q a v a' v' b hp (less.homes q a' v' hq) hb hb'
      subst this
      rw [hn] at hq; simp at hq
  have gone : ∀ p, fr1.homes ts (bvOf w gb) p = none → fr2.homes ts (bvOf w gb) p = none := by
    intro p hp
    cases hx : fr2.homes ts (bvOf w gb) p with
    | none => rfl
    | some x => rw [k.less.homes p x.1 x.2 hx] at hp; simp at hp
  refine ⟨k.inv, less.trans k.less, by simp [k.len], fun j hj => ?_, fun j j' b hj hj' ho ho' hb hb' => ?_⟩
  · cases j with
    | zero =>
      simp only [List.getD_cons_zero]
      rcases head with ⟨ho, hr, hk⟩ | ⟨ho, hp⟩
      · refine .inl ⟨ho, hr.mono k.less.mono (fun _ _ => rfl) (fun _ _ => rfl), fun b hb => ?_⟩
        obtain ⟨h1, p, a', v', hp, hb', hn, e⟩ := hk b hb
        exact ⟨keyG b p a' v' hp hb' hn h1, p, a', v', hp, hb', gone p hn, e⟩
      · exact .inr ⟨ho, hp.less k.less⟩
    | succ j =>
      simp only [List.getD_cons_succ]
      rcases k.each j (by omega) with ⟨ho, hr, hk⟩ | ⟨ho, hp⟩
      · refine .inl ⟨ho, hr, fun b hb => ?_⟩
        obtain ⟨h1, p, a', v', hp, hb', hn, e⟩ := hk b hb
        exact ⟨h1, p, a', v', less.homes p a' v' hp, hb', hn, e⟩
      · exact .inr ⟨ho, hp⟩
  · have key : ∀ j, j < n → l'.getD j .ro = .own → o' = .own → (vf 0).ownBlock = some b → (vf (j + 1)).ownBlock = some b → False := by
      intro j hj ho ho0 hb0 hb1
      rcases head with ⟨_, _, hk⟩ | ⟨hne, _⟩
      · obtain ⟨_, p, a', v', hp, hb', hn, _⟩ := hk b hb0
        rcases k.each j hj with ⟨_, _, hk2⟩ | ⟨hne, _⟩
        · obtain ⟨_, q, a2, v2, hq, hb2, hn2, _⟩ := hk2 b hb1
          have := h.sep p q a' v' a2 v2 b hp (less.homes q a2 v2 hq) hb' hb2
          subst this
          rw [hn] at hq; simp at hq
        · exact hne ho
      · exact hne ho0
    cases j with
    | zero =>
      cases j' with
      | zero => rfl
      | succ j' => exact (key j' (by omega) (by simpa using ho') (by simpa using ho) hb hb').elim
    | succ j =>
      cases j' with
      | zero => exact (key j (by omega) (by simpa using ho) (by simpa using ho') hb' hb).elim
      | succ j' =>
        have := k.dist j j' b (by omega) (by omega) (by simpa using ho) (by simpa using ho') hb hb'
        omega

theorem look_home (h : Inv C w0 Gin G gb fr ts w) {p : Place} {f : Bool} {v : Value} {a : AV} (hp : Pend (stOf C w0.heap.size G gb fr ts w) (.brw p f) v a) (ho : fr.ownAt p = .own) :
    Look (stOf C w0.heap.size G gb fr ts w) p f v a := by
  rcases hp with hp | ⟨q, g, he, hq⟩
  · exact hp
  · cases he
    obtain ⟨a', v', hx⟩ := ownAt_homes (ts := ts) (w := w) (gb := gb) ho
    rw [show (stOf C w0.heap.size G gb fr ts w).ow p = fr.homes ts (bvOf w gb) p from rfl, hx] at hq
    simp at hq

theorem takeOs_spec : ∀ (l : List Own) {fr : Fr} (h : Inv C w0 Gin G gb fr ts w) (vf : Nat → Value) (af : Nat → AV),
    (∀ j, j < l.length → Pend (stOf C w0.heap.size G gb fr ts w) (l.getD j .ro) (vf j) (af j)) → (∀ j, j < l.length → l.getD j .ro = .own → (vf j).ownBlock = none) →
    ∀ l' fr1, takeOs fr l = some (l', fr1) → Moved C w0 Gin G fr G fr1 gb ts w l.length l' vf af
  | [], fr, h, vf, af, _, _, l', fr1, ht => by
    simp only [takeOs, Option.some.injEq, Prod.mk.injEq] at ht
    obtain ⟨rfl, rfl⟩ := ht
    exact ⟨h, Less.refl, rfl, by simp, by simp⟩
  | o :: l, fr, h, vf, af, hp, hn, l', fr1, ht => by
    have h0 := hp 0 (by simp)
    simp only [List.getD_cons_zero] at h0
    have htail : ∀ {fr2 : Fr}, Less G fr G fr2 gb ts w → ∀ j, j < l.length → Pend (stOf C w0.heap.size G gb fr2 ts w) (l.getD j .ro) (vf (j + 1)) (af (j + 1)) := fun ls j hj => by
      have := hp (j + 1) (by simpa using hj)
      rw [List.getD_cons_succ] at this
      exact this.less ls
    have hntail : ∀ j, j < l.length → l.getD j .ro = .own → (vf (j + 1)).ownBlock = none := fun j hj he => hn (j + 1) (by simpa using hj) (by rw [List.getD_cons_succ]; exact he)
    have fin : ∀ {fr2 fr3 : Fr} {o' : Own} {l2 : List Own}, Less G fr G fr2 gb ts w → Inv C w0 Gin G gb fr2 ts w → takeOs fr2 l = some (l2, fr3) →
        ((o' = .own ∧ OwnOk C w0 G fr G fr2 gb ts w (vf 0) (af 0)) ∨ (o' ≠ .own ∧ Pend (stOf C w0.heap.size G gb fr2 ts w) o' (vf 0) (af 0))) →
        Moved C w0 Gin G fr G fr3 gb ts w (l.length + 1) (o' :: l2) vf af := by
      intro fr2 fr3 o' l2 ls hi htk hhead
      have mv := takeOs_spec l hi (fun j => vf (j + 1)) (fun j => af (j + 1)) (htail ls) hntail l2 fr3 htk
      exact Moved.cons h ls hhead mv
    cases o with
    | brw p f =>
      cases f with
      | true =>
        simp only [takeOs] at ht
        split at ht
        · rename_i ho
          split at ht
          · rename_i l2 fr3 htk
            simp only [Option.some.injEq, Prod.mk.injEq] at ht
            obtain ⟨rfl, rfl⟩ := ht
            obtain ⟨qa, qv, hq, _, hf⟩ := look_home h h0 ho
            obtain ⟨e1, e2⟩ := hf rfl
            rw [← e1, ← e2] at hq
            refine fin (Less.kill p) (h.kill p) htk (.inl ⟨rfl, h.own hq, fun k hk => ⟨(h.ow p _ _ k hq hk).1, p, _, _, hq, hk, ?_, rfl, rfl⟩⟩)
            rw [homes_kill, if_pos (Place.eqB_self p)]
          · simp at ht
        · simp at ht
      | false =>
        simp only [takeOs] at ht
        split at ht
        · rename_i l2 fr3 htk
          simp only [Option.some.injEq, Prod.mk.injEq] at ht
          obtain ⟨rfl, rfl⟩ := ht
          exact fin Less.refl h htk (.inr ⟨by simp, h0⟩)
        · simp at ht
    | own =>
      simp only [takeOs] at ht
      split at ht
      · rename_i l2 fr3 htk
        simp only [Option.some.injEq, Prod.mk.injEq] at ht
        obtain ⟨rfl, rfl⟩ := ht
        refine fin Less.refl h htk (.inl ⟨rfl, ?_, fun k hk => ?_⟩)
        · rcases h0 with h0 | ⟨_, _, e, _⟩
          · exact h0
          · simp at e
        · rw [hn 0 (by simp) rfl] at hk; simp at hk
      · simp at ht
    | ro =>
      simp only [takeOs] at ht
      split at ht
      · rename_i l2 fr3 htk
        simp only [Option.some.injEq, Prod.mk.injEq] at ht
        obtain ⟨rfl, rfl⟩ := ht
        exact fin Less.refl h htk (.inr ⟨by simp, h0⟩)
      · simp at ht
    | lent =>
      simp only [takeOs] at ht
      split at ht
      · rename_i l2 fr3 htk
        simp only [Option.some.injEq, Prod.mk.injEq] at ht
        obtain ⟨rfl, rfl⟩ := ht
        exact fin Less.refl h htk (.inr ⟨by simp, h0⟩)
      · simp at ht

theorem givOs_spec (own : Bool) : ∀ (l : List Own) {G : Nat → Prop} {fr : Fr} (h : Inv C w0 Gin G gb fr ts w) (vf : Nat → Value) (af : Nat → AV),
    (∀ j, j < l.length → Pend (stOf C w0.heap.size G gb fr ts w) (l.getD j .ro) (vf j) (af j)) → (∀ j, j < l.length → l.getD j .ro = .own → (vf j).ownBlock = none) →
    ∀ l' fr1, givOs own fr l = some (l', fr1) → ∃ G1, Moved C w0 Gin G fr G1 fr1 gb ts w l.length l' vf af ∧ (∀ j, l'.getD j .ro = .own ∨ l'.getD j .ro = .ro) ∧ (own = false → ∀ j, l'.getD j .ro = .ro)
  | [], G, fr, h, vf, af, _, _, l', fr1, ht => by
    simp only [givOs, Option.some.injEq, Prod.mk.injEq] at ht
    obtain ⟨rfl, rfl⟩ := ht
    exact ⟨G, ⟨h, Less.refl, rfl, by simp, by simp⟩, by simp, by simp⟩
  | o :: l, G, fr, h, vf, af, hp, hn, l', fr1, ht => by
    have h0 := hp 0 (by simp)
    simp only [List.getD_cons_zero] at h0
    have htail : ∀ {G2 : Nat → Prop} {fr2 : Fr}, Less G fr G2 fr2 gb ts w → ∀ j, j < l.length → Pend (stOf C w0.heap.size G2 gb fr2 ts w) (l.getD j .ro) (vf (j + 1)) (af (j + 1)) := fun ls j hj => by
      have := hp (j + 1) (by simpa using hj)
      rw [List.getD_cons_succ] at this
      exact this.less ls
    have hntail : ∀ j, j < l.length → l.getD j .ro = .own → (vf (j + 1)).ownBlock = none := fun j hj he => hn (j + 1) (by simpa using hj) (by rw [List.getD_cons_succ]; exact he)
    have fin : ∀ {G2 : Nat → Prop} {fr2 fr3 : Fr} {o' : Own} {l2 : List Own}, Less G fr G2 fr2 gb ts w → Inv C w0 Gin G2 gb fr2 ts w → givOs own fr2 l = some (l2, fr3) →
        ((o' = .own ∧ OwnOk C w0 G fr G2 fr2 gb ts w (vf 0) (af 0)) ∨ (o' ≠ .own ∧ Pend (stOf C w0.heap.size G2 gb fr2 ts w) o' (vf 0) (af 0))) → (o' = .own ∨ o' = .ro) → (own = false → o' = .ro) →
        ∃ G1, Moved C w0 Gin G fr G1 fr3 gb ts w (l.length + 1) (o' :: l2) vf af ∧ (∀ j, (o' :: l2).getD j .ro = .own ∨ (o' :: l2).getD j .ro = .ro) ∧ (own = false → ∀ j, (o' :: l2).getD j .ro = .ro) := by
      intro G2 fr2 fr3 o' l2 ls hi htk hhead hr hro
      obtain ⟨G3, mv, hall, hall2⟩ := givOs_spec own l hi (fun j => vf (j + 1)) (fun j => af (j + 1)) (htail ls) hntail l2 fr3 htk
      refine ⟨G3, Moved.cons h ls hhead mv, fun j => ?_, fun e j => ?_⟩
      · cases j with
        | zero => simpa using hr
        | succ j => simpa using hall j
      · cases j with
        | zero => simpa using hro e
        | succ j => simpa using hall2 e j
    cases o with
    | brw p f =>
      cases hb : (own && f) with
      | true =>
        simp only [givOs, hb] at ht
        split at ht
        case h_2 => simp at ht
        rename_i ho
        split at ht
        case h_2 => simp at ht
        rename_i l2 fr3 htk
        simp only [Option.some.injEq, Prod.mk.injEq] at ht
        obtain ⟨rfl, rfl⟩ := ht
        obtain ⟨qa, qv, hq, hz, hf⟩ := look_home h h0 ho
        simp only [Bool.and_eq_true] at hb
        obtain ⟨e1, e2⟩ := hf hb.2
        rw [← e1, ← e2] at hq
        refine fin (Less.kill p) (h.kill p) htk (.inl ⟨rfl, h.own hq, fun k hk => ⟨(h.ow p _ _ k hq hk).1, p, _, _, hq, hk, ?_, rfl, rfl⟩⟩) (.inl rfl) (fun e => by rw [hb.1] at e; simp at e)
        rw [homes_kill, if_pos (Place.eqB_self p)]
      | false =>
        simp only [givOs, hb] at ht
        split at ht
        case h_2 => simp at ht
        rename_i ho
        split at ht
        case h_2 => simp at ht
        rename_i l2 fr3 htk
        simp only [Option.some.injEq, Prod.mk.injEq] at ht
        obtain ⟨rfl, rfl⟩ := ht
        obtain ⟨qa, qv, hq, hz, hf⟩ := look_home h h0 ho
        refine fin (Less.freeze p) (h.freeze p) htk (.inr ⟨by simp, .inl ?_⟩) (.inr rfl) (fun _ => rfl)
        exact hz.mono (fun b hb => hb.imp id fun hb => ⟨qa, qv, hq, hb⟩) fun _ _ => rfl
    | own =>
      have hO : OwnR C G w0.heap.size w (vf 0) (af 0) := by
        rcases h0 with h0 | ⟨_, _, e, _⟩
        · exact h0
        · simp at e
      have hB := hn 0 (by simp) rfl
      cases own with
      | true =>
        simp only [givOs] at ht
        split at ht
        case h_2 => simp at ht
        rename_i l2 fr3 htk
        simp only [Option.some.injEq, Prod.mk.injEq] at ht
        obtain ⟨rfl, rfl⟩ := ht
        exact fin Less.refl h htk (.inl ⟨rfl, hO, fun k hk => by rw [hB] at hk; simp at hk⟩) (.inl rfl) (fun e => by simp at e)
      | false =>
        simp only [givOs] at ht
        split at ht
        case h_2 => simp at ht
        rename_i l2 fr3 htk
        simp only [Option.some.injEq, Prod.mk.injEq] at ht
        obtain ⟨rfl, rfl⟩ := ht
        refine fin Less.refl h htk (.inr ⟨by simp, .inl ?_⟩) (.inr rfl) (fun _ => rfl)
        exact OwnR.frz hO (fun _ h => h) fun k hk => by rw [hB] at hk; simp at hk
    | ro =>
      simp only [givOs] at ht
      split at ht
      case h_2 => simp at ht
      rename_i l2 fr3 htk
      simp only [Option.some.injEq, Prod.mk.injEq] at ht
      obtain ⟨rfl, rfl⟩ := ht
      exact fin Less.refl h htk (.inr ⟨by simp, h0⟩) (.inr rfl) (fun _ => rfl)
    | lent => simp [givOs] at ht
end

end Go.Dam

/- take and giv, of whole marks. -/
namespace Go.Dam
open Go.RowKit
set_option linter.unusedVariables false
set_option linter.unusedSimpArgs false

section
variable {C : Tab} {P : Program} {w0 : World} {Gin G : Nat → Prop} {gb : Nat → Nat} {fr : Fr} {ts : Array Value} {w : World}

theorem Moved.free {G1 : Nat → Prop} {fr1 : Fr} {n : Nat} {l' : List Own} {vf : Nat → Value} {af : Nat → AV} (h : Inv C w0 Gin G gb fr ts w) (mv : Moved C w0 Gin G fr G1 fr1 gb ts w n l' vf af)
    {j k : Nat} (hj : j < n) (ho : l'.getD j .ro = .own) (hk : (vf j).ownBlock = some k) :
    ¬ G1 k ∧ (∀ d cs, fr1.box? d = some cs → gb d ≠ k) ∧ ∀ p a' u', fr1.homes ts (bvOf w gb) p = some (a', u') → u'.ownBlock ≠ some k := by
  rcases mv.each j hj with ⟨_, _, hk'⟩ | ⟨hne, _⟩
  · obtain ⟨h1, p, a', v', hp, hb, hn, _⟩ := hk' k hk
    refine ⟨h1, fun d cs hd => ?_, fun q a2 u2 hq he => ?_⟩
    · obtain ⟨cs', hcs⟩ := (mv.less.box d).1 ⟨cs, hd⟩
      exact (h.ow p a' v' k hp hb).2 d cs' hcs
    · have := h.sep p q a' v' a2 u2 k hp (mv.less.homes q a2 u2 hq) hb he
      subst this
      rw [hn] at hq; simp at hq
  · exact absurd ho hne

theorem Moved.rep {G1 : Nat → Prop} {fr1 : Fr} {n : Nat} {l' : List Own} {vf : Nat → Value} {af : Nat → AV} (mv : Moved C w0 Gin G fr G1 fr1 gb ts w n l' vf af)
    {j : Nat} (hj : j < n) (ha : ∀ p f, l'.getD j .ro = .brw p f → fr1.ownAt p = .own) : RepO (stOf C w0.heap.size G1 gb fr1 ts w) (l'.getD j .ro) (vf j) (af j) := by
  rcases mv.each j hj with ⟨ho, hr, _⟩ | ⟨hne, hp⟩
  · rw [ho]; exact hr
  · revert hp ha
    cases hl : l'.getD j .ro with
    | brw p f =>
      intro ha hp
      exact look_home mv.inv hp (ha p f rfl)
    | own => exact absurd hl hne
    | ro =>
      intro _ hp
      rcases hp with hp | ⟨_, _, e, _⟩
      · exact hp
      · simp at e
    | lent =>
      intro _ hp
      rcases hp with hp | ⟨_, _, e, _⟩
      · exact hp
      · simp at e

/-- One cell. -/
theorem Moved.uni {G1 : Nat → Prop} {fr1 : Fr} {o' : Own} {v : Value} {a : AV} (h : Inv C w0 Gin G gb fr ts w) (mv : Moved C w0 Gin G fr G1 fr1 gb ts w 1 [o'] (fun _ => v) (fun _ => a)) (ha : ∀ p f, o' = .brw p f → fr1.ownAt p = .own) :
    RepM (stOf C w0.heap.size G1 gb fr1 ts w) (.uni o') v a ∧ Fresh G1 gb fr1 ts w (.uni o') a v := by
  refine ⟨.inl (mv.rep (j := 0) (by omega) (by simpa using ha)), fun c j x u k hx hk => ?_⟩
  have key : ∀ c j x u, homeS (.uni o') a v c j = some (x, u) → c = 0 ∧ j = 0 ∧ o' = .own ∧ x = a ∧ u = v := by
    intro c j x u hx
    simp only [homeS] at hx
    split at hx
    · rename_i hc
      obtain ⟨h1, h2⟩ := own?_some hx
      simp only [Md.home1] at h1
      split at h1
      · rename_i hj
        cases h2
        exact ⟨hc, hj, h1, rfl, rfl⟩
      · simp at h1
    · simp at hx
  obtain ⟨rfl, rfl, ho, rfl, rfl⟩ := key c j x u hx
  obtain ⟨h1, h2, h3⟩ := mv.free h (j := 0) (by omega) (by simpa using ho) hk
  refine ⟨h1, h2, h3, fun c' j' x' u' hx' _ => ?_⟩
  obtain ⟨rfl, rfl, _⟩ := key c' j' x' u' hx'
  exact ⟨rfl, rfl⟩

theorem Moved.cells {G1 : Nat → Prop} {fr1 : Fr} {l' : List Own} {vs : Array Value} {a : AV} {la : List AV} (hea : a = .agg la) (hla : la.length = vs.size) (h : Inv C w0 Gin G gb fr ts w) (mv : Moved C w0 Gin G fr G1 fr1 gb ts w vs.size l' (fun j => vs.getD j undef) (cellN a)) (ha : ∀ j p f, l'.getD j .ro = .brw p f → fr1.ownAt p = .own) :
    RepM (stOf C w0.heap.size G1 gb fr1 ts w) (.cells l') (.agg vs) a ∧ Fresh G1 gb fr1 ts w (.cells l') a (.agg vs) := by
  have key : ∀ c j x u, homeS (.cells l') a (.agg vs) c j = some (x, u) → c = 0 ∧ j < vs.size ∧ l'.getD j .ro = .own ∧ x = cellN a j ∧ u = vs.getD j undef := by
    intro c j x u hx
    simp only [homeS] at hx
    split at hx
    · rename_i hc
      obtain ⟨h1, h2⟩ := own?_some hx
      simp only [Md.home1] at h1
      cases h2
      refine ⟨hc, ?_, h1, rfl, rfl⟩
      rw [← mv.len]
      rcases Nat.lt_or_ge j l'.length with hj | hj
      · exact hj
      · rw [getD_over _ _ hj] at h1; simp at h1
    · simp at hx
  refine ⟨⟨vs, la, rfl, hea, hla, mv.len.symm, fun j hj => mv.rep (j := j) (mv.len ▸ hj) (ha j)⟩, fun c j x u k hx hk => ?_⟩
  obtain ⟨rfl, hj, ho, rfl, rfl⟩ := key c j x u hx
  obtain ⟨h1, h2, h3⟩ := mv.free h hj ho hk
  refine ⟨h1, h2, h3, fun c' j' x' u' hx' hk' => ?_⟩
  obtain ⟨rfl, hj', ho', rfl, rfl⟩ := key c' j' x' u' hx'
  exact ⟨rfl, mv.dist j j' k hj hj' ho ho' hk hk'⟩

theorem alive_brw {o : Own} (h : alive fr o = true) : ∀ p f, o = .brw p f → fr.ownAt p = .own := by
  rintro p f rfl
  simp only [alive] at h
  revert h
  cases fr.ownAt p <;> simp [Own.owns]

theorem Inv.take (h : Inv C w0 Gin G gb fr ts w) {m : Md} {v : Value} {a : AV} (hm : RepM (stOf C w0.heap.size G gb fr ts w) m v a) (hn : NoBlk m a v) {m' : Md} {fr1 : Fr} (ht : take fr m = some (m', fr1)) :
    Inv C w0 Gin G gb fr1 ts w ∧ Less G fr G fr1 gb ts w ∧ RepM (stOf C w0.heap.size G gb fr1 ts w) m' v a ∧ Fresh G gb fr1 ts w m' a v := by
  cases m with
  | unk =>
    simp only [Dam.take, Option.some.injEq, Prod.mk.injEq] at ht
    obtain ⟨rfl, rfl⟩ := ht
    exact ⟨h, Less.refl, hm, hn.fresh⟩
  | uni o =>
    simp only [Dam.take] at ht
    split at ht
    case h_2 => simp at ht
    rename_i o' fr2 htk
    split at ht
    case isFalse => simp at ht
    rename_i hal
    simp only [Option.some.injEq, Prod.mk.injEq] at ht
    obtain ⟨rfl, rfl⟩ := ht
    rcases hm with hm | ⟨ho, vs, la, rfl, rfl, hla, hr⟩
    · have mv := takeOs_spec [o] h (fun _ => v) (fun _ => a) (fun j hj => by
        have : j = 0 := by simpa using hj
        subst this
        exact .inl hm) (fun j hj e => by
          have : j = 0 := by simpa using hj
          subst this
          exact hn 0 0 a v (by simp only [List.getD_cons_zero] at e; simp [homeS, Md.home1, e, own?, av1, val1])) _ _ htk
      obtain ⟨h1, h2⟩ := mv.uni h (alive_brw hal)
      exact ⟨mv.inv, mv.less, h1, h2⟩
    · have : o' = o ∧ fr2 = fr := by
        rcases ho with rfl | rfl <;> simp [takeOs] at htk <;> exact ⟨htk.1.symm, htk.2.symm⟩
      obtain ⟨rfl, rfl⟩ := this
      exact ⟨h, Less.refl, .inr ⟨ho, vs, la, rfl, rfl, hla, hr⟩, Fresh.of_owns (by rcases ho with rfl | rfl <;> rfl) _ _⟩
  | cells l =>
    simp only [Dam.take] at ht
    split at ht
    case h_2 => simp at ht
    rename_i l' fr2 htk
    split at ht
    case isFalse => simp at ht
    rename_i hal
    simp only [Option.some.injEq, Prod.mk.injEq] at ht
    obtain ⟨rfl, rfl⟩ := ht
    obtain ⟨vs, la, rfl, rfl, hla, hl, hr⟩ := hm
    have mv := takeOs_spec l h (fun j => vs.getD j undef) (cellN (.agg la)) (fun j hj => .inl (hr j hj)) (fun j hj e => hn 0 j _ _ (by simp only [homeS, if_true, Md.home1, e, own?]; rfl)) _ _ htk
    rw [← hl] at mv
    obtain ⟨h1, h2⟩ := mv.cells rfl hla h fun j p f e => by
      have hj : j < l'.length := by
        rcases Nat.lt_or_ge j l'.length with hj | hj
        · exact hj
        · rw [getD_over _ _ hj] at e; simp at e
      have h3 : l'.getD j .ro = l'[j] := by simp [hj]
      rw [h3] at e
      exact alive_brw (List.all_eq_true.1 hal _ (List.getElem_mem hj)) p f e
    exact ⟨mv.inv, mv.less, h1, h2⟩
  | tup l => simp [Dam.take] at ht
  | adr o off =>
    simp only [Dam.take] at ht
    split at ht
    · simp at ht
    · simp only [Option.some.injEq, Prod.mk.injEq] at ht
      obtain ⟨rfl, rfl⟩ := ht
      exact ⟨h, Less.refl, hm, hn.fresh⟩
  | elem q i off => simp [Dam.take] at ht
  | loc d off =>
    simp only [Dam.take, Option.some.injEq, Prod.mk.injEq] at ht
    obtain ⟨rfl, rfl⟩ := ht
    exact ⟨h, Less.refl, hm, hn.fresh⟩
  | mapAt d =>
    simp only [Dam.take, Option.some.injEq, Prod.mk.injEq] at ht
    obtain ⟨rfl, rfl⟩ := ht
    exact ⟨h, Less.refl, hm, hn.fresh⟩
  | fn g caps =>
    simp only [Dam.take, Option.some.injEq, Prod.mk.injEq] at ht
    obtain ⟨rfl, rfl⟩ := ht
    exact ⟨h, Less.refl, hm, hn.fresh⟩

/-- Own rows that are moved are a home's. -/
def FromX (fr : Fr) (gb : Nat → Nat) (ts : Array Value) (w : World) (m : Md) (a : AV) (v : Value) : Prop :=
  ∀ c j x u k, homeS m a v c j = some (x, u) → u.ownBlock = some k → ∃ p, fr.homes ts (bvOf w gb) p = some (x, u)
theorem FromX.of_noblk {m : Md} {a : AV} {v : Value} (h : NoBlk m a v) : FromX fr gb ts w m a v := fun c j x u k hx hk => by
  rw [h c j x u hx] at hk; simp at hk
theorem Inv.take_from (h : Inv C w0 Gin G gb fr ts w) {m : Md} {v : Value} {a : AV} (hm : RepM (stOf C w0.heap.size G gb fr ts w) m v a) (hn : NoBlk m a v) {m' : Md} {fr1 : Fr} (ht : Dam.take fr m = some (m', fr1)) : FromX fr gb ts w m' a v := by
  cases m with
  | unk =>
    simp only [Dam.take, Option.some.injEq, Prod.mk.injEq] at ht
    obtain ⟨rfl, rfl⟩ := ht
    exact .of_noblk hn
  | uni o =>
    simp only [Dam.take] at ht
    split at ht
    case h_2 => simp at ht
    rename_i o' fr2 htk
    split at ht
    case isFalse => simp at ht
    rename_i hal
    simp only [Option.some.injEq, Prod.mk.injEq] at ht
    obtain ⟨rfl, rfl⟩ := ht
    rcases hm with hm | ⟨ho, vs, la, rfl, rfl, hla, hr⟩
    · have mv := takeOs_spec [o] h (fun _ => v) (fun _ => a) (fun j hj => by
        have : j = 0 := by simpa using hj
        subst this
        exact .inl hm) (fun j hj e => by
          have : j = 0 := by simpa using hj
          subst this
          exact hn 0 0 a v (by simp only [List.getD_cons_zero] at e; simp [homeS, Md.home1, e, own?, av1, val1])) _ _ htk
      intro c j x u k hx hk
      simp only [homeS] at hx
      split at hx
      · obtain ⟨q1, q2⟩ := own?_some hx
        simp only [Md.home1] at q1
        split at q1
        · cases q2
          rcases mv.each 0 (by simp) with ⟨_, _, hb⟩ | ⟨hne, _⟩
          · obtain ⟨_, p, a', v', r1, _, _, rfl, rfl⟩ := hb k hk
            exact ⟨p, r1⟩
          · exact absurd (by simpa using q1) hne
        · simp at q1
      · simp at hx
    · have : o' = o ∧ fr2 = fr := by
        rcases ho with rfl | rfl <;> simp [takeOs] at htk <;> exact ⟨htk.1.symm, htk.2.symm⟩
      obtain ⟨rfl, rfl⟩ := this
      exact .of_noblk hn
  | cells l =>
    simp only [Dam.take] at ht
    split at ht
    case h_2 => simp at ht
    rename_i l' fr2 htk
    split at ht
    case isFalse => simp at ht
    rename_i hal
    simp only [Option.some.injEq, Prod.mk.injEq] at ht
    obtain ⟨rfl, rfl⟩ := ht
    obtain ⟨vs, la, rfl, rfl, hla, hl, hr⟩ := hm
    have mv := takeOs_spec l h (fun j => vs.getD j undef) (cellN (.agg la)) (fun j hj => .inl (hr j hj)) (fun j hj e => hn 0 j _ _ (by simp only [homeS, if_true, Md.home1, e, own?]; rfl)) _ _ htk
    intro c j x u k hx hk
    simp only [homeS] at hx
    split at hx
    · obtain ⟨q1, q2⟩ := own?_some hx
      simp only [Md.home1] at q1
      cases q2
      have hj : j < l.length := by
        rw [← mv.len]
        rcases Nat.lt_or_ge j l'.length with h' | h'
        · exact h'
        · rw [getD_over _ _ h'] at q1; simp at q1
      rcases mv.each j hj with ⟨_, _, hb⟩ | ⟨hne, _⟩
      · obtain ⟨_, p, a', v', r1, _, _, rfl, rfl⟩ := hb k hk
        exact ⟨p, r1⟩
      · exact absurd q1 hne
    · simp at hx
  | tup l => simp [Dam.take] at ht
  | adr o off =>
    simp only [Dam.take] at ht
    split at ht
    · simp at ht
    · simp only [Option.some.injEq, Prod.mk.injEq] at ht
      obtain ⟨rfl, rfl⟩ := ht
      exact .of_noblk hn
  | elem q i off => simp [Dam.take] at ht
  | loc d off =>
    simp only [Dam.take, Option.some.injEq, Prod.mk.injEq] at ht
    obtain ⟨rfl, rfl⟩ := ht
    exact .of_noblk hn
  | mapAt d =>
    simp only [Dam.take, Option.some.injEq, Prod.mk.injEq] at ht
    obtain ⟨rfl, rfl⟩ := ht
    exact .of_noblk hn
  | fn g caps =>
    simp only [Dam.take, Option.some.injEq, Prod.mk.injEq] at ht
    obtain ⟨rfl, rfl⟩ := ht
    exact .of_noblk hn

def allRo : Md → Prop
  | .uni o => o = .ro
  | .cells l => ∀ j, l.getD j .ro = .ro
  | _ => False
def roOwn : Md → Prop
  | .uni o => o = .ro ∨ o = .own
  | .cells l => ∀ j, l.getD j .ro = .own ∨ l.getD j .ro = .ro
  | _ => False

theorem Inv.giv (own : Bool) (h : Inv C w0 Gin G gb fr ts w) {m : Md} {v : Value} {a : AV} (hm : RepM (stOf C w0.heap.size G gb fr ts w) m v a) (hn : NoBlk m a v) {m' : Md} {fr1 : Fr} (ht : giv own fr m = some (m', fr1)) :
    ∃ G1, Inv C w0 Gin G1 gb fr1 ts w ∧ Less G fr G1 fr1 gb ts w ∧ RepM (stOf C w0.heap.size G1 gb fr1 ts w) m' v a ∧ Fresh G1 gb fr1 ts w m' a v ∧ roOwn m' ∧ (own = false → allRo m') := by
  cases m with
  | unk => simp [Dam.giv] at ht
  | uni o =>
    simp only [Dam.giv] at ht
    split at ht
    case h_2 => simp at ht
    rename_i o' fr2 htk
    simp only [Option.some.injEq, Prod.mk.injEq] at ht
    obtain ⟨rfl, rfl⟩ := ht
    rcases hm with hm | ⟨ho, vs, la, rfl, rfl, hla, hr⟩
    · obtain ⟨G1, mv, hall, hall2⟩ := givOs_spec own [o] h (fun _ => v) (fun _ => a) (fun j hj => by
        have : j = 0 := by simpa using hj
        subst this
        exact .inl hm) (fun j hj e => by
          have : j = 0 := by simpa using hj
          subst this
          exact hn 0 0 a v (by simp only [List.getD_cons_zero] at e; simp [homeS, Md.home1, e, own?, av1, val1])) _ _ htk
      have h0 := hall 0
      simp only [List.getD_cons_zero] at h0
      obtain ⟨h1, h2⟩ := mv.uni h (by rintro p f rfl; simp at h0)
      exact ⟨G1, mv.inv, mv.less, h1, h2, h0.symm, fun e => by have := hall2 e 0; simp only [List.getD_cons_zero] at this; exact this⟩
    · rcases ho with rfl | rfl
      · simp [givOs] at htk
        obtain ⟨rfl, rfl⟩ := htk
        exact ⟨G, h, Less.refl, .inr ⟨.inl rfl, vs, la, rfl, rfl, hla, hr⟩, Fresh.of_owns rfl _ _, .inl rfl, fun _ => rfl⟩
      · simp [givOs] at htk
  | cells l =>
    simp only [Dam.giv] at ht
    split at ht
    case h_2 => simp at ht
    rename_i l' fr2 htk
    simp only [Option.some.injEq, Prod.mk.injEq] at ht
    obtain ⟨rfl, rfl⟩ := ht
    obtain ⟨vs, la, rfl, rfl, hla, hl, hr⟩ := hm
    obtain ⟨G1, mv, hall, hall2⟩ := givOs_spec own l h (fun j => vs.getD j undef) (cellN (.agg la)) (fun j hj => .inl (hr j hj)) (fun j hj e => hn 0 j _ _ (by simp only [homeS, if_true, Md.home1, e, own?]; rfl)) _ _ htk
    rw [← hl] at mv
    obtain ⟨h1, h2⟩ := mv.cells rfl hla h fun j p f e => by
      have := hall j
      rw [e] at this; simp at this
    exact ⟨G1, mv.inv, mv.less, h1, h2, hall, hall2⟩
  | tup l => simp [Dam.giv] at ht
  | adr o off =>
    unfold Dam.giv at ht
    split at ht <;> rename_i heq <;> first | (simp at ht; done) | cases heq
    simp only [Option.some.injEq, Prod.mk.injEq] at ht
    obtain ⟨rfl, rfl⟩ := ht
    obtain ⟨b, k, la, rfl, rfl, hm⟩ := hm
    exact ⟨G, h, Less.refl, .inl hm, Fresh.of_owns rfl _ _, .inl rfl, fun _ => rfl⟩
  | elem q i off => simp [Dam.giv] at ht
  | loc d off => simp [Dam.giv] at ht
  | fn g caps => simp [Dam.giv] at ht
  | mapAt d => simp [Dam.giv] at ht
end

end Go.Dam
