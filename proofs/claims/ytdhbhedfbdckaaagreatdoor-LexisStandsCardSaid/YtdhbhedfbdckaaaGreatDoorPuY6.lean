/- A part of an interpreter of the model's code that is proved sound, and of laws told by it: DamX30, DamX31. -/
import Derived.Test.YtdhbhedfbdckaaaGreatDoorPuY3
set_option linter.unusedVariables false
set_option linter.unusedSimpArgs false
/- A piece at the head stays one when what stands behind it is cut off, or becomes blanks here and there. -/
namespace Go.Proofs.YtdhbhedfbdckaaaGreatDoor
open Go.Dam
set_option linter.unusedVariables false
set_option linter.unusedSimpArgs false
/-- The second text is a beginning of the first one, some characters of it blanks. -/
inductive Bw : List UInt8 → List UInt8 → Prop
  | cut (x : List UInt8) : Bw x []
  | same (c : UInt8) {x y : List UInt8} (h : Bw x y) : Bw (c :: x) (c :: y)
  | bl (c : UInt8) {x y : List UInt8} (h : Bw x y) : Bw (c :: x) (32 :: y)
theorem Bw.app (p : List UInt8) {x y : List UInt8} (h : Bw x y) : Bw (p ++ x) (p ++ y) := by
  induction p with
  | nil => exact h
  | cons c p ih => exact .same c ih
theorem Bw.head {x y : List UInt8} (h : Bw x y) {c : UInt8} (hc : y.head? = some c) : c = 32 ∨ x.head? = some c := by
  cases h with
  | cut => cases hc
  | same d h => exact .inr hc
  | bl d h => exact .inl (Option.some.inj hc).symm
theorem Bw.pfx : ∀ (w : List UInt8) {x y : List UInt8}, Bw x y → (32 : UInt8) ∉ w → w <+: y → w <+: x
  | [], x, y, _, _, _ => List.nil_prefix
  | c :: w, x, y, h, hw, hp => by
    cases h with
    | cut => exact absurd hp (by simp)
    | same d h =>
      rw [List.cons_prefix_cons] at hp ⊢
      exact ⟨hp.1, Bw.pfx w h (fun h => hw (List.mem_cons_of_mem _ h)) hp.2⟩
    | bl d h =>
      rw [List.cons_prefix_cons] at hp
      exact absurd hp.1 fun e => hw (by rw [e]; exact List.mem_cons_self)
theorem pfx_bw {w x y : List UInt8} (h : Bw x y) (hw : (32 : UInt8) ∉ w) (hp : Go.Proofs.YtdhbhedfbdckaaaGreatDoor.pfx w y = true) : Go.Proofs.YtdhbhedfbdckaaaGreatDoor.pfx w x = true := by
  rw [pfx_iff] at hp ⊢
  exact Bw.pfx w h hw hp
theorem comH_bw {lang : Int} {x y : List UInt8} (h : Bw x y) (hc : comH lang x = false) : comH lang y = false := by
  rw [Bool.eq_false_iff] at hc ⊢
  intro hy
  refine hc ?_
  unfold comH at hy ⊢
  rw [Bool.or_eq_true] at hy ⊢
  refine hy.imp (pfx_bw h (by decide)) fun hy => ?_
  by_cases hl : lang = 0
  · rw [if_pos hl] at hy ⊢
    exact pfx_bw h (by decide) hy
  · rw [if_neg hl] at hy ⊢
    exact pfx_bw h (by decide) hy
theorem isPt32 : isPt 32 = false := by decide
theorem nameT_pos {lang : Int} {c : UInt8} {x : List UInt8} (h : isPt c = true) : 1 ≤ nameT lang (c :: x) := by
  unfold nameT
  rw [if_pos h]
  omega
theorem nameT_bw (lang : Int) {y y' : List UInt8} (hb : Bw y y') : ∀ p : List UInt8, nameT lang (p ++ y) = p.length → nameT lang (p ++ y') = p.length
  | [], h => by
    rw [List.nil_append] at h ⊢
    cases hb with
    | cut => rfl
    | bl c hb =>
      unfold nameT
      rw [if_neg (by rw [isPt32]; decide), if_neg (by rintro ⟨h, _⟩; exact absurd h (by decide)), if_neg (by rintro ⟨h, _⟩; exact absurd h (by decide))]
      rfl
    | @same c u u' hb =>
      unfold nameT at h ⊢
      by_cases h1 : isPt c = true
      · rw [if_pos h1] at h; exact absurd h (by simp)
      · rw [if_neg h1] at h ⊢
        by_cases h2 : c = 95 ∧ lang = 1
        · rw [if_pos h2] at h; exact absurd h (by simp)
        · rw [if_neg h2] at h ⊢
          by_cases h3 : c = 45 ∧ lang = 0
          · rw [if_pos h3] at h ⊢
            cases hb with
            | cut => rfl
            | bl d hb => simp only []; rw [if_neg (by rw [isPt32]; decide)]; rfl
            | same d hb =>
              simp only [] at h ⊢
              by_cases h4 : isPt d = true
              · rw [if_pos h4] at h; exact absurd h (by simp)
              · rw [if_neg h4]; rfl
          · rw [if_neg h3]; rfl
  | d :: p, h => by
    have hl : (d :: p).length = p.length + 1 := rfl
    have ih := nameT_bw lang hb p
    rw [hl] at h ⊢
    rw [List.cons_append] at h ⊢
    unfold nameT at h ⊢
    by_cases h1 : isPt d = true
    · rw [if_pos h1] at h ⊢
      rw [ih (by omega)]
    · rw [if_neg h1] at h ⊢
      by_cases h2 : d = 95 ∧ lang = 1
      · rw [if_pos h2] at h ⊢
        rw [ih (by omega)]
      · rw [if_neg h2] at h ⊢
        by_cases h3 : d = 45 ∧ lang = 0
        · rw [if_pos h3] at h ⊢
          cases p with
          | nil =>
            rw [List.nil_append] at h
            cases y with
            | nil => simp only [] at h; exact absurd h (by simp)
            | cons e y =>
              simp only [] at h
              by_cases h4 : isPt e = true
              · rw [if_pos h4] at h
                have := nameT_pos (lang := lang) (x := y) h4
                simp only [List.length_nil] at h
                omega
              · rw [if_neg h4] at h; exact absurd h (by simp)
          | cons e p =>
            rw [List.cons_append] at ih h ⊢
            rw [List.cons_append] at ih
            simp only [] at h ⊢
            by_cases h4 : isPt e = true
            · rw [if_pos h4] at h ⊢
              rw [ih (by omega)]
            · rw [if_neg h4] at h
              omega
        · rw [if_neg h3] at h
          omega
theorem dlen_bw {y y' : List UInt8} (hb : Bw y y') : ∀ p : List UInt8, dlen (p ++ y) = p.length → dlen (p ++ y') = p.length
  | [], h => by
    rw [List.nil_append] at h ⊢
    cases hb with
    | cut => rfl
    | bl c hb => rw [dlen_cons, if_neg (by decide)]; rfl
    | same c hb =>
      rw [dlen_cons] at h ⊢
      by_cases h1 : isD c = true
      · rw [if_pos h1] at h; exact absurd h (by simp)
      · rw [if_neg h1]; rfl
  | d :: p, h => by
    have hl : (d :: p).length = p.length + 1 := rfl
    rw [hl, List.cons_append, dlen_cons] at h
    rw [hl, List.cons_append, dlen_cons]
    by_cases h1 : isD d = true
    · rw [if_pos h1] at h ⊢
      rw [dlen_bw hb p (by omega)]
    · rw [if_neg h1] at h
      omega
theorem qT_bw {y y' : List UInt8} (hb : Bw y y') : ∀ p : List UInt8, qT (p ++ y) = some p.length → qT (p ++ y') = some p.length
  | [], h => by
    have := (qT_le _ _ h).1
    exact absurd this (by simp)
  | [c], h => by
    rw [List.cons_append, List.nil_append] at h ⊢
    have hc : c = 34 ∧ y.head? ≠ some 34 := by
      cases y with
      | nil =>
        unfold qT at h
        split at h
        · exact ⟨by assumption, by simp⟩
        · cases h
      | cons e y =>
        unfold qT at h
        split at h
        · cases h
        · split at h
          · rename_i h1
            split at h
            · rename_i h2
              cases hq : qT y with
              | none => rw [hq] at h; cases h
              | some m => rw [hq] at h; have := Option.some.inj h; simp at this
            · rename_i h2
              exact ⟨h1, fun e => h2 (Option.some.inj e)⟩
          · cases hq : qT (e :: y) with
            | none => rw [hq] at h; cases h
            | some m =>
              rw [hq] at h
              have h3 := Option.some.inj h
              have h4 := (qT_le _ _ hq).1
              simp at h3
              omega
    obtain ⟨rfl, hy⟩ := hc
    cases y' with
    | nil => rfl
    | cons e y' =>
      unfold qT
      rw [if_neg (by decide), if_pos rfl]
      rw [if_neg (fun he => by
        rcases hb.head (c := e) rfl with h1 | h1
        · rw [h1] at he; exact absurd he (by decide)
        · rw [he] at h1; exact hy h1)]
      rfl
  | c :: e :: p, h => by
    have hl : (c :: e :: p).length = p.length + 2 := rfl
    rw [hl] at h ⊢
    show qT (c :: e :: (p ++ y')) = some (p.length + 2)
    change qT (c :: e :: (p ++ y)) = some (p.length + 2) at h
    unfold qT at h ⊢
    by_cases h0 : c = 10 ∨ c = 9
    · rw [if_pos h0] at h; cases h
    · rw [if_neg h0] at h ⊢
      by_cases h1 : c = 34
      · rw [if_pos h1] at h ⊢
        by_cases h2 : e = 34
        · rw [if_pos h2] at h ⊢
          cases hq : qT (p ++ y) with
          | none => rw [hq] at h; cases h
          | some m =>
            rw [hq] at h
            have hm : m = p.length := by
              have : m + 2 = p.length + 2 := Option.some.inj h
              omega
            rw [qT_bw hb p (by rw [hq, hm])]
            rfl
        · rw [if_neg h2] at h
          have := Option.some.inj h
          omega
      · rw [if_neg h1] at h ⊢
        cases hq : qT (e :: (p ++ y)) with
        | none => rw [hq] at h; cases h
        | some m =>
          rw [hq] at h
          have hm : m = p.length + 1 := by
            have : m + 1 = p.length + 2 := Option.some.inj h
            omega
          have ih := qT_bw hb (e :: p) (by rw [List.cons_append, hq, hm]; rfl)
          rw [List.cons_append] at ih
          rw [ih]
          rfl
theorem dgE_bw {lang : Int} {y y' : List UInt8} (hb : Bw y y') : ∀ (p : List UInt8) (m : Nat) (k : Int) (b h : Bool), dgE lang m b h (p ++ y) = .tok k (m + 1 + p.length) → dgE lang m b h (p ++ y') = .tok k (m + 1 + p.length)
  | [], m, k, b, h, hf => by
    have := (dgE_le lang _ _ _ _ _ _ hf).1
    simp only [List.length_nil] at this
    omega
  | c :: p, m, k, b, h, hf => by
    rw [List.cons_append] at hf ⊢
    unfold dgE at hf ⊢
    by_cases h1 : c = 39
    · rw [if_pos h1] at hf ⊢
      have hn := (dgF_le hf).1
      rw [List.length_cons] at hn
      have hp : p.length = 1 := by omega
      match p, hp with
      | [d], _ =>
        rw [← hf]
        rfl
    · rw [if_neg h1] at hf ⊢
      by_cases h2 : c = 10 ∨ c = 9
      · rw [if_pos h2] at hf; cases hf
      · rw [if_neg h2] at hf ⊢
        have hl : m + 1 + (c :: p).length = m + 1 + 1 + p.length := by rw [List.length_cons]; omega
        rw [hl] at hf ⊢
        exact dgE_bw hb p _ _ _ _ hf
theorem symM_bw {ws : List (List UInt8)} (hw : ∀ w ∈ ws, (32 : UInt8) ∉ w) {p y y' : List UInt8} (hb : Bw y y') (hp : 1 ≤ p.length) (h : symM (p ++ y) 0 ws = p.length) : symM (p ++ y') 0 ws = p.length := by
  have hle : symM (p ++ y') 0 ws ≤ p.length := sym_le _ _ ws 0 (Nat.zero_le _) fun w hm hpf => by
    have := (sym_ge (p ++ y) ws 0).2 w hm (pfx_bw (hb.app p) (hw w hm) hpf)
    omega
  rcases sym_mem (p ++ y) ws 0 with h0 | ⟨w, hm, hpf, he⟩
  · omega
  · rw [pfx_iff] at hpf
    have hwp : w = p := by
      obtain ⟨t, ht⟩ := hpf
      have : w.length = p.length := by omega
      exact (List.append_inj ht this).1
    subst hwp
    have := (sym_ge (w ++ y') ws 0).2 w hm (by rw [pfx_iff]; exact List.prefix_append _ _)
    omega
/-- A PIECE STAYS ONE. -/
theorem pc_bw {lang k : Int} {p y y' : List UInt8} (hb : Bw y y') (h : pcT lang (p ++ y) = .tok k p.length) (hp1 : 1 ≤ p.length) : pcT lang (p ++ y') = .tok k p.length := by
  obtain ⟨hc, hx⟩ := pc_parts h
  refine pc_mk (comH_bw (hb.app p) hc) ?_
  match p, hp1 with
  | c :: x, _ =>
    rw [List.cons_append] at hx ⊢
    unfold nxT at hx ⊢
    simp only [] at hx ⊢
    by_cases hL : isL c = true
    · rw [if_pos hL] at hx ⊢
      have hn := (nm_len hx).1
      rw [List.length_cons] at hn
      have e1 : nameT lang (x ++ y) = x.length := by omega
      have e2 := nameT_bw lang hb x e1
      rw [← hx]
      unfold nmT
      rw [show (c :: (x ++ y)).drop 1 = x ++ y from rfl, show (c :: (x ++ y')).drop 1 = x ++ y' from rfl, e1, e2]
      rw [Nat.add_comm, List.take_succ_cons, List.take_succ_cons, List.take_left, List.take_left]
    · rw [if_neg hL] at hx ⊢
      by_cases hD : isD c = true
      · rw [if_pos hD] at hx ⊢
        have e1 : dlen ((c :: x) ++ y) = (c :: x).length := by
          unfold numT at hx
          split at hx
          · cases hx
          · split at hx
            · cases hx
            · injection hx
        have e2 := dlen_bw hb (c :: x) e1
        rw [List.cons_append] at e1 e2
        rw [← hx]
        unfold numT
        rw [e1, e2]
        rw [show (c :: (x ++ y)) = (c :: x) ++ y from rfl, show (c :: (x ++ y')) = (c :: x) ++ y' from rfl, List.take_left, List.take_left]
        rfl
      · rw [if_neg hD] at hx ⊢
        by_cases h34 : c = 34
        · rw [if_pos h34] at hx ⊢
          unfold quT at hx ⊢
          rw [show (c :: (x ++ y)).drop 1 = x ++ y from rfl] at hx
          rw [show (c :: (x ++ y')).drop 1 = x ++ y' from rfl]
          cases hq : qT (x ++ y) with
          | none => rw [hq] at hx; cases hx
          | some m =>
            rw [hq] at hx
            simp only [] at hx
            split at hx
            · cases hx
            · rename_i hm
              injection hx with h1 h2
              rw [List.length_cons] at h2
              have hml : m = x.length := by omega
              subst hml
              rw [qT_bw hb x hq]
              simp only []
              rw [if_neg hm, h1]
              rfl
        · rw [if_neg h34] at hx ⊢
          by_cases h39 : c = 39
          · rw [if_pos h39] at hx ⊢
            unfold dgT at hx ⊢
            rw [show (c :: (x ++ y)).drop 1 = x ++ y from rfl] at hx
            rw [show (c :: (x ++ y')).drop 1 = x ++ y' from rfl]
            have e : (c :: x).length = 0 + 1 + x.length := by rw [List.length_cons]; omega
            rw [e] at hx ⊢
            exact dgE_bw hb x 0 k true true hx
          · rw [if_neg h39] at hx ⊢
            unfold syT at hx ⊢
            split at hx
            · cases hx
            · injection hx with h1 h2
              have := symM_bw (fun w hw => (gs_fin lang).2.2 w hw) hb (p := c :: x) (by rw [List.length_cons]; omega) h2
              rw [show (c :: (x ++ y')) = (c :: x) ++ y' from rfl, this, if_neg (by rw [List.length_cons]; omega), h1]
end Go.Proofs.YtdhbhedfbdckaaaGreatDoor

/- What a text's tokens and comments are: where they stand, and that all else is blank. -/
namespace Go.Proofs.YtdhbhedfbdckaaaGreatDoor
open Go.Dam
set_option linter.unusedVariables false
set_option linter.unusedSimpArgs false
def chC : Nat → Nat → List (Nat × Nat) → Prop
  | _, _, [] => True
  | a, e, c :: cs => a ≤ c.1 ∧ c.1 + 2 ≤ c.2 ∧ c.2 ≤ e ∧ chC c.2 e cs
def chT : Nat → Nat → List Tok → Prop
  | _, _, [] => True
  | a, e, t :: ts => a ≤ t.at' ∧ 1 ≤ t.s.length ∧ t.at' + t.s.length ≤ e ∧ chT (t.at' + t.s.length) e ts
theorem chC_mono : ∀ {cs : List (Nat × Nat)} {a b e : Nat}, chC b e cs → a ≤ b → chC a e cs
  | [], _, _, _, _, _ => trivial
  | c :: cs, a, b, e, h, hab => ⟨Nat.le_trans hab h.1, h.2⟩
theorem chT_mono : ∀ {ts : List Tok} {a b e : Nat}, chT b e ts → a ≤ b → chT a e ts
  | [], _, _, _, _, _ => trivial
  | t :: ts, a, b, e, h, hab => ⟨Nat.le_trans hab h.1, h.2⟩
theorem chC_all : ∀ {cs : List (Nat × Nat)} {a e : Nat}, chC a e cs → ∀ c ∈ cs, a ≤ c.1 ∧ c.1 + 2 ≤ c.2 ∧ c.2 ≤ e
  | [], _, _, _, c, hc => by cases hc
  | d :: cs, a, e, h, c, hc => by
    rcases List.mem_cons.1 hc with rfl | hc
    · exact ⟨h.1, h.2.1, h.2.2.1⟩
    · have := chC_all h.2.2.2 c hc
      have h1 := h.1
      have h2 := h.2.1
      exact ⟨by omega, this.2⟩
theorem chT_all : ∀ {ts : List Tok} {a e : Nat}, chT a e ts → ∀ t ∈ ts, a ≤ t.at' ∧ 1 ≤ t.s.length ∧ t.at' + t.s.length ≤ e
  | [], _, _, _, c, hc => by cases hc
  | d :: ts, a, e, h, t, ht => by
    rcases List.mem_cons.1 ht with rfl | ht
    · exact ⟨h.1, h.2.1, h.2.2.1⟩
    · have := chT_all h.2.2.2 t ht
      have h1 := h.1
      have h2 := h.2.1
      exact ⟨by omega, this.2⟩
def inC (cs : List (Nat × Nat)) (p : Nat) : Prop := ∃ c ∈ cs, c.1 ≤ p ∧ p < c.2
instance (cs : List (Nat × Nat)) (p : Nat) : Decidable (inC cs p) := by unfold inC; infer_instance
def inT (ts : List Tok) (p : Nat) : Prop := ∃ t ∈ ts, t.at' ≤ p ∧ p < t.at' + t.s.length
structure Stands (lang : Int) (a : Nat) (r : List UInt8) (ts : List Tok) (cs : List (Nat × Nat)) : Prop where
  cht : chT a (a + r.length) ts
  chc : chC a (a + r.length) cs
  at_ : ∀ t ∈ ts, (r.drop (t.at' - a)).take t.s.length = t.s ∧ pcT lang t.s = .tok t.k t.s.length ∧ 0 ≤ t.k ∧ t.k ≤ 6 ∧ ∃ c x, t.s = c :: x ∧ blank c = false
  apart : ∀ t ∈ ts, ∀ c ∈ cs, t.at' + t.s.length ≤ c.1 ∨ c.2 ≤ t.at'
  rest : ∀ j c, r[j]? = some c → blank c = true ∨ inT ts (a + j) ∨ inC cs (a + j)
theorem Stands.step {lang : Int} {a n : Nat} {r : List UInt8} {ts : List Tok} {cs : List (Nat × Nat)} (hn : n ≤ r.length) (h : Stands lang (a + n) (r.drop n) ts cs) :
    chT (a + n) (a + r.length) ts ∧ chC (a + n) (a + r.length) cs ∧ (∀ t ∈ ts, (r.drop (t.at' - a)).take t.s.length = t.s) ∧ ∀ j c, n ≤ j → r[j]? = some c → blank c = true ∨ inT ts (a + j) ∨ inC cs (a + j) := by
  obtain ⟨h1, h2, h3, h4, h5⟩ := h
  have hl : a + n + (r.drop n).length = a + r.length := by rw [List.length_drop]; omega
  rw [hl] at h1 h2
  refine ⟨h1, h2, fun t ht => ?_, fun j c hj hc => ?_⟩
  · have := (h3 t ht).1
    have ha := (chT_all h1 t ht).1
    rw [List.drop_drop, show n + (t.at' - (a + n)) = t.at' - a by omega] at this
    exact this
  · have := h5 (j - n) c (by rw [List.getElem?_drop, show n + (j - n) = j by omega]; exact hc)
    rw [show a + n + (j - n) = a + j by omega] at this
    exact this
theorem sc_stands (lang : Int) : ∀ (k : Nat) (r : List UInt8) (a : Nat) (ts : List Tok) (cs : List (Nat × Nat)), scE lang k a r = .ok ts cs → Stands lang a r ts cs
  | 0, r, a, ts, cs, h => by cases h
  | k + 1, [], a, ts, cs, h => by
    rw [scE_nil] at h
    injection h with h1 h2
    subst h1 h2
    exact { cht := trivial, chc := trivial, at_ := fun t ht => absurd ht (by simp), apart := fun t ht => absurd ht (by simp), rest := fun j c hc => absurd hc (by simp) }
  | k + 1, c :: x, a, ts, cs, h => by
    rw [scE_cons] at h
    by_cases hb : blank c = true
    · rw [if_pos hb] at h
      have ih := sc_stands lang k x (a + 1) ts cs h
      obtain ⟨s1, s2, s3, s4⟩ := Stands.step (r := c :: x) (n := 1) (by simp) ih
      refine ⟨chT_mono s1 (by omega), chC_mono s2 (by omega), fun t ht => ⟨s3 t ht, (ih.at_ t ht).2⟩, ih.apart, fun j d hd => ?_⟩
      cases j with
      | zero => exact .inl (by simp at hd; rw [← hd]; exact hb)
      | succ j => exact s4 (j + 1) d (by omega) hd
    · rw [if_neg hb] at h
      have hb' : blank c = false := by simpa using hb
      rcases pc_shape lang (c :: x) with ⟨e, he, _⟩ | ⟨n, he, hn1, hn2, _⟩ | ⟨kk, n, he, hn1, hn2, hk0, hk6, _⟩
      · rw [he] at h; cases h
      · rw [he] at h
        simp only [] at h
        cases hd : scE lang k (a + n) ((c :: x).drop n) with
        | bad a' e' => rw [hd] at h; cases h
        | ok ts' cs' =>
          rw [hd] at h
          simp only [Rd.addC] at h
          injection h with g1 g2
          subst g1 g2
          have ih := sc_stands lang k _ (a + n) ts' cs' hd
          obtain ⟨s1, s2, s3, s4⟩ := Stands.step hn2 ih
          refine ⟨chT_mono s1 (by omega), ⟨Nat.le_refl _, by simpa using hn1, by simp only []; omega, s2⟩, fun t ht => ⟨s3 t ht, (ih.at_ t ht).2⟩, fun t ht d hd => ?_, fun j d hd => ?_⟩
          · rcases List.mem_cons.1 hd with rfl | hd
            · exact .inr (chT_all s1 t ht).1
            · exact ih.apart t ht d hd
          · by_cases hj : j < n
            · exact .inr (.inr ⟨_, List.mem_cons_self, by simp only []; omega, by simp only []; omega⟩)
            · rcases s4 j d (by omega) hd with h | h | ⟨q, hq, h⟩
              · exact .inl h
              · exact .inr (.inl h)
              · exact .inr (.inr ⟨q, List.mem_cons_of_mem _ hq, h⟩)
      · rw [he] at h
        simp only [] at h
        cases hd : scE lang k (a + n) ((c :: x).drop n) with
        | bad a' e' => rw [hd] at h; cases h
        | ok ts' cs' =>
          rw [hd] at h
          simp only [Rd.addT] at h
          injection h with g1 g2
          subst g1 g2
          have ih := sc_stands lang k _ (a + n) ts' cs' hd
          obtain ⟨s1, s2, s3, s4⟩ := Stands.step hn2 ih
          have hlen : ((c :: x).take n).length = n := by rw [List.length_take]; omega
          refine ⟨⟨Nat.le_refl _, by simp only []; omega, by simp only []; omega, by simp only []; rw [hlen]; exact s1⟩, chC_mono s2 (by omega), fun t ht => ?_, fun t ht d hd => ?_, fun j d hd => ?_⟩
          · rcases List.mem_cons.1 ht with rfl | ht
            · refine ⟨?_, ?_, hk0, hk6, ?_⟩
              · simp only []
                rw [hlen, Nat.sub_self, List.drop_zero]
              · simp only []
                have h1 : pcT lang ((c :: x).take n ++ (c :: x).drop n) = .tok kk ((c :: x).take n).length := by rw [List.take_append_drop, hlen]; exact he
                have h2 := pc_bw (.cut ((c :: x).drop n)) h1 (by omega)
                rw [List.append_nil] at h2
                exact h2
              · obtain ⟨n, rfl⟩ : ∃ m, n = m + 1 := ⟨n - 1, by omega⟩
                exact ⟨c, x.take n, rfl, hb'⟩
            · exact ⟨s3 t ht, (ih.at_ t ht).2⟩
          · rcases List.mem_cons.1 ht with rfl | ht
            · left
              simp only []
              rw [hlen]
              exact (chC_all s2 d hd).1
            · exact ih.apart t ht d hd
          · by_cases hj : j < n
            · exact .inr (.inl ⟨_, List.mem_cons_self, by simp only []; omega, by simp only []; omega⟩)
            · rcases s4 j d (by omega) hd with h | ⟨q, hq, h⟩ | h
              · exact .inl h
              · exact .inr (.inl ⟨q, List.mem_cons_of_mem _ hq, h⟩)
              · exact .inr (.inr h)
def bcell (c : UInt8) : UInt8 := if c = 10 then 10 else 32
theorem bcell_blank (c : UInt8) : blank (bcell c) = true := by
  unfold bcell
  split <;> rfl
def bare (cs : List (Nat × Nat)) : Nat → List UInt8 → List UInt8
  | _, [] => []
  | a, c :: r => (if inC cs a then bcell c else c) :: bare cs (a + 1) r
theorem bare_len (cs : List (Nat × Nat)) : ∀ (r : List UInt8) (a : Nat), (bare cs a r).length = r.length
  | [], _ => rfl
  | c :: r, a => by
    unfold bare
    rw [List.length_cons, List.length_cons, bare_len cs r]
theorem bare_get (cs : List (Nat × Nat)) : ∀ (r : List UInt8) (a j : Nat), (bare cs a r)[j]? = r[j]?.map fun c => if inC cs (a + j) then bcell c else c
  | [], _, _ => by simp [bare]
  | c :: r, a, 0 => by simp [bare]
  | c :: r, a, j + 1 => by
    unfold bare
    rw [List.getElem?_cons_succ, List.getElem?_cons_succ, bare_get cs r (a + 1) j, show a + 1 + j = a + (j + 1) by omega]
theorem bare_drop (cs : List (Nat × Nat)) (r : List UInt8) (a n : Nat) : (bare cs a r).drop n = bare cs (a + n) (r.drop n) := by
  apply List.ext_getElem?
  intro j
  rw [List.getElem?_drop, bare_get, bare_get, List.getElem?_drop, Nat.add_assoc]
theorem bare_congr {cs ds : List (Nat × Nat)} (r : List UInt8) (a : Nat) (h : ∀ p, a ≤ p → (inC cs p ↔ inC ds p)) : bare cs a r = bare ds a r := by
  apply List.ext_getElem?
  intro j
  rw [bare_get, bare_get]
  have := h (a + j) (by omega)
  by_cases hc : inC cs (a + j)
  · simp only [if_pos hc, if_pos (this.1 hc)]
  · simp only [if_neg hc, if_neg (fun hd => hc (this.2 hd))]
theorem bare_bw (cs : List (Nat × Nat)) : ∀ (r : List UInt8) (a : Nat), Bw r (bare cs a r)
  | [], _ => .cut _
  | c :: r, a => by
    unfold bare
    split
    · unfold bcell
      split
      · rename_i h; rw [h]; exact .same 10 (bare_bw cs r _)
      · exact .bl c (bare_bw cs r _)
    · exact .same c (bare_bw cs r _)
/-- Blanks are passed over. -/
theorem sc_skip (lang : Int) : ∀ (b : List UInt8), (∀ c ∈ b, blank c = true) → ∀ (k a : Nat) (r : List UInt8), scE lang (k + b.length) a (b ++ r) = scE lang k (a + b.length) r
  | [], _, k, a, r => rfl
  | c :: b, h, k, a, r => by
    rw [List.cons_append, List.length_cons, ← Nat.add_assoc, scE_cons, if_pos (h c List.mem_cons_self), sc_skip lang b (fun d hd => h d (List.mem_cons_of_mem _ hd))]
    rw [show a + 1 + b.length = a + (b.length + 1) by omega]
theorem inC_lt {cs : List (Nat × Nat)} {b e p : Nat} (h : chC b e cs) (hp : p < b) : ¬ inC cs p := by
  rintro ⟨c, hc, h1, h2⟩
  have := (chC_all h c hc).1
  omega
/-- WITH BLANKS IN THE PLACE OF COMMENTS a text has the same tokens. -/
theorem sc_bare (lang : Int) : ∀ (k : Nat) (r : List UInt8) (a : Nat) (ts : List Tok) (cs : List (Nat × Nat)), r.length < k → scE lang k a r = .ok ts cs → scE lang k a (bare cs a r) = .ok ts []
  | 0, r, a, ts, cs, _, h => by cases h
  | k + 1, [], a, ts, cs, _, h => by
    rw [scE_nil] at h
    injection h with h1 h2
    subst h1 h2
    rfl
  | k + 1, c :: x, a, ts, cs, hk, h => by
    have hst := sc_stands lang _ _ _ _ _ h
    rw [scE_cons] at h
    by_cases hb : blank c = true
    · rw [if_pos hb] at h
      have ih := sc_bare lang k x (a + 1) ts cs (by simpa using hk) h
      have hs1 := (sc_stands lang _ _ _ _ _ h).chc
      have : bare cs a (c :: x) = c :: bare cs (a + 1) x := by
        show (if inC cs a then bcell c else c) :: _ = _
        rw [if_neg (inC_lt hs1 (by omega))]
      rw [this, scE_cons, if_pos hb, ih]
    · rw [if_neg hb] at h
      rcases pc_shape lang (c :: x) with ⟨e, he, _⟩ | ⟨n, he, hn1, hn2, _⟩ | ⟨kk, n, he, hn1, hn2, hk0, hk6, _⟩
      · rw [he] at h; cases h
      · rw [he] at h
        simp only [] at h
        cases hd : scE lang k (a + n) ((c :: x).drop n) with
        | bad a' e' => rw [hd] at h; cases h
        | ok ts' cs' =>
          rw [hd] at h
          simp only [Rd.addC] at h
          injection h with g1 g2
          subst g1 g2
          have hlt : ((c :: x).drop n).length < k := by rw [List.length_drop]; omega
          have ih := sc_bare lang k _ (a + n) ts' cs' hlt hd
          have hs1 := (sc_stands lang _ _ _ _ _ hd).chc
          have hl : a + n + ((c :: x).drop n).length = a + (c :: x).length := by rw [List.length_drop]; omega
          rw [hl] at hs1
          generalize hr : c :: x = r at *
          have hsplit : bare ((a, a + n) :: cs') a r = (bare ((a, a + n) :: cs') a r).take n ++ bare cs' (a + n) (r.drop n) := by
            conv => lhs; rw [← List.take_append_drop n (bare ((a, a + n) :: cs') a r)]
            rw [bare_drop]
            congr 1
            refine bare_congr _ _ fun p hp => ⟨?_, fun ⟨q, hq, h⟩ => ⟨q, List.mem_cons_of_mem _ hq, h⟩⟩
            rintro ⟨q, hq, h1, h2⟩
            rcases List.mem_cons.1 hq with rfl | hq
            · simp only [] at h2; omega
            · exact ⟨q, hq, h1, h2⟩
          have hbl : ∀ d ∈ (bare ((a, a + n) :: cs') a r).take n, blank d = true := by
            intro d hd
            obtain ⟨j, hj⟩ := List.mem_iff_getElem?.1 hd
            rw [List.getElem?_take] at hj
            split at hj
            · rename_i hjn
              rw [bare_get] at hj
              cases hrj : r[j]? with
              | none => rw [hrj] at hj; cases hj
              | some y =>
                rw [hrj] at hj
                simp only [Option.map_some, Option.some.injEq] at hj
                have hin : inC ((a, a + n) :: cs') (a + j) := ⟨(a, a + n), List.mem_cons_self, by simp only []; omega, by simp only []; omega⟩
                rw [if_pos hin] at hj
                rw [← hj]
                exact bcell_blank y
            · cases hj
          have hln : ((bare ((a, a + n) :: cs') a r).take n).length = n := by rw [List.length_take, bare_len]; omega
          have key := sc_skip lang _ hbl (k + 1) a (bare cs' (a + n) (r.drop n))
          rw [← hsplit, hln] at key
          rw [scE_eq lang (k := k + 1) (k' := k + 1 + n) (by rw [bare_len]; omega) (by rw [bare_len]; omega), key]
          rw [scE_eq lang (k := k + 1) (k' := k) (by rw [bare_len]; omega) (by rw [bare_len]; omega), ih]
      · rw [he] at h
        simp only [] at h
        cases hd : scE lang k (a + n) ((c :: x).drop n) with
        | bad a' e' => rw [hd] at h; cases h
        | ok ts' cs' =>
          rw [hd] at h
          simp only [Rd.addT] at h
          injection h with g1 g2
          subst g1 g2
          have hlt : ((c :: x).drop n).length < k := by rw [List.length_drop]; omega
          have ih := sc_bare lang k _ (a + n) ts' cs' hlt hd
          have hs1 := (sc_stands lang _ _ _ _ _ hd).chc
          have hl : a + n + ((c :: x).drop n).length = a + (c :: x).length := by rw [List.length_drop]; omega
          rw [hl] at hs1
          have htk : (bare cs' a (c :: x)).take n = (c :: x).take n := by
            apply List.ext_getElem?
            intro j
            rw [List.getElem?_take, List.getElem?_take]
            split
            · rename_i hj
              rw [bare_get]
              have hni : ¬ inC cs' (a + j) := inC_lt hs1 (by omega)
              cases (c :: x)[j]? with
              | none => rfl
              | some y => simp only [Option.map_some, if_neg hni]
            · rfl
          have hsplit : bare cs' a (c :: x) = (c :: x).take n ++ bare cs' (a + n) ((c :: x).drop n) := by
            conv => lhs; rw [← List.take_append_drop n (bare cs' a (c :: x))]
            rw [bare_drop, htk]
          have hlen : ((c :: x).take n).length = n := by rw [List.length_take]; omega
          have h1 : pcT lang ((c :: x).take n ++ (c :: x).drop n) = .tok kk ((c :: x).take n).length := by rw [List.take_append_drop, hlen]; exact he
          have h2 := pc_bw (bare_bw cs' ((c :: x).drop n) (a + n)) h1 (by omega)
          rw [hlen] at h2
          obtain ⟨m, rfl⟩ : ∃ m, n = m + 1 := ⟨n - 1, by omega⟩
          have hcons : bare cs' a (c :: x) = c :: (x.take m ++ bare cs' (a + (m + 1)) ((c :: x).drop (m + 1))) := hsplit
          have hpc : pcT lang (c :: (x.take m ++ bare cs' (a + (m + 1)) ((c :: x).drop (m + 1)))) = .tok kk (m + 1) := h2
          have hb2 : ((c :: x).take (m + 1) ++ bare cs' (a + (m + 1)) ((c :: x).drop (m + 1))).drop (m + 1) = bare cs' (a + (m + 1)) ((c :: x).drop (m + 1)) := by
            rw [List.drop_left' hlen]
          have hb3 : ((c :: x).take (m + 1) ++ bare cs' (a + (m + 1)) ((c :: x).drop (m + 1))).take (m + 1) = (c :: x).take (m + 1) := by
            rw [List.take_left' hlen]
          rw [hcons, scE_cons, if_neg hb, hpc]
          simp only []
          rw [show c :: (x.take m ++ bare cs' (a + (m + 1)) ((c :: x).drop (m + 1))) = (c :: x).take (m + 1) ++ bare cs' (a + (m + 1)) ((c :: x).drop (m + 1)) from rfl, hb2, hb3, ih]
          rfl
end Go.Proofs.YtdhbhedfbdckaaaGreatDoor
