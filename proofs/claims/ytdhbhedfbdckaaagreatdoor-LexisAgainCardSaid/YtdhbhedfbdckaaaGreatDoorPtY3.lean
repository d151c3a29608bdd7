/- A part of an interpreter of the model's code that is proved sound, and of laws told by it: DamX28, DamX29. -/
import Derived.Test.YtdhbhedfbdckaaaGreatDoorPtH3
import Derived.Test.YtdhbhedfbdckaaaGreatDoorPtY2
import Derived.Test.YtdhbhedfbdckaaaGreatDoorPtR1
set_option linter.unusedVariables false
set_option linter.unusedSimpArgs false
/- The joined text is read as the tokens that were joined. -/
namespace Go.Proofs.YtdhbhedfbdckaaaGreatDoor
open Go.Dam
set_option linter.unusedVariables false
set_option linter.unusedSimpArgs false
theorem gs_fin (lang : Int) : (∀ w ∈ gsOf lang, w.length ≤ 2 ∨ w = [46, 46, 46] ∨ w = [58, 58, 61]) ∧ [46, 46] ∈ gsOf lang ∧ (∀ w ∈ gsOf lang, (32 : UInt8) ∉ w) := by
  unfold gsOf
  split
  · exact ⟨by decide +kernel, by decide +kernel, by decide +kernel⟩
  · exact ⟨by decide +kernel, by decide +kernel, by decide +kernel⟩
def shutOk : List UInt8 → Bool
  | [] => false
  | d :: _ => !nameC d && (!decide (d = 34) && !decide (d = 61))
theorem shuts_all : shutsL.all shutOk = true := by decide +kernel
theorem shut_ok {s : List UInt8} (h : s ∈ shutsL) : ∃ d x, s = d :: x ∧ nameC d = false ∧ d ≠ 34 ∧ d ≠ 61 := by
  have := List.all_eq_true.1 shuts_all s h
  cases s with
  | nil => cases this
  | cons d x =>
    unfold shutOk at this
    rw [Bool.and_eq_true, Bool.and_eq_true, Bool.not_eq_true', Bool.not_eq_true', Bool.not_eq_true', decide_eq_false_iff_not, decide_eq_false_iff_not] at this
    exact ⟨d, x, rfl, this.1, this.2.1, this.2.2⟩
theorem tog_parts {lang : Int} {a b : Tk} (h : togT lang a b = true) : ((a.k = 6 ∧ a.s ∈ opensL) ∨ (b.k = 6 ∧ b.s ∈ shutsL)) ∧ two lang a b = true := by
  unfold togT at h
  rw [Bool.and_eq_true, Bool.or_eq_true, Bool.and_eq_true, Bool.and_eq_true, decide_eq_true_iff, decide_eq_true_iff, beq_iff_eq, beq_iff_eq] at h
  exact h
theorem pfx_cut {w s : List UInt8} {d : UInt8} {y : List UInt8} (h : pfx w (s ++ d :: y) = true) (hl : s.length < w.length) : w[s.length]? = some d := by
  obtain ⟨v, hv⟩ := (pfx_iff _ _).1 h
  have : (w ++ v)[s.length]? = some d := by
    rw [hv, List.getElem?_append_right (Nat.le_refl _), Nat.sub_self]
    rfl
  rwa [List.getElem?_append_left hl] at this
theorem stop_nil {lang k : Int} {c : UInt8} {x : List UInt8} {n : Nat} (hp : pcT lang (c :: x) = .tok k n) : stop lang k (c :: x) [] := by
  refine ⟨fun h6 => ?_, fun _ d hd => by cases hd⟩
  rw [List.append_nil]
  exact ⟨(pc_parts hp).1, fun w _ hw => pfx_len hw⟩
theorem stop_32 {lang k : Int} {c : UInt8} {x y : List UInt8} {n : Nat} (hp : pcT lang (c :: x) = .tok k n) : stop lang k (c :: x) (32 :: y) := by
  refine ⟨fun h6 => ⟨?_, fun w hw hpf => ?_⟩, fun _ d hd => ?_⟩
  · cases x with
    | nil => exact comH_32 lang c y
    | cons e x =>
      rw [comH_app lang (32 :: y) (show 2 ≤ (c :: e :: x).length by rw [List.length_cons, List.length_cons]; omega)]
      exact (pc_parts hp).1
  · by_cases hl : (c :: x).length < w.length
    · have := pfx_cut hpf hl
      exact absurd (List.mem_of_getElem? this) ((gs_fin lang).2.2 w hw)
    · omega
  · injection hd with hd
    subst hd
    decide
theorem stop_tog {lang : Int} {a b : Tk} {r' : List UInt8} (ha : oneT lang a.k a.s = true) (hb1 : oneT lang b.k b.s = true) (ht : togT lang a b = true) (hx : b.s = [58] → r'.head? ≠ some 61) : stop lang a.k a.s (b.s ++ r') := by
  obtain ⟨c, x, e, hbl, hp, _⟩ := one_pc ha
  obtain ⟨ht1, ht2⟩ := tog_parts ht
  have h2 := two_pc ht2 e hbl
  obtain ⟨cb, xb, eb, _, _, _⟩ := one_pc hb1
  have la : a.s.length = x.length + 1 := by rw [e]; rfl
  have lb : b.s.length = xb.length + 1 := by rw [eb]; rfl
  have lab : (a.s ++ b.s).length = x.length + 1 + (xb.length + 1) := by rw [List.length_append, la, lb]
  refine ⟨fun h6 => ?_, fun h6 => ?_⟩
  · obtain ⟨hc, hnx⟩ := pc_parts h2
    have hs : ∀ w ∈ gsOf lang, pfx w (a.s ++ b.s) = true → w.length ≤ a.s.length := by
      rw [h6] at hnx
      have e1 : a.s ++ b.s = c :: (x ++ b.s) := by rw [e]; rfl
      rw [e1] at hnx
      have e2 := (nx_sym hnx).2.2.2.2
      rw [← e1] at e2
      intro w hw hpf
      have := (sym_ge (a.s ++ b.s) (gsOf lang) 0).2 w hw hpf
      omega
    rw [← List.append_assoc]
    refine ⟨by rw [comH_app lang r' (show 2 ≤ (a.s ++ b.s).length by omega)]; exact hc, fun w hw hpf => ?_⟩
    by_cases hl : w.length ≤ (a.s ++ b.s).length
    · rw [pfx_app2 r' hl] at hpf
      exact hs w hw hpf
    · exfalso
      rcases (gs_fin lang).1 w hw with h | h | h
      · omega
      · subst h
        have l3 : ([46, 46, 46] : List UInt8).length = 3 := rfl
        have hpre := (pfx_iff _ _).1 hpf
        have hq : pfx [46, 46] (a.s ++ b.s) = true := by
          rw [← pfx_app2 r' (show ([46, 46] : List UInt8).length ≤ (a.s ++ b.s).length by rw [lab]; show 2 ≤ _; omega), pfx_iff]
          exact List.IsPrefix.trans ⟨[46], rfl⟩ hpre
        have := hs [46, 46] (gs_fin lang).2.1 hq
        have l2 : ([46, 46] : List UInt8).length = 2 := rfl
        omega
      · subst h
        have l3 : ([58, 58, 61] : List UInt8).length = 3 := rfl
        have hpre := (pfx_iff _ _).1 hpf
        have hx0 : x = [] := List.eq_nil_of_length_eq_zero (by omega)
        have hxb0 : xb = [] := List.eq_nil_of_length_eq_zero (by omega)
        subst hx0 hxb0
        rw [e, eb] at hpre
        have hpre : [58, 58, 61] <+: c :: cb :: r' := hpre
        rw [List.cons_prefix_cons, List.cons_prefix_cons] at hpre
        obtain ⟨_, g2, g3⟩ := hpre
        refine hx (by rw [eb, ← g2]) ?_
        obtain ⟨v, hv⟩ := g3
        rw [← hv]
        rfl
  · intro d hd
    have hsh : b.s ∈ shutsL := by
      rcases ht1 with h | h
      · exact absurd h.1 h6
      · exact h.2
    obtain ⟨d', x', e', n1, n2, _⟩ := shut_ok hsh
    rw [e'] at hd
    injection hd with hd
    subst hd
    exact ⟨n1, n2⟩
theorem jn_cons (lang : Int) (b t : Tk) (ts : List Tk) : jnGo lang (some b) (t :: ts) = (if togT lang b t = true then [] else [32]) ++ (t.s ++ jnGo lang (some t) ts) := rfl
theorem jn_head {lang : Int} {b : Tk} (hb : b.s = [58]) (ts : List Tk) : (jnGo lang (some b) ts).head? ≠ some 61 := by
  cases ts with
  | nil => intro h; cases h
  | cons t ts =>
    rw [jn_cons]
    by_cases h : togT lang b t = true
    · rw [if_pos h, List.nil_append]
      rcases (tog_parts h).1 with h1 | h1
      · have h1 := h1.2
        rw [hb] at h1
        exact absurd h1 (by decide +kernel)
      · obtain ⟨d, x, e, _, _, n3⟩ := shut_ok h1.2
        rw [e]
        intro hh
        injection hh with hh
        exact n3 hh
    · rw [if_neg h]
      intro hh
      injection hh with hh
      cases hh
theorem stop_join {lang : Int} {a : Tk} {ts : List Tk} (hall : ∀ t ∈ a :: ts, oneT lang t.k t.s = true) : stop lang a.k a.s (jnGo lang (some a) ts) := by
  obtain ⟨c, x, e, hbl, hp, _⟩ := one_pc (hall a (by simp))
  rw [e] at hp
  cases ts with
  | nil =>
    rw [e]
    exact stop_nil hp
  | cons b ts =>
    rw [jn_cons]
    by_cases h : togT lang a b = true
    · rw [if_pos h, List.nil_append]
      exact stop_tog (hall a (by simp)) (hall b (by simp)) h fun hb => jn_head hb ts
    · rw [if_neg h, e]
      exact stop_32 hp
theorem sc_step {lang : Int} {a : Tk} {r : List UInt8} (k at0 : Nat) (ha : oneT lang a.k a.s = true) (hs : stop lang a.k a.s r) : scE lang (k + 1) at0 (a.s ++ r) = (scE lang k (at0 + a.s.length) r).addT ⟨a.k, a.s, at0⟩ := by
  obtain ⟨c, x, e, hbl, hp, _⟩ := one_pc ha
  rw [e] at hp hs ⊢
  have := pc_app (r := r) hp hs
  rw [List.cons_append, scE_cons, hbl, if_neg (by decide), this]
  simp only []
  rw [show c :: (x ++ r) = (c :: x) ++ r from rfl, show x.length + 1 = (c :: x).length from rfl, List.drop_left, List.take_left]
theorem read_go (lang : Int) : ∀ (ts : List Tk) (a : Tk) (k at0 : Nat), (∀ t ∈ a :: ts, oneT lang t.k t.s = true) → (a.s ++ jnGo lang (some a) ts).length < k →
    ∃ us : List Tok, scE lang k at0 (a.s ++ jnGo lang (some a) ts) = .ok us [] ∧ (us.map Tok.tk).map Tk.ks = (a :: ts).map Tk.ks ∧ ∀ u ∈ us, u.at' ≤ at0 + (a.s ++ jnGo lang (some a) ts).length
  | ts, a, 0, _, _, hk => by omega
  | [], a, k + 1, at0, hall, hk => by
    have ha := hall a (by simp)
    obtain ⟨c, x, e, hbl, hp, _⟩ := one_pc ha
    have la : a.s.length = x.length + 1 := by rw [e]; rfl
    rw [sc_step k at0 ha (stop_join hall)]
    rw [List.length_append] at hk
    obtain ⟨k, rfl⟩ := succK (show 1 ≤ k by omega)
    rw [show jnGo lang (some a) [] = [] from rfl, scE_nil]
    refine ⟨_, rfl, rfl, fun u hu => ?_⟩
    rw [List.mem_singleton] at hu
    subst hu
    show at0 ≤ _
    omega
  | b :: ts, a, k + 1, at0, hall, hk => by
    have ha := hall a (by simp)
    obtain ⟨c, x, e, hbl, hp, _⟩ := one_pc ha
    have la : a.s.length = x.length + 1 := by rw [e]; rfl
    rw [sc_step k at0 ha (stop_join hall)]
    rw [List.length_append] at hk ⊢
    rw [jn_cons] at hk ⊢
    have hall' : ∀ t ∈ b :: ts, oneT lang t.k t.s = true := fun t ht => hall t (by simp [ht])
    by_cases h : togT lang a b = true
    · rw [if_pos h, List.nil_append] at hk ⊢
      obtain ⟨us, g1, g2, g3⟩ := read_go lang ts b k (at0 + a.s.length) hall' (by omega)
      rw [g1]
      refine ⟨_, rfl, ?_, fun u hu => ?_⟩
      · rw [List.map_cons, List.map_cons, g2]
        rfl
      · rcases List.mem_cons.1 hu with he | hu
        · rw [he]
          show at0 ≤ _
          omega
        · have := g3 u hu
          omega
    · rw [if_neg h] at hk ⊢
      have l1 : ([32] ++ (b.s ++ jnGo lang (some b) ts)).length = (b.s ++ jnGo lang (some b) ts).length + 1 := rfl
      rw [l1] at hk ⊢
      obtain ⟨k, rfl⟩ := succK (show 1 ≤ k by omega)
      obtain ⟨us, g1, g2, g3⟩ := read_go lang ts b k (at0 + a.s.length + 1) hall' (by omega)
      rw [show [32] ++ (b.s ++ jnGo lang (some b) ts) = 32 :: (b.s ++ jnGo lang (some b) ts) from rfl, scE_cons, if_pos (by decide), g1]
      refine ⟨_, rfl, ?_, fun u hu => ?_⟩
      · rw [List.map_cons, List.map_cons, g2]
        rfl
      · rcases List.mem_cons.1 hu with he | hu
        · rw [he]
          show at0 ≤ _
          omega
        · have := g3 u hu
          omega
theorem jn_ok (lang : Int) : ∀ (ts : List Tk) (p : Option Tk), (∀ t ∈ ts, oneT lang t.k t.s = true) → ∀ c ∈ jnGo lang p ts, okC c = true
  | [], p, _, c, hc => by
    cases p <;> cases hc
  | t :: ts, p, hall, c, hc => by
    obtain ⟨_, _, _, _, _, hbad⟩ := one_pc (hall t (by simp))
    have ih := jn_ok lang ts (some t) (fun u hu => hall u (by simp [hu])) c
    have ht := badAt_none hbad c
    cases p with
    | none =>
      have hc : c ∈ t.s ++ jnGo lang (some t) ts := hc
      rcases List.mem_append.1 hc with h | h
      · exact ht h
      · exact ih h
    | some q =>
      rw [jn_cons] at hc
      rcases List.mem_append.1 hc with h | h
      · split at h
        · cases h
        · rw [List.mem_singleton] at h
          rw [h]
          decide
      · rcases List.mem_append.1 h with h | h
        · exact ht h
        · exact ih h
theorem read_join {lang : Int} (hlang : lang = 0 ∨ lang = 1) {ts : List Tk} (hall : ∀ t ∈ ts, oneT lang t.k t.s = true) (hn : ts.length ≤ 1500) (hl : (jnGo lang none ts).length ≤ 8000) :
    ∃ us : List Tok, rdT lang (jnGo lang none ts) = .ok us [] ∧ (us.map Tok.tk).map Tk.ks = ts.map Tk.ks ∧ ∀ u ∈ us, u.at' ≤ 8000 := by
  have hck : chkT (jnGo lang none ts) = ((((jnGo lang none ts).count 10 + 1 : Nat) : Int), (0 : Int)) := by
    unfold chkT
    rw [if_neg (by omega), badAt_of (jn_ok lang ts none hall)]
  rw [rdT_go hlang hck]
  cases ts with
  | nil => exact ⟨[], rfl, rfl, fun _ h => by cases h⟩
  | cons a ts =>
    have e : jnGo lang none (a :: ts) = a.s ++ jnGo lang (some a) ts := rfl
    rw [e] at hl ⊢
    obtain ⟨us, g1, g2, g3⟩ := read_go lang ts a ((a.s ++ jnGo lang (some a) ts).length + 1) 0 hall (by omega)
    rw [g1]
    have hlen : us.length = (a :: ts).length := by
      have := congrArg List.length g2
      simpa using this
    simp only []
    rw [if_neg (by omega)]
    exact ⟨us, rfl, g2, fun u hu => by have := g3 u hu; omega⟩
end Go.Proofs.YtdhbhedfbdckaaaGreatDoor

/- The law of reading again. -/
namespace Go.Proofs.YtdhbhedfbdckaaaGreatDoor
open Go.Dam
set_option linter.unusedVariables false
set_option linter.unusedSimpArgs false
theorem ks_eq {a b : Tk} (h : a.ks = b.ks) : a.k = b.k ∧ a.s = b.s := by
  unfold Tk.ks at h
  injection h with h1 h2
  exact ⟨h1, h2⟩
theorem tog_congr {lang : Int} {a a' b b' : Tk} (h1 : a.ks = a'.ks) (h2 : b.ks = b'.ks) : togT lang a b = togT lang a' b' := by
  obtain ⟨e1, e2⟩ := ks_eq h1
  obtain ⟨e3, e4⟩ := ks_eq h2
  unfold togT two
  rw [e1, e2, e3, e4]
theorem jn_congr (lang : Int) : ∀ (ts us : List Tk) (p q : Option Tk), p.map Tk.ks = q.map Tk.ks → ts.map Tk.ks = us.map Tk.ks → jnGo lang p ts = jnGo lang q us
  | [], [], p, q, _, _ => by cases p <;> cases q <;> rfl
  | [], u :: us, _, _, _, h => by cases h
  | t :: ts, [], _, _, _, h => by cases h
  | t :: ts, u :: us, p, q, hp, h => by
    rw [List.map_cons, List.map_cons] at h
    injection h with h1 h2
    have ih := jn_congr lang ts us (some t) (some u) (by rw [Option.map_some, Option.map_some, h1]) h2
    have hs := (ks_eq h1).2
    cases p with
    | none =>
      cases q with
      | none =>
        show t.s ++ jnGo lang (some t) ts = u.s ++ jnGo lang (some u) us
        rw [ih, hs]
      | some q => cases hp
    | some p =>
      cases q with
      | none => cases hp
      | some q =>
        have hpq : p.ks = q.ks := Option.some.inj hp
        rw [jn_cons, jn_cons, tog_congr hpq h1, ih, hs]
theorem tk_zero {lang : Int} {t : Tk} : tkErr lang t = 0 ↔ ¬ (t.k < 0 ∨ 6 < t.k) ∧ oneT lang t.k t.s = true ∧ (0 ≤ t.a ∧ t.a ≤ 8000) := by
  unfold tkErr
  by_cases h1 : t.k < 0 ∨ 6 < t.k
  · rw [if_pos h1]
    exact ⟨fun h => by omega, fun h => absurd h1 h.1⟩
  · rw [if_neg h1]
    by_cases h2 : oneT lang t.k t.s = true
    · rw [if_pos h2]
      by_cases h3 : 0 ≤ t.a ∧ t.a ≤ 8000
      · rw [if_pos h3]
        exact ⟨fun _ => ⟨h1, h2, h3⟩, fun _ => rfl⟩
      · rw [if_neg h3]
        exact ⟨fun h => by omega, fun h => absurd h.2.2 h3⟩
    · rw [if_neg h2]
      exact ⟨fun h => by omega, fun h => absurd h.2.1 h2⟩
theorem fst_zero (lang : Int) : ∀ ts : List Tk, fstErr lang ts = 0 ↔ ∀ t ∈ ts, tkErr lang t = 0
  | [] => ⟨fun _ _ h => (by cases h), fun _ => rfl⟩
  | t :: ts => by
    have ih := fst_zero lang ts
    unfold fstErr
    by_cases h : tkErr lang t = 0
    · rw [if_pos h, ih]
      exact ⟨fun g u hu => by
        rcases List.mem_cons.1 hu with he | hu
        · rw [he]; exact h
        · exact g u hu, fun g u hu => g u (by simp [hu])⟩
    · rw [if_neg h]
      exact ⟨fun g => absurd g h, fun g => absurd (g t (by simp)) h⟩
theorem joined_ok {lang : Int} {ts : List Tk} (h : (joinT lang ts).2 = 0) : (lang = 0 ∨ lang = 1) ∧ ts.length ≤ 1500 ∧ fstErr lang ts = 0 ∧ (jnGo lang none ts).length ≤ 8000 ∧ (joinT lang ts).1 = jnGo lang none ts := by
  unfold joinT at h ⊢
  by_cases h1 : lang = 0 ∨ lang = 1
  · rw [if_pos h1] at h ⊢
    by_cases h2 : 1500 < ts.length
    · rw [if_pos h2] at h; cases h
    · rw [if_neg h2] at h ⊢
      by_cases h3 : fstErr lang ts = 0
      · rw [if_pos h3] at h ⊢
        by_cases h4 : 8000 < (jnGo lang none ts).length
        · rw [if_pos h4] at h; cases h
        · rw [if_neg h4]
          exact ⟨h1, by omega, h3, by omega, rfl⟩
      · rw [if_neg h3] at h
        exact absurd h h3
  · rw [if_neg h1] at h; cases h
theorem joined_bad {lang : Int} {ts : List Tk} (h : (joinT lang ts).2 ≠ 0) : (joinT lang ts).1 = [] := by
  unfold joinT at h ⊢
  by_cases h1 : lang = 0 ∨ lang = 1
  · rw [if_pos h1] at h ⊢
    by_cases h2 : 1500 < ts.length
    · rw [if_pos h2]
    · rw [if_neg h2] at h ⊢
      by_cases h3 : fstErr lang ts = 0
      · rw [if_pos h3] at h ⊢
        by_cases h4 : 8000 < (jnGo lang none ts).length
        · rw [if_pos h4]
        · rw [if_neg h4] at h
          exact absurd rfl h
      · rw [if_neg h3]
  · rw [if_neg h1]
theorem join_again {lang : Int} {ts : List Tk} (h : (joinT lang ts).2 = 0) : ∃ us : List Tok, rdT lang (joinT lang ts).1 = .ok us [] ∧ (us.map Tok.tk).map Tk.ks = ts.map Tk.ks ∧ joinT lang (us.map Tok.tk) = joinT lang ts := by
  obtain ⟨hlang, hn, hf, hl, e⟩ := joined_ok h
  have hz := (fst_zero lang ts).1 hf
  obtain ⟨us, g1, g2, g3⟩ := read_join hlang (fun t ht => (tk_zero.1 (hz t ht)).2.1) hn hl
  have hlen : (us.map Tok.tk).length = ts.length := by
    have := congrArg List.length g2
    simpa using this
  have hj : jnGo lang none (us.map Tok.tk) = jnGo lang none ts := jn_congr lang _ _ none none rfl g2
  have hf2 : fstErr lang (us.map Tok.tk) = 0 := (fst_zero lang _).2 fun t ht => by
    obtain ⟨u, hu, rfl⟩ := List.mem_map.1 ht
    have hm : u.tk.ks ∈ (us.map Tok.tk).map Tk.ks := List.mem_map.2 ⟨u.tk, List.mem_map.2 ⟨u, hu, rfl⟩, rfl⟩
    rw [g2] at hm
    obtain ⟨t0, h0, h1⟩ := List.mem_map.1 hm
    obtain ⟨e1, e2⟩ := ks_eq h1
    obtain ⟨z1, z2, z3⟩ := tk_zero.1 (hz t0 h0)
    refine tk_zero.2 ⟨by rw [← e1]; exact z1, by rw [← e1, ← e2]; exact z2, ?_⟩
    have := g3 u hu
    show 0 ≤ (u.at' : Int) ∧ (u.at' : Int) ≤ 8000
    omega
  refine ⟨us, by rw [e]; exact g1, g2, ?_⟩
  unfold joinT
  rw [hlen, hf2, hj, hf]
theorem law7 (K : Nat) (hK : 100000 ≤ K) (lang : Int) (ts : List Tk) : run tab2 (K + 1 + 1) 7 [I lang, .sl 35 (ts.map tkA)] = some (B true) := by
  obtain ⟨b, h1, h2⟩ := r21 (K := KB) (by rw [kb]; omega) ts
  have e21 := run2 K 21 [.sl 35 (ts.map tkA)] rfl
  rw [h1] at e21
  rw [eq7]; unfold sh7 tr7
  rw [awake2 (by omega), e21]
  simp only [castB_B, Bool.not_true]
  cases b with
  | false => rfl
  | true =>
    obtain ⟨h5, hs⟩ := h2 rfl
    have e23 := run2 K 23 [.sl 35 (ts.map tkA)] rfl
    rw [r23 (by rw [kb]; omega) ts (by omega)] at e23
    have e22 := run22 K lang ts (small_of hs)
    rw [List.length_map]
    simp only [Bool.not_true]
    cases decide ((ts.length : Int) > 60) with
    | true => rfl
    | false =>
      by_cases hj : (joinT lang ts).2 = 0
      · obtain ⟨us, g1, g2, g3⟩ := join_again hj
        obtain ⟨_, _, _, hl, e⟩ := joined_ok hj
        have hlen : (us.map Tok.tk).length = ts.length := by
          have := congrArg List.length g2
          simpa using this
        have hs2 : ∀ t ∈ us.map Tok.tk, t.s.length ≤ 300 := fun t ht => by
          have hm : t.ks ∈ (us.map Tok.tk).map Tk.ks := List.mem_map.2 ⟨t, ht, rfl⟩
          rw [g2] at hm
          obtain ⟨t0, h0, h1⟩ := List.mem_map.1 hm
          rw [← (ks_eq h1).2]
          exact hs t0 h0
        have e14 := run2 K 14 [I lang, St (sb (joinT lang ts).1)] rfl
        rw [r14 lang _ (by rw [e]; omega) (by rw [e, kb]; omega), g1] at e14
        simp only [] at e14
        rw [map_tokA] at e14
        have e16 := run2 K 16 [.sl 35 (ts.map tkA), .sl 35 ((us.map Tok.tk).map tkA)] rfl
        rw [r16 ts _ (by omega) (by rw [kb]; omega), g2, decide_eq_true rfl] at e16
        have e22b := run22 K lang (us.map Tok.tk) (small_of hs2)
        rw [g3] at e22b
        have hp : joinT lang ts = ((joinT lang ts).1, 0) := by rw [← hj]
        generalize (joinT lang ts).1 = s at e22 e22b e14
        rw [hj] at e22 e22b
        simp only [e23, castL_L, e22, compN, List.getD_cons_zero, List.getD_cons_succ, castS_S, castI_I]
        rw [show ((0 : Int) != 0) = false from rfl]
        simp only [e14, compN, List.getD_cons_zero, List.getD_cons_succ, castS_S, castI_I, castL_L]
        rw [show ((0 : Int) != 0) = false from rfl]
        simp only [e16, castB_B, Bool.not_true, e22b, compN, List.getD_cons_zero, List.getD_cons_succ, castS_S, castI_I]
        rw [show ((0 : Int) == 0) = true from rfl, sb_refl]
      · have he := joined_bad hj
        rw [he] at e22
        have hne : ((joinT lang ts).2 != 0) = true := by simpa using hj
        simp only [e23, castL_L, e22, compN, List.getD_cons_zero, List.getD_cons_succ, castS_S, castI_I, hne]
        rfl
theorem lawv7 (av : List AV) (hl : av.length = [3, 24].length) (h : ∀ j t, [3, 24][j]? = some t → WfA tab2 t (av.getD j .undef)) : ∃ k, run tab2 k 7 av = some (.sc (.bool true)) := by
  match av, hl with
  | [a, b], _ =>
    obtain ⟨n, hn⟩ := dec3 (h 0 3 rfl)
    obtain ⟨ts, hb, _⟩ := dec24 (h 1 24 rfl)
    have hn : a = I n := hn
    have hb : b = .sl 35 (ts.map tkA) := hb
    subst hn hb
    exact ⟨_, law7 100000 (Nat.le_refl _) n ts⟩
end Go.Proofs.YtdhbhedfbdckaaaGreatDoor
