/- A part of an interpreter of the model's code that is proved sound, and of laws told by it: DamX26, DamX27. -/
import Derived.Test.YtdhbhedfbdckaaaGreatDoorPtH2
set_option linter.unusedVariables false
set_option linter.unusedSimpArgs false
/- Tokens side by side: what a piece that is read at the head of a text depends on. -/
namespace Go.Proofs.YtdhbhedfbdckaaaGreatDoor
open Go.Dam
set_option linter.unusedVariables false
set_option linter.unusedSimpArgs false
/-- A character that may go on with a name. -/
def nameC (c : UInt8) : Bool := isPt c || (decide (c = 95) || decide (c = 45))
theorem nameC_false {c : UInt8} (h : nameC c = false) : isPt c = false ∧ c ≠ 95 ∧ c ≠ 45 := by
  unfold nameC at h
  rw [Bool.or_eq_false_iff, Bool.or_eq_false_iff, decide_eq_false_iff_not, decide_eq_false_iff_not] at h
  exact h
theorem nameT_app (lang : Int) (r : List UInt8) (hr : ∀ c, r.head? = some c → nameC c = false) : ∀ x : List UInt8, nameT lang x = x.length → nameT lang (x ++ r) = x.length
  | [], _ => by
    cases r with
    | nil => rfl
    | cons c r =>
      obtain ⟨h1, h2, h3⟩ := nameC_false (hr c rfl)
      rw [List.nil_append]
      unfold nameT
      rw [if_neg (by rw [h1]; decide), if_neg (fun h => h2 h.1), if_neg (fun h => h3 h.1)]
      rfl
  | d :: x, h => by
    have hl : (d :: x).length = x.length + 1 := rfl
    have ih := nameT_app lang r hr x
    rw [hl] at h ⊢
    rw [List.cons_append]
    unfold nameT at h ⊢
    by_cases h1 : isPt d = true
    · rw [if_pos h1] at h ⊢
      rw [ih (by omega)]
    · rw [if_neg h1] at h ⊢
      by_cases h2 : d = 95 ∧ lang = 1
      · rw [if_pos h2] at h ⊢
        rw [ih (by omega)]
      · rw [if_neg h2] at h ⊢
        by_cases h3 : d = 45 ∧ lang = 0
        · rw [if_pos h3] at h ⊢
          cases x with
          | nil => simp only [] at h; exact absurd h (by simp)
          | cons e x =>
            rw [List.cons_append] at ih ⊢
            simp only [] at h ⊢
            by_cases h4 : isPt e = true
            · rw [if_pos h4] at h ⊢
              rw [ih (by omega)]
            · rw [if_neg h4] at h
              omega
        · rw [if_neg h3] at h
          omega
theorem dlen_app (r : List UInt8) (hr : ∀ c, r.head? = some c → isD c = false) : ∀ x : List UInt8, dlen x = x.length → dlen (x ++ r) = x.length
  | [], _ => by
    cases r with
    | nil => rfl
    | cons c r =>
      rw [List.nil_append, dlen_cons, if_neg (by rw [hr c rfl]; decide)]
      rfl
  | d :: x, h => by
    have hl : (d :: x).length = x.length + 1 := rfl
    rw [dlen_cons, hl] at h
    rw [List.cons_append, dlen_cons, hl]
    by_cases h1 : isD d = true
    · rw [if_pos h1] at h ⊢
      rw [dlen_app r hr x (by omega)]
    · rw [if_neg h1] at h
      omega
theorem head_app {s : List UInt8} (r : List UInt8) (hs : s ≠ []) : (s ++ r).head? = s.head? := by
  cases s with
  | nil => exact absurd rfl hs
  | cons c x => rfl
theorem numT_app {s r : List UInt8} (hs : s ≠ []) (h : numT s = .tok 2 s.length) (hr : ∀ c, r.head? = some c → isD c = false) : numT (s ++ r) = .tok 2 s.length := by
  have hd : dlen s = s.length := by
    unfold numT at h
    split at h
    · cases h
    · split at h
      · cases h
      · injection h
  have e := dlen_app r hr s hd
  unfold numT at h ⊢
  rw [hd, List.take_length] at h
  rw [e, head_app r hs, List.take_left]
  exact h
theorem qT_app (r : List UInt8) (hr : r.head? ≠ some 34) : ∀ x : List UInt8, qT x = some x.length → qT (x ++ r) = some x.length
  | [], h => by cases h
  | [c], h => by
    unfold qT at h
    by_cases h1 : c = 34
    · subst h1
      cases r with
      | nil => rfl
      | cons e r =>
        show qT (34 :: e :: r) = some 1
        unfold qT
        rw [if_neg (by decide), if_pos rfl, if_neg (fun he => hr (by rw [he]; rfl))]
    · rw [if_neg h1] at h
      cases h
  | c :: e :: y, h => by
    have hl : (c :: e :: y).length = y.length + 2 := rfl
    rw [hl] at h ⊢
    show qT (c :: e :: (y ++ r)) = some (y.length + 2)
    unfold qT at h ⊢
    by_cases h0 : c = 10 ∨ c = 9
    · rw [if_pos h0] at h; cases h
    · rw [if_neg h0] at h ⊢
      by_cases h1 : c = 34
      · rw [if_pos h1] at h ⊢
        by_cases h2 : e = 34
        · rw [if_pos h2] at h ⊢
          cases hq : qT y with
          | none => rw [hq] at h; cases h
          | some m =>
            rw [hq] at h
            have hm : m = y.length := by
              have : m + 2 = y.length + 2 := Option.some.inj h
              omega
            rw [qT_app r hr y (by rw [hq, hm])]
            rfl
        · rw [if_neg h2] at h
          have := Option.some.inj h
          omega
      · rw [if_neg h1] at h ⊢
        cases hq : qT (e :: y) with
        | none => rw [hq] at h; cases h
        | some m =>
          rw [hq] at h
          have hm : m = y.length + 1 := by
            have : m + 1 = y.length + 2 := Option.some.inj h
            omega
          have ih := qT_app r hr (e :: y) (by rw [hq, hm]; rfl)
          rw [List.cons_append] at ih
          rw [ih]
          rfl
theorem dgF_app {lang : Int} {m n : Nat} {k : Int} {b h : Bool} {x : List UInt8} (r : List UInt8) (hf : dgF lang m b h x = .tok k n) : dgF lang m b h (x ++ r) = .tok k n := by
  cases x with
  | nil =>
    unfold dgF at hf
    split at hf
    · cases hf
    · simp at hf
  | cons c x =>
    unfold dgF at hf ⊢
    rw [head_app r (by simp)]
    exact hf
theorem dgE_app {lang : Int} (r : List UInt8) : ∀ (x : List UInt8) (m n : Nat) (k : Int) (b h : Bool), dgE lang m b h x = .tok k n → dgE lang m b h (x ++ r) = .tok k n
  | [], _, _, _, _, _, hf => by cases hf
  | c :: x, m, n, k, b, h, hf => by
    rw [List.cons_append]
    unfold dgE at hf ⊢
    by_cases h1 : c = 39
    · rw [if_pos h1] at hf ⊢
      exact dgF_app r hf
    · rw [if_neg h1] at hf ⊢
      by_cases h2 : c = 10 ∨ c = 9
      · rw [if_pos h2] at hf; cases hf
      · rw [if_neg h2] at hf ⊢
        exact dgE_app r x _ _ _ _ _ hf
theorem sym_ge (r : List UInt8) : ∀ (ws : List (List UInt8)) (m : Nat), m ≤ symM r m ws ∧ ∀ w ∈ ws, pfx w r = true → w.length ≤ symM r m ws
  | [], m => ⟨Nat.le_refl _, fun _ h => by cases h⟩
  | v :: ws, m => by
    unfold symM
    have ih := sym_ge r ws (if pfx v r = true then max m v.length else m)
    refine ⟨?_, fun w hw hp => ?_⟩
    · refine Nat.le_trans ?_ ih.1
      split <;> omega
    · rcases List.mem_cons.1 hw with he | hw
      · have := ih.1
        rw [he] at hp ⊢
        rw [if_pos hp] at this
        rw [if_pos hp]
        omega
      · exact ih.2 w hw hp
theorem sym_le (r : List UInt8) (N : Nat) : ∀ (ws : List (List UInt8)) (m : Nat), m ≤ N → (∀ w ∈ ws, pfx w r = true → w.length ≤ N) → symM r m ws ≤ N
  | [], m, h, _ => h
  | v :: ws, m, h, hw => by
    unfold symM
    refine sym_le r N ws _ ?_ fun w hm => hw w (by simp [hm])
    split
    · rename_i hp
      have := hw v (by simp) hp
      omega
    · exact h
theorem sym_mem (r : List UInt8) : ∀ (ws : List (List UInt8)) (m : Nat), symM r m ws = m ∨ ∃ w ∈ ws, pfx w r = true ∧ symM r m ws = w.length
  | [], m => .inl rfl
  | v :: ws, m => by
    unfold symM
    by_cases hp : pfx v r = true
    · rw [if_pos hp]
      rcases sym_mem r ws (max m v.length) with h | ⟨w, hw, h1, h2⟩
      · rw [h]
        by_cases hm : v.length ≤ m
        · left; omega
        · right; exact ⟨v, by simp, hp, by omega⟩
      · right; exact ⟨w, by simp [hw], h1, h2⟩
    · rw [if_neg hp]
      rcases sym_mem r ws m with h | ⟨w, hw, h1, h2⟩
      · left; exact h
      · right; exact ⟨w, by simp [hw], h1, h2⟩
theorem pfx_iff (p r : List UInt8) : pfx p r = true ↔ p <+: r := by
  unfold pfx
  rw [decide_eq_true_iff, List.prefix_iff_eq_take]
  exact ⟨fun h => h.symm, fun h => h.symm⟩
theorem sym_self {ws : List (List UInt8)} {s : List UInt8} (h1 : 1 ≤ s.length) (h : symM s 0 ws = s.length) : s ∈ ws := by
  rcases sym_mem s ws 0 with h0 | ⟨w, hw, hp, h2⟩
  · omega
  · have := (pfx_iff _ _).1 hp
    have e := this.eq_of_length (by omega)
    rw [← e]
    exact hw
theorem sym_app {ws : List (List UInt8)} {s r : List UInt8} (hs : s ∈ ws) (hw : ∀ w ∈ ws, pfx w (s ++ r) = true → w.length ≤ s.length) : symM (s ++ r) 0 ws = s.length :=
  Nat.le_antisymm (sym_le _ _ ws 0 (Nat.zero_le _) hw) ((sym_ge (s ++ r) ws 0).2 s hs ((pfx_iff _ _).2 (List.prefix_append _ _)))
end Go.Proofs.YtdhbhedfbdckaaaGreatDoor

/- What is joined is read back as the same tokens. -/
namespace Go.Proofs.YtdhbhedfbdckaaaGreatDoor
open Go.Dam
set_option linter.unusedVariables false
set_option linter.unusedSimpArgs false
def comH (lang : Int) (r : List UInt8) : Bool := pfx [47, 42] r || (if lang = 0 then pfx [45, 45] r else pfx [47, 47] r)
theorem com_none (lang : Int) (r : List UInt8) : comT lang r = none ↔ comH lang r = false := by
  unfold comT comH
  cases pfx [47, 42] r with
  | true => simp
  | false =>
    by_cases h : lang = 0
    · rw [if_pos h, if_pos h]
      cases pfx [45, 45] r <;> simp
    · rw [if_neg h, if_neg h]
      cases pfx [47, 47] r <;> simp
theorem pfx_app2 {p s : List UInt8} (r : List UInt8) (h : p.length ≤ s.length) : pfx p (s ++ r) = pfx p s := by
  unfold pfx
  rw [List.take_append_of_le_length h]
theorem comH_app (lang : Int) {s : List UInt8} (r : List UInt8) (h : 2 ≤ s.length) : comH lang (s ++ r) = comH lang s := by
  unfold comH
  rw [pfx_app2 r (show ([47, 42] : List UInt8).length ≤ s.length from h), pfx_app2 r (show ([45, 45] : List UInt8).length ≤ s.length from h), pfx_app2 r (show ([47, 47] : List UInt8).length ≤ s.length from h)]
theorem comH_ne (lang : Int) {c : UInt8} (x : List UInt8) (h1 : c ≠ 47) (h2 : c ≠ 45) : comH lang (c :: x) = false := by
  have e1 : pfx [47, 42] (c :: x) = false := by
    rw [← Bool.not_eq_true, pfx_iff, List.cons_prefix_cons]
    exact fun h => h1 h.1.symm
  have e2 : pfx [47, 47] (c :: x) = false := by
    rw [← Bool.not_eq_true, pfx_iff, List.cons_prefix_cons]
    exact fun h => h1 h.1.symm
  have e3 : pfx [45, 45] (c :: x) = false := by
    rw [← Bool.not_eq_true, pfx_iff, List.cons_prefix_cons]
    exact fun h => h2 h.1.symm
  unfold comH
  rw [e1, e2, e3]
  split <;> rfl
theorem comH_32 (lang : Int) (c : UInt8) (x : List UInt8) : comH lang (c :: 32 :: x) = false := by
  have e : ∀ p q : UInt8, q ≠ 32 → pfx [p, q] (c :: 32 :: x) = false := fun p q hq => by
    rw [← Bool.not_eq_true, pfx_iff, List.cons_prefix_cons, List.cons_prefix_cons]
    exact fun h => hq h.2.1
  unfold comH
  rw [e 47 42 (by decide), e 45 45 (by decide), e 47 47 (by decide)]
  split <;> rfl
theorem one_pc {lang k : Int} {s : List UInt8} (h : oneT lang k s = true) : ∃ c x, s = c :: x ∧ blank c = false ∧ pcT lang s = .tok k s.length ∧ badAt s = none := by
  unfold oneT at h
  cases hr : rdT lang s with
  | bad a e => rw [hr] at h; cases h
  | ok ts cs =>
    rw [hr] at h
    match ts, hr, h with
    | [], _, h => cases h
    | t :: u :: r, _, h => cases h
    | [t], hr, h =>
      simp only [] at h
      rw [Bool.and_eq_true, decide_eq_true_iff, decide_eq_true_iff] at h
      have hlen : lenT [t] = s.length := by
        unfold lenT
        rw [List.map_cons, List.map_nil, List.sum_cons, List.sum_nil, h.2]
        rfl
      have hcs := full_no_com hr hlen
      subst hcs
      obtain ⟨_, _, hbad, hs, _⟩ := rd_ok hr
      cases s with
      | nil => cases hs
      | cons c x =>
        have hcx : (c :: x).length = x.length + 1 := rfl
        rw [scE_cons] at hs
        by_cases hb : blank c = true
        · rw [if_pos hb] at hs
          have := (scE_len lang _ _ _ _ _ hs).1
          omega
        · rw [if_neg hb] at hs
          rcases pc_shape lang (c :: x) with ⟨e, he, _⟩ | ⟨n, he, _⟩ | ⟨k', n, he, hn1, hn2, _⟩
          · rw [he] at hs; cases hs
          · rw [he] at hs
            simp only [] at hs
            cases hd : scE lang (c :: x).length (0 + n) ((c :: x).drop n) with
            | bad a e => rw [hd] at hs; cases hs
            | ok ts' cs' =>
              rw [hd] at hs
              simp only [Rd.addC] at hs
              injection hs with h1 h2
              cases h2
          · rw [he] at hs
            simp only [] at hs
            cases hd : scE lang (c :: x).length (0 + n) ((c :: x).drop n) with
            | bad a e => rw [hd] at hs; cases hs
            | ok ts' cs' =>
              rw [hd] at hs
              simp only [Rd.addT] at hs
              injection hs with h1 h2
              injection h1 with h3 h4
              subst h3
              have h0 : k' = k := h.1
              have ht : (c :: x).take n = c :: x := h.2
              have hn : n = (c :: x).length := by
                have := congrArg List.length ht
                rw [List.length_take] at this
                omega
              subst h0 hn
              exact ⟨c, x, rfl, by simpa using hb, he, hbad⟩
theorem two_pc {lang : Int} {a b : Tk} {c : UInt8} {x : List UInt8} (h : two lang a b = true) (ha : a.s = c :: x) (hb : blank c = false) : pcT lang (a.s ++ b.s) = .tok a.k a.s.length := by
  unfold two at h
  cases hr : rdT lang (a.s ++ b.s) with
  | bad x' e => rw [hr] at h; cases h
  | ok ts cs =>
    rw [hr] at h
    match ts, hr, h with
    | [], _, h => cases h
    | [t], _, h => cases h
    | t :: u :: v :: r, _, h => cases h
    | [t, u], hr, h =>
      simp only [] at h
      rw [Bool.and_eq_true, Bool.and_eq_true, Bool.and_eq_true, decide_eq_true_iff, decide_eq_true_iff, decide_eq_true_iff, decide_eq_true_iff] at h
      obtain ⟨h1, h2, h3, h4⟩ := h
      have hlen : lenT [t, u] = (a.s ++ b.s).length := by
        unfold lenT
        rw [List.map_cons, List.map_cons, List.map_nil, List.sum_cons, List.sum_cons, List.sum_nil, h2, h4, List.length_append]
        rfl
      have hcs := full_no_com hr hlen
      subst hcs
      obtain ⟨_, _, hbad, hs, _⟩ := rd_ok hr
      have e : a.s ++ b.s = c :: (x ++ b.s) := by rw [ha]; rfl
      have hal : a.s.length = x.length + 1 := by rw [ha]; rfl
      rw [e] at hs ⊢
      have hcx : (c :: (x ++ b.s)).length = x.length + b.s.length + 1 := by rw [List.length_cons, List.length_append]
      rw [scE_cons, hb, if_neg (by decide)] at hs
      rcases pc_shape lang (c :: (x ++ b.s)) with ⟨e', he, _⟩ | ⟨n, he, _⟩ | ⟨k', n, he, hn1, hn2, _⟩
      · rw [he] at hs; cases hs
      · rw [he] at hs
        simp only [] at hs
        cases hd : scE lang (c :: (x ++ b.s)).length (0 + n) ((c :: (x ++ b.s)).drop n) with
        | bad a' e' => rw [hd] at hs; cases hs
        | ok ts' cs' =>
          rw [hd] at hs
          simp only [Rd.addC] at hs
          injection hs with g1 g2
          cases g2
      · rw [he] at hs
        simp only [] at hs
        cases hd : scE lang (c :: (x ++ b.s)).length (0 + n) ((c :: (x ++ b.s)).drop n) with
        | bad a' e' => rw [hd] at hs; cases hs
        | ok ts' cs' =>
          rw [hd] at hs
          simp only [Rd.addT] at hs
          injection hs with g1 g2
          injection g1 with g3 g4
          subst g3
          have h0 : k' = a.k := h1
          have ht : (c :: (x ++ b.s)).take n = a.s := h2
          have hn : n = a.s.length := by
            have := congrArg List.length ht
            rw [List.length_take] at this
            omega
          rw [he, h0, hn]
theorem nm_app {lang : Int} {c : UInt8} {x r : List UInt8} (hn : nameT lang x = x.length) (hr : ∀ c, r.head? = some c → nameC c = false) : nmT lang (c :: (x ++ r)) = nmT lang (c :: x) := by
  unfold nmT
  rw [show (c :: (x ++ r)).drop 1 = x ++ r from rfl, show (c :: x).drop 1 = x from rfl, hn, nameT_app lang r hr x hn]
  rw [show (c :: (x ++ r)).take (1 + x.length) = (c :: x).take (1 + x.length) by rw [Nat.add_comm, List.take_succ_cons, List.take_succ_cons, List.take_left, List.take_length]]
theorem nm_len {lang : Int} {c : UInt8} {x : List UInt8} {k : Int} {n : Nat} (h : nmT lang (c :: x) = .tok k n) : n = 1 + nameT lang x ∧ k ≠ 6 := by
  unfold nmT at h
  rw [show (c :: x).drop 1 = x from rfl] at h
  split at h
  · injection h with h1 h2
    exact ⟨h2.symm, by omega⟩
  · split at h
    · cases h
    · injection h with h1 h2
      exact ⟨h2.symm, by omega⟩
theorem qu_app {c : UInt8} {x r : List UInt8} (h : quT (c :: x) = .tok 3 (x.length + 1)) (hr : r.head? ≠ some 34) : quT (c :: (x ++ r)) = .tok 3 (x.length + 1) := by
  unfold quT at h ⊢
  rw [show (c :: x).drop 1 = x from rfl] at h
  rw [show (c :: (x ++ r)).drop 1 = x ++ r from rfl]
  cases hq : qT x with
  | none => rw [hq] at h; cases h
  | some m =>
    rw [hq] at h
    simp only [] at h
    by_cases h2 : m + 1 > 202
    · rw [if_pos h2] at h; cases h
    · rw [if_neg h2] at h
      injection h with _ h3
      have hm : m = x.length := by omega
      subst hm
      rw [qT_app r hr x hq]
      simp only []
      rw [if_neg h2]
def stop (lang : Int) (k : Int) (s r : List UInt8) : Prop :=
  (k = 6 → comH lang (s ++ r) = false ∧ ∀ w ∈ gsOf lang, pfx w (s ++ r) = true → w.length ≤ s.length) ∧ (k ≠ 6 → ∀ d, r.head? = some d → nameC d = false ∧ d ≠ 34)
set_option maxRecDepth 100000 in
theorem ltr_dec : ∀ n : Fin 256, (isL (UInt8.ofNat n) = true ∨ isD (UInt8.ofNat n) = true) → UInt8.ofNat n ≠ 47 ∧ UInt8.ofNat n ≠ 45 := by decide
theorem ltr (c : UInt8) (h : isL c = true ∨ isD c = true) : c ≠ 47 ∧ c ≠ 45 := by
  have := ltr_dec ⟨c.toNat, c.toNat_lt⟩
  simp only [UInt8.ofNat_toNat] at this
  exact this h
theorem isPt_D {c : UInt8} (h : nameC c = false) : isD c = false := by
  have := (nameC_false h).1
  unfold isPt at this
  rw [Bool.or_eq_false_iff] at this
  exact this.2
/-- What falls to symbols, and what it says. -/
theorem nx_sym {lang : Int} {c : UInt8} {x : List UInt8} {n : Nat} (h : nxT lang (c :: x) = .tok 6 n) : isL c ≠ true ∧ isD c ≠ true ∧ c ≠ 34 ∧ c ≠ 39 ∧ n = symM (c :: x) 0 (gsOf lang) := by
  unfold nxT at h
  simp only [] at h
  by_cases hL : isL c = true
  · rw [if_pos hL] at h
    exact absurd rfl (nm_len h).2
  · rw [if_neg hL] at h
    by_cases hD : isD c = true
    · rw [if_pos hD] at h
      rcases num_shape (c :: x) with ⟨e, he, _⟩ | ⟨m, he⟩
      · rw [he] at h; cases h
      · rw [he] at h; injection h with e1 e2; cases e1
    · rw [if_neg hD] at h
      by_cases h34 : c = 34
      · rw [if_pos h34] at h
        rcases qu_shape (c :: x) with ⟨e, he, _⟩ | ⟨m, he⟩
        · rw [he] at h; cases h
        · rw [he] at h; injection h with e1 e2; cases e1
      · rw [if_neg h34] at h
        by_cases h39 : c = 39
        · rw [if_pos h39] at h
          have := dgE_le lang _ _ _ _ _ _ h
          omega
        · rw [if_neg h39] at h
          unfold syT at h
          split at h
          · cases h
          · injection h with e1 e2
            exact ⟨hL, hD, h34, h39, e2.symm⟩
theorem pc_parts {lang : Int} {r : List UInt8} {k : Int} {n : Nat} (h : pcT lang r = .tok k n) : comH lang r = false ∧ nxT lang r = .tok k n := by
  rcases pc_shape lang r with ⟨e, he, _⟩ | ⟨m, he, _⟩ | ⟨k', m, he, _, _, _, _, hc, hx⟩
  · rw [he] at h; cases h
  · rw [he] at h; cases h
  · rw [he] at h
    injection h with h1 h2
    subst h1 h2
    exact ⟨(com_none _ _).1 hc, hx⟩
theorem pc_mk {lang : Int} {r : List UInt8} {k : Int} {n : Nat} (hc : comH lang r = false) (hx : nxT lang r = .tok k n) : pcT lang r = .tok k n := by
  unfold pcT
  rw [(com_none _ _).2 hc]
  exact hx
theorem pc_app {lang k : Int} {c : UInt8} {x r : List UInt8} (hp : pcT lang (c :: x) = .tok k (x.length + 1)) (hs : stop lang k (c :: x) r) : pcT lang (c :: (x ++ r)) = .tok k (x.length + 1) := by
  obtain ⟨hc, hx⟩ := pc_parts hp
  by_cases h6 : k = 6
  · subst h6
    obtain ⟨hc', hw⟩ := hs.1 rfl
    obtain ⟨n1, n2, n3, n4, e⟩ := nx_sym hx
    have hmem : (c :: x) ∈ gsOf lang := sym_self (show 1 ≤ (c :: x).length by rw [List.length_cons]; omega) e.symm
    have hm := sym_app hmem hw
    refine pc_mk hc' ?_
    unfold nxT
    simp only []
    rw [if_neg n1, if_neg n2, if_neg n3, if_neg n4]
    unfold syT
    rw [show c :: (x ++ r) = (c :: x) ++ r from rfl, hm, if_neg (by rw [List.length_cons]; omega)]
    rfl
  · have hr := hs.2 h6
    unfold nxT at hx
    simp only [] at hx
    by_cases hL : isL c = true
    · rw [if_pos hL] at hx
      have hn := (nm_len hx).1
      refine pc_mk (comH_ne lang _ (ltr c (.inl hL)).1 (ltr c (.inl hL)).2) ?_
      unfold nxT
      simp only []
      rw [if_pos hL, nm_app (by omega) fun d hd => (hr d hd).1]
      exact hx
    · rw [if_neg hL] at hx
      by_cases hD : isD c = true
      · rw [if_pos hD] at hx
        refine pc_mk (comH_ne lang _ (ltr c (.inr hD)).1 (ltr c (.inr hD)).2) ?_
        unfold nxT
        simp only []
        rw [if_neg hL, if_pos hD]
        rcases num_shape (c :: x) with ⟨e, he, _⟩ | ⟨m, he⟩
        · rw [he] at hx; cases hx
        · rw [he] at hx
          injection hx with e1 e2
          subst e1 e2
          exact numT_app (s := c :: x) (by simp) he fun d hd => isPt_D (hr d hd).1
      · rw [if_neg hD] at hx
        by_cases h34 : c = 34
        · rw [if_pos h34] at hx
          refine pc_mk (comH_ne lang _ (by rw [h34]; decide) (by rw [h34]; decide)) ?_
          unfold nxT
          simp only []
          rw [if_neg hL, if_neg hD, if_pos h34]
          rcases qu_shape (c :: x) with ⟨e, he, _⟩ | ⟨m, he⟩
          · rw [he] at hx; cases hx
          · rw [he] at hx
            injection hx with e1 e2
            subst e1 e2
            exact qu_app he fun h => (hr 34 h).2 rfl
        · rw [if_neg h34] at hx
          by_cases h39 : c = 39
          · rw [if_pos h39] at hx
            refine pc_mk (comH_ne lang _ (by rw [h39]; decide) (by rw [h39]; decide)) ?_
            unfold nxT
            simp only []
            rw [if_neg hL, if_neg hD, if_neg h34, if_pos h39]
            exact dgE_app r x _ _ _ _ _ hx
          · rw [if_neg h39] at hx
            unfold syT at hx
            split at hx
            · cases hx
            · injection hx with e1 e2
              exact absurd e1.symm h6
end Go.Proofs.YtdhbhedfbdckaaaGreatDoor
