/- A part of an interpreter of the model's code that is proved sound, and of laws told by it: DamX11, DamX12, DamX13. -/
import Derived.Test.YtdhbhedfbdckaaaGreatDoorPuE5
set_option linter.unusedVariables false
set_option linter.unusedSimpArgs false
/- Texts, and what they are read as: both sides. -/
namespace Go.Proofs.YtdhbhedfbdckaaaGreatDoor
open Go.Dam
set_option linter.unusedVariables false
set_option linter.unusedSimpArgs false
def okC (c : UInt8) : Bool := decide (c = 10) || decide (c = 9) || inR c 32 126
/-- The first character that no text has. -/
def badAt : List UInt8 → Option Nat
  | [] => none
  | c :: r => if okC c = true then (badAt r).map (· + 1) else some 0
theorem badAt_cons (c : UInt8) (r : List UInt8) : badAt (c :: r) = if okC c = true then (badAt r).map (· + 1) else some 0 := rfl
def chkT (l : List UInt8) : Int × Int :=
  if 8000 < l.length then (0, 2) else match badAt l with
    | some i => ((i : Nat), 5)
    | none => ((l.count 10 + 1 : Nat), 0)
def pairA (p : Int × Int) : AV := .tup [I p.1, I p.2]
theorem r54 {K : Nat} (h : 1 ≤ K) (c : UInt8) : run tab K 54 [.sc (.int .i32 (IntKind.i32.wrap (c.toNat : Int)))] = some (B (!okC c)) := by
  obtain ⟨K, rfl⟩ := succK h
  have hc := c.toNat_lt
  have w : IntKind.i32.wrap (c.toNat : Int) = (c.toNat : Int) := by
    rw [IntKind.wrap_i32]
    omega
  have c10 : ((c.toNat : Int) != (10 : Int)) = !decide (c = 10) := chrN c 10 (by omega)
  have c9 : ((c.toNat : Int) != (9 : Int)) = !decide (c = 9) := chrN c 9 (by omega)
  rw [w, eq54]; unfold sh54 tr54 okC inR
  rw [c10, c9]
  have e1 : decide ((c.toNat : Int) < 32) = !decide (32 ≤ c.toNat) := by
    rw [Bool.eq_iff_iff, decide_eq_true_iff, Bool.not_eq_true', decide_eq_false_iff_not]; omega
  have e2 : decide ((c.toNat : Int) > 126) = !decide (c.toNat ≤ 126) := by
    rw [Bool.eq_iff_iff, decide_eq_true_iff, Bool.not_eq_true', decide_eq_false_iff_not]; omega
  rw [e1, e2]
  cases decide (c = 10) <;> cases decide (c = 9) <;> cases decide (32 ≤ c.toNat) <;> cases decide (c.toNat ≤ 126) <;> rfl
theorem r55 {K : Nat} (h : 1 ≤ K) (l : List UInt8) (hl : l.length ≤ 1000000) : run tab K 55 [St (sb l), St (⟨#[10]⟩ : ByteArray)] = some (I (l.count 10 : Nat)) := by
  obtain ⟨K, rfl⟩ := succK h
  rw [show run tab (K + 1) 55 [St (sb l), St (⟨#[10]⟩ : ByteArray)] = extCount1 [St (sb l), St (⟨#[10]⟩ : ByteArray)] from rfl]
  rfl
theorem badAt_drop (l : List UInt8) : ∀ n, n ≤ l.length → (∀ c ∈ l.take n, okC c = true) → badAt l = (badAt (l.drop n)).map (· + n)
  | 0, _, _ => by
    rw [List.drop_zero]
    cases badAt l <;> rfl
  | n + 1, hn, h => by
    have hi : n < l.length := by omega
    have h1 := badAt_drop l n (by omega) (fun c hc => h c (by
      rw [List.take_add_one]
      exact List.mem_append_left _ hc))
    have hc : okC l[n] = true := h _ (by
      rw [List.take_add_one, List.getElem?_eq_getElem hi]
      exact List.mem_append_right _ (by simp))
    rw [h1, List.drop_eq_getElem_cons hi, badAt_cons, if_pos hc]
    cases badAt (l.drop (n + 1)) with
    | none => rfl
    | some x => show some (x + 1 + n) = some (x + (n + 1)); rw [Nat.add_assoc, Nat.add_comm 1 n]
theorem take_okC {l : List UInt8} {n : Nat} (hi : n < l.length) (hc : okC l[n] = true) (h : ∀ c ∈ l.take n, okC c = true) : ∀ c ∈ l.take (n + 1), okC c = true := fun c hm => by
  rw [List.take_add_one, List.getElem?_eq_getElem hi] at hm
  rcases List.mem_append.1 hm with hm | hm
  · exact h c hm
  · simp at hm
    rw [hm]; exact hc
theorem l33 (K : Nat) (hK : 1 ≤ K) (l : List UInt8) (hl : l.length ≤ 100000) (h8 : ¬ 8000 < l.length) : ∀ (k n : Nat), l.length - n < k → n ≤ l.length → (∀ c ∈ l.take n, okC c = true) →
    lp33_5 K k (sb l) (l.length : Int) (n : Int) = some (pairA (chkT l))
  | 0, n, h, _, _ => by omega
  | k + 1, n, h, hn, hok => by
    unfold lp33_5 tr33_5
    have hb := badAt_drop l n hn hok
    unfold chkT
    rw [if_neg h8]
    by_cases hi : n < l.length
    · have e54 := r54 (K := K) hK l[n]
      have w1 : IntKind.i64.wrap ((n : Int) + 1) = ((n + 1 : Nat) : Int) := wrapA (m := 1) (by omega) (by omega)
      rw [decide_eq_true (show (n : Int) < (l.length : Int) by omega)]
      simp only [if_pos (Int.natCast_nonneg n), getL hi, e54, castB_B, w1]
      cases hc : okC l[n] with
      | true =>
        have := l33 K hK l hl h8 k (n + 1) (by omega) (by omega) (take_okC hi hc hok)
        unfold chkT at this
        rw [if_neg h8] at this
        exact this
      | false =>
        rw [List.drop_eq_getElem_cons hi, badAt_cons, hc] at hb
        rw [hb]
        simp [pairA]
    · rw [decide_eq_false (show ¬ (n : Int) < (l.length : Int) by omega), r55 hK l (by omega)]
      rw [List.drop_eq_nil_of_le (by omega)] at hb
      have : badAt l = none := hb
      have hcl := List.count_le_length (a := (10 : UInt8)) (l := l)
      have w1 : IntKind.i64.wrap (((l.count 10 : Nat) : Int) + 1) = ((l.count 10 + 1 : Nat) : Int) := wrapA (m := 1) (by omega) (by omega)
      rw [this]
      simp only [castI_I, w1]
      rfl
theorem r33 {K : Nat} (l : List UInt8) (hl : l.length ≤ 100000) (hK : l.length + 10 ≤ K) : run tab K 33 [St (sb l)] = some (pairA (chkT l)) := by
  obtain ⟨K, rfl⟩ := succK (show 1 ≤ K by omega)
  rw [eq33]; unfold sh33 tr33
  rw [sb_size]
  by_cases h8 : 8000 < l.length
  · rw [decide_eq_true (show (l.length : Int) > 8000 by omega)]
    unfold chkT
    rw [if_pos h8]
    rfl
  · rw [decide_eq_false (show ¬ (l.length : Int) > 8000 by omega)]
    exact l33 K (by omega) l hl h8 K 0 (by omega) (by omega) (by simp)
theorem badAt_none : ∀ {l : List UInt8}, badAt l = none → ∀ c ∈ l, okC c = true
  | [], _, c, hc => by simp at hc
  | b :: l, h, c, hc => by
    unfold badAt at h
    split at h
    · rename_i hb
      rcases List.mem_cons.1 hc with rfl | hc
      · exact hb
      · exact badAt_none (by simpa using h) c hc
    · cases h
theorem okC_asc {l : List UInt8} (h : badAt l = none) : asciiL l = true := by
  unfold asciiL
  rw [List.all_eq_true]
  intro c hc
  have := badAt_none h c hc
  unfold okC inR at this
  rw [Nat.blt_eq]
  simp only [Bool.or_eq_true, Bool.and_eq_true, decide_eq_true_iff] at this
  rcases this with (h | h) | h
  · rw [h]; decide
  · rw [h]; decide
  · omega
structure Tok where
  k : Int
  s : List UInt8
  at' : Nat
def tokA (t : Tok) : AV := .agg [I t.k, St (sb t.s), I (t.at' : Int)]
def comA (p : Nat × Nat) : AV := .agg [I (p.1 : Int), I (p.2 : Int)]
inductive Rd where
  | bad (a e : Int)
  | ok (ts : List Tok) (cs : List (Nat × Nat))
def Rd.addT (t : Tok) : Rd → Rd
  | .bad a e => .bad a e
  | .ok ts cs => .ok (t :: ts) cs
def Rd.addC (c : Nat × Nat) : Rd → Rd
  | .bad a e => .bad a e
  | .ok ts cs => .ok ts (c :: cs)
def blank (c : UInt8) : Bool := decide (c = 32) || decide (c = 9) || decide (c = 10)
def scE (lang : Int) : Nat → Nat → List UInt8 → Rd
  | 0, _, _ => .bad 0 0
  | _ + 1, _, [] => .ok [] []
  | k + 1, a, c :: x => if blank c = true then scE lang k (a + 1) x else match pcT lang (c :: x) with
    | .err e => .bad (a : Nat) e
    | .com n => (scE lang k (a + n) ((c :: x).drop n)).addC (a, a + n)
    | .tok kd n => (scE lang k (a + n) ((c :: x).drop n)).addT ⟨kd, (c :: x).take n, a⟩
def rdT (lang : Int) (l : List UInt8) : Rd := if lang = 0 ∨ lang = 1 then match chkT l with
    | (n, e) => if e = 0 then (match scE lang (l.length + 1) 0 l with
      | .bad a e => .bad a e
      | .ok ts cs => if 1500 < ts.length then .bad 0 2 else .ok ts cs) else .bad n e
  else .bad 0 4
theorem pc_shape (lang : Int) (r : List UInt8) : (∃ e, pcT lang r = .err e ∧ e ≠ 0) ∨ (∃ n, pcT lang r = .com n ∧ 2 ≤ n ∧ n ≤ r.length ∧ comT lang r = some (some n)) ∨ ∃ k n, pcT lang r = .tok k n ∧ 1 ≤ n ∧ n ≤ r.length ∧ 0 ≤ k ∧ k ≤ 6 ∧ comT lang r = none ∧ nxT lang r = .tok k n := by
  unfold pcT
  cases hc : comT lang r with
  | some o =>
    cases o with
    | none => exact .inl ⟨_, rfl, by decide⟩
    | some n =>
      have := comT_le hc
      exact .inr (.inl ⟨n, rfl, this.1, this.2, rfl⟩)
  | none =>
    rcases nx_shape lang r with ⟨e, h1, h2⟩ | ⟨k, n, h⟩
    · exact .inl ⟨e, h1, h2⟩
    · have := nxT_le h
      exact .inr (.inr ⟨k, n, h, this.1, this.2.1, this.2.2.1, this.2.2.2, rfl, h⟩)
/-- More fuel tells no more. -/
theorem scE_fuel (lang : Int) : ∀ (k : Nat) (r : List UInt8) (a : Nat), r.length < k → scE lang (k + 1) a r = scE lang k a r
  | 0, r, a, h => by omega
  | k + 1, [], a, h => rfl
  | k + 1, c :: x, a, h => by
    have hl : (c :: x).length = x.length + 1 := rfl
    conv => lhs; unfold scE
    conv => rhs; unfold scE
    split
    · exact scE_fuel lang k x (a + 1) (by omega)
    · rcases pc_shape lang (c :: x) with ⟨e, h1, h2⟩ | ⟨n, h1, h2, h3, _⟩ | ⟨kd, n, h1, h2, h3, _⟩
      · rw [h1]
      · rw [h1]
        simp only []
        rw [scE_fuel lang k _ (a + n) (by rw [List.length_drop]; omega)]
      · rw [h1]
        simp only []
        rw [scE_fuel lang k _ (a + n) (by rw [List.length_drop]; omega)]
theorem scE_more (lang : Int) (r : List UInt8) (a : Nat) : ∀ (m k : Nat), r.length < k → scE lang (k + m) a r = scE lang k a r
  | 0, k, h => rfl
  | m + 1, k, h => by
    rw [← Nat.add_assoc, scE_fuel lang (k + m) r a (by omega)]
    exact scE_more lang r a m k h
theorem scE_eq (lang : Int) {r : List UInt8} {a k k' : Nat} (h : r.length < k) (h' : r.length < k') : scE lang k a r = scE lang k' a r := by
  have h1 := scE_more lang r a (k - (r.length + 1)) (r.length + 1) (by omega)
  have h2 := scE_more lang r a (k' - (r.length + 1)) (r.length + 1) (by omega)
  rw [show r.length + 1 + (k - (r.length + 1)) = k by omega] at h1
  rw [show r.length + 1 + (k' - (r.length + 1)) = k' by omega] at h2
  rw [h1, h2]
end Go.Proofs.YtdhbhedfbdckaaaGreatDoor

/- Texts are read: the program's scan, the reference's Read. -/
namespace Go.Proofs.YtdhbhedfbdckaaaGreatDoor
open Go.Dam
set_option linter.unusedVariables false
set_option linter.unusedSimpArgs false
theorem ixb_blank (c : UInt8) : decide (Lib.indexByte [32, 9, 10] c ≥ 0) = blank c := by
  unfold blank
  by_cases h1 : c = 32
  · subst h1; rfl
  · by_cases h2 : c = 9
    · subst h2; rfl
    · by_cases h3 : c = 10
      · subst h3; rfl
      · have : Lib.indexByte [32, 9, 10] c = -1 := ixb_no (by simp [h1, h2, h3])
        rw [this, decide_eq_false h1, decide_eq_false h2, decide_eq_false h3]
        rfl
def scnA (lang : Int) (l : List UInt8) (ts : List Tok) (cs : List (Nat × Nat)) : AV := .ref [I lang, .sl 9 (strsA (wsOf lang)), .sl 9 (strsA (gsOf lang)), St (sb l), I (l.length : Int), .sl 35 (ts.map tokA), .sl 40 (cs.map comA)]
def scR (lang : Int) (l : List UInt8) (ts : List Tok) (cs : List (Nat × Nat)) : Rd → AV
  | .bad a e => .tup [.sc (.pointer none), I a, I e]
  | .ok ts' cs' => if 1500 < (ts ++ ts').length then .tup [.sc (.pointer none), I 0, I 2] else .tup [scnA lang l (ts ++ ts') (cs ++ cs'), I 0, I 0]
theorem scR_addT (lang : Int) (l : List UInt8) (ts : List Tok) (cs : List (Nat × Nat)) (t : Tok) (d : Rd) : scR lang l ts cs (d.addT t) = scR lang l (ts ++ [t]) cs d := by
  cases d with
  | bad a e => rfl
  | ok ts' cs' =>
    unfold scR Rd.addT
    simp only [List.append_assoc, List.singleton_append]
theorem scR_addC (lang : Int) (l : List UInt8) (ts : List Tok) (cs : List (Nat × Nat)) (c : Nat × Nat) (d : Rd) : scR lang l ts cs (d.addC c) = scR lang l ts (cs ++ [c]) d := by
  cases d with
  | bad a e => rfl
  | ok ts' cs' =>
    unfold scR Rd.addC
    simp only [List.append_assoc, List.singleton_append]
theorem scE_nil (lang : Int) (k a : Nat) : scE lang (k + 1) a [] = .ok [] [] := rfl
theorem scE_cons (lang : Int) (k a : Nat) (c : UInt8) (x : List UInt8) : scE lang (k + 1) a (c :: x) = if blank c = true then scE lang k (a + 1) x else match pcT lang (c :: x) with
    | .err e => .bad (a : Nat) e
    | .com n => (scE lang k (a + n) ((c :: x).drop n)).addC (a, a + n)
    | .tok kd n => (scE lang k (a + n) ((c :: x).drop n)).addT ⟨kd, (c :: x).take n, a⟩ := rfl
theorem big16 {a : Nat} (h : a ≤ 100000) : (a + 1) * 16 ≤ maxBytes ∧ (a + 1) * 32 ≤ maxBytes := by
  unfold maxBytes
  omega
theorem l37 (K : Nat) (lang : Int) (hlang : lang = 0 ∨ lang = 1) (l : List UInt8) (hasc : asciiL l = true) (hl : l.length ≤ 99999) (hK : l.length + 1200 ≤ K) : ∀ (k n : Nat) (ts : List Tok) (cs : List (Nat × Nat)), l.length - n < k → n ≤ l.length → ts.length ≤ n → cs.length ≤ n →
    lp37_8 K k (sb l) lang (strsA (wsOf lang)) (strsA (gsOf lang)) (sb l) (n : Int) (ts.map tokA) (cs.map comA) = some (scR lang l ts cs (scE lang (l.length - n + 1) n (l.drop n)))
  | 0, n, ts, cs, h, _, _, _ => by omega
  | k + 1, n, ts, cs, h, hn, hts, hcs => by
    unfold lp37_8 tr37_8
    by_cases hi : n < l.length
    · have e57 := r57 (K := K) (by omega) [32, 9, 10] l[n]
      have e58 := r58 (K := K) lang (strsA (wsOf lang)) (strsA (gsOf lang)) l n (ts.map tokA) (cs.map comA) hlang hi (by omega) (by omega)
      obtain ⟨a59, e59, s59⟩ := r59 (K := K) lang l n (ts.map tokA) (cs.map comA) hi hasc (by omega) (by omega)
      have w1 : IntKind.i64.wrap ((n : Int) + 1) = ((n + 1 : Nat) : Int) := wrapA (m := 1) (by omega) (by omega)
      unfold scn at e58 e59
      have hx := List.drop_eq_getElem_cons hi
      rw [decide_eq_true (show (n : Int) < ((sb l).size : Int) by rw [sb_size]; omega)]
      rw [show (⟨#[32, 9, 10]⟩ : ByteArray) = sb [32, 9, 10] from rfl]
      simp only [if_pos (Int.natCast_nonneg n), getL hi, e57, castI_I, ixb_blank, e58, w1]
      rw [hx, scE_cons]
      cases hb : blank l[n] with
      | true =>
        rw [if_pos rfl]
        have := l37 K lang hlang l hasc hl hK k (n + 1) ts cs (by omega) (by omega) (by omega) (by omega)
        rw [show l.length - (n + 1) + 1 = l.length - n by omega] at this
        exact this
      | false =>
        simp only [Bool.false_eq_true, if_false]
        rw [← hx]
        rcases pc_shape lang (l.drop n) with ⟨e, h1, h2⟩ | ⟨m, h1, h2, h3, h4⟩ | ⟨kd, m, h1, h2, h3, h4, h5, h6, h7⟩
        · rw [h1]
          unfold pcT at h1
          cases hc : comT lang (l.drop n) with
          | some o =>
            rw [hc] at h1
            cases o with
            | none =>
              injection h1 with h1
              subst h1
              rfl
            | some m => cases h1
          | none =>
            rw [hc] at h1
            have h1 : nxT lang (l.drop n) = .err e := h1
            rw [h1] at s59
            obtain ⟨x, y, rfl⟩ := s59
            simp only [comP, compN, List.getD_cons_zero, List.getD_cons_succ, castI_I, e59]
            rw [show (e != 0) = true by simpa using h2]
            rfl
        · rw [List.length_drop] at h3
          have w2 : IntKind.i64.wrap ((n : Int) + (m : Int)) = ((n + m : Nat) : Int) := by rw [wrapI ⟨by omega, by omega⟩]; omega
          have ih := l37 K lang hlang l hasc hl hK k (n + m) ts (cs ++ [(n, n + m)]) (by omega) (by omega) (by omega) (by rw [List.length_append]; simp; omega)
          rw [h1, h4]
          simp only [comP, compN, List.getD_cons_zero, List.getD_cons_succ, castI_I]
          rw [show ((0 : Int) != 0) = false from rfl, decide_eq_true (show (m : Int) > 0 by omega)]
          simp only [w2]
          have hlen : ((cs.map comA).length + ([AV.agg [I (n : Int), I ((n + m : Nat) : Int)]] : LA).length) * 16 ≤ maxBytes := by
            rw [List.length_map]
            exact (big16 (show cs.length ≤ 100000 by omega)).1
          rw [if_pos hlen, show cs.map comA ++ [AV.agg [I (n : Int), I ((n + m : Nat) : Int)]] = (cs ++ [(n, n + m)]).map comA by rw [List.map_append]; rfl, ih, List.drop_drop, scR_addC, scE_eq lang (k := l.length - (n + m) + 1) (k' := l.length - n) (by rw [List.length_drop]; omega) (by rw [List.length_drop]; omega)]
        · rw [List.length_drop] at h3
          have w2 : IntKind.i64.wrap ((n : Int) + (m : Int)) = ((n + m : Nat) : Int) := by rw [wrapI ⟨by omega, by omega⟩]; omega
          have ih := l37 K lang hlang l hasc hl hK k (n + m) (ts ++ [⟨kd, (l.drop n).take m, n⟩]) cs (by omega) (by omega) (by rw [List.length_append]; simp; omega) (by omega)
          rw [h1, h6]
          rw [h7] at s59
          have s59 : a59 = .tup [I kd, I (m : Int), I 0] := s59
          subst s59
          simp only [comP, compN, List.getD_cons_zero, List.getD_cons_succ, castI_I, e59]
          rw [show ((0 : Int) != 0) = false from rfl, show decide ((0 : Int) > 0) = false from rfl]
          simp only [w2]
          have hsl : 0 ≤ (n : Int) ∧ (n : Int) ≤ ((n + m : Nat) : Int) ∧ ((n + m : Nat) : Int) ≤ ((sb l).size : Int) := ⟨by omega, by omega, by rw [sb_size]; omega⟩
          have hex : (sb l).extract (n : Int).toNat ((n + m : Nat) : Int).toNat = sb ((l.drop n).take m) := by
            rw [sb_extract, Int.toNat_natCast, Int.toNat_natCast, List.drop_take, Nat.add_sub_cancel_left]
          have hlen : ((ts.map tokA).length + ([AV.agg [I kd, St (sb ((l.drop n).take m)), I (n : Int)]] : LA).length) * 32 ≤ maxBytes := by
            rw [List.length_map]
            exact (big16 (show ts.length ≤ 100000 by omega)).2
          rw [if_pos hsl, hex, if_pos hlen, show ts.map tokA ++ [AV.agg [I kd, St (sb ((l.drop n).take m)), I (n : Int)]] = (ts ++ [(⟨kd, (l.drop n).take m, n⟩ : Tok)]).map tokA by rw [List.map_append]; rfl, ih, List.drop_drop, scR_addT, scE_eq lang (k := l.length - (n + m) + 1) (k' := l.length - n) (by rw [List.length_drop]; omega) (by rw [List.length_drop]; omega)]
    · rw [decide_eq_false (show ¬ (n : Int) < ((sb l).size : Int) by rw [sb_size]; omega), List.drop_eq_nil_of_le (show l.length ≤ n by omega), scE_nil]
      unfold scR
      simp only [List.append_nil, List.length_map]
      have : n = l.length := by omega
      subst this
      by_cases h15 : 1500 < ts.length
      · rw [decide_eq_true (show (ts.length : Int) > 1500 by omega), if_pos h15]
      · rw [decide_eq_false (show ¬ (ts.length : Int) > 1500 by omega), if_neg h15]
        rfl
theorem r47n {K : Nat} (h : 1 ≤ K) {lang : Int} (h0 : lang ≠ 0) (h1 : lang ≠ 1) : run tab K 47 [I lang] = some (.tup [.agg [.sl 9 [], .sl 9 []], B false]) := by
  obtain ⟨K, rfl⟩ := succK h
  rw [eq47]; unfold sh47 tr47
  rw [show (lang == 0) = false by simpa using h0, show (lang == 1) = false by simpa using h1]
/-- A reader's result, on the program's side. -/
def rdP (lang : Int) (l : List UInt8) : Rd → AV
  | .bad a e => .tup [.sc (.pointer none), I a, I e]
  | .ok ts cs => .tup [scnA lang l ts cs, I 0, I 0]
theorem chk_cases (l : List UInt8) : (chkT l).2 ≠ 0 ∨ (l.length ≤ 8000 ∧ badAt l = none ∧ chkT l = (((l.count 10 + 1 : Nat) : Int), (0 : Int))) := by
  unfold chkT
  split
  · exact .inl (by decide)
  · split
    · exact .inl (show (5 : Int) ≠ 0 by decide)
    · rename_i h1 h2
      exact .inr ⟨by omega, h2, rfl⟩
theorem rdT_bad {lang : Int} {l : List UInt8} (hlang : lang = 0 ∨ lang = 1) (h : (chkT l).2 ≠ 0) : rdT lang l = .bad (chkT l).1 (chkT l).2 := by
  unfold rdT
  rw [if_pos hlang]
  generalize chkT l = p at *
  obtain ⟨n, e⟩ := p
  simp only []
  rw [if_neg h]
theorem rdT_go {lang : Int} {l : List UInt8} (hlang : lang = 0 ∨ lang = 1) (h : chkT l = (((l.count 10 + 1 : Nat) : Int), (0 : Int))) : rdT lang l = match scE lang (l.length + 1) 0 l with
      | .bad a e => .bad a e
      | .ok ts cs => if 1500 < ts.length then .bad 0 2 else .ok ts cs := by
  unfold rdT
  rw [if_pos hlang, h]
  rfl
theorem r37 {K : Nat} (lang : Int) (l : List UInt8) (hl : l.length ≤ 99999) (hK : l.length + 1300 ≤ K) : run tab K 37 [I lang, St (sb l)] = some (rdP lang l (rdT lang l)) := by
  obtain ⟨K, rfl⟩ := succK (show 1 ≤ K by omega)
  rw [eq37]; unfold sh37 tr37
  by_cases hlang : lang = 0 ∨ lang = 1
  · rw [r47 (by omega) hlang, r33 l (by omega) (by omega)]
    simp only [cellN, compN, List.getD_cons_zero, List.getD_cons_succ, castL_L, castB_B, pairA, castI_I, Bool.not_true]
    rcases chk_cases l with h | ⟨h1, h2, h3⟩
    · rw [rdT_bad hlang h, show ((chkT l).2 != 0) = true by simpa using h]
      rfl
    · rw [rdT_go hlang h3, h3]
      have main := l37 K lang hlang l (okC_asc h2) hl (by omega) K 0 [] [] (by omega) (by omega) (by simp) (by simp)
      refine Eq.trans main ?_
      rw [List.drop_zero, Nat.sub_zero]
      cases scE lang (l.length + 1) 0 l with
      | bad a e => rfl
      | ok ts cs =>
        show some (if 1500 < ([] ++ ts : List Tok).length then _ else _) = some (rdP lang l (if 1500 < ts.length then _ else _))
        rw [List.nil_append]
        split <;> rfl
  · rw [r47n (by omega) (fun h => hlang (.inl h)) (fun h => hlang (.inr h))]
    unfold rdT
    rw [if_neg hlang]
    rfl
end Go.Proofs.YtdhbhedfbdckaaaGreatDoor

/- Tokens: right ones, the same ones, side by side. -/
namespace Go.Proofs.YtdhbhedfbdckaaaGreatDoor
open Go.Dam
set_option linter.unusedVariables false
set_option linter.unusedSimpArgs false
structure Tk where
  k : Int
  s : List UInt8
  a : Int
def tkA (t : Tk) : AV := .agg [I t.k, St (sb t.s), I t.a]
def Tok.tk (t : Tok) : Tk := ⟨t.k, t.s, (t.at' : Int)⟩
theorem scE_err (lang : Int) : ∀ (k : Nat) (r : List UInt8) (a : Nat) (x e : Int), r.length < k → scE lang k a r = .bad x e → e ≠ 0
  | 0, r, a, x, e, h, _ => by omega
  | k + 1, [], a, x, e, h, hs => by cases hs
  | k + 1, c :: r, a, x, e, h, hs => by
    have hl : (c :: r).length = r.length + 1 := rfl
    rw [scE_cons] at hs
    split at hs
    · exact scE_err lang k r _ _ _ (by omega) hs
    · rcases pc_shape lang (c :: r) with ⟨e', h1, h2⟩ | ⟨n, h1, h2, h3, _⟩ | ⟨kd, n, h1, h2, h3, _⟩
      · rw [h1] at hs
        simp only [] at hs
        injection hs with _ hs
        rw [← hs]; exact h2
      · rw [h1] at hs
        simp only [] at hs
        cases hd : scE lang k (a + n) ((c :: r).drop n) with
        | bad x' e' =>
          rw [hd] at hs
          injection hs with _ hs
          rw [← hs]
          exact scE_err lang k _ _ _ _ (by rw [List.length_drop]; omega) hd
        | ok ts cs => rw [hd] at hs; cases hs
      · rw [h1] at hs
        simp only [] at hs
        cases hd : scE lang k (a + n) ((c :: r).drop n) with
        | bad x' e' =>
          rw [hd] at hs
          injection hs with _ hs
          rw [← hs]
          exact scE_err lang k _ _ _ _ (by rw [List.length_drop]; omega) hd
        | ok ts cs => rw [hd] at hs; cases hs
theorem rd_err {lang : Int} {l : List UInt8} {x e : Int} (h : rdT lang l = .bad x e) : e ≠ 0 := by
  by_cases hlang : lang = 0 ∨ lang = 1
  · rcases chk_cases l with h1 | ⟨h1, h2, h3⟩
    · rw [rdT_bad hlang h1] at h
      injection h with _ h
      rw [← h]; exact h1
    · rw [rdT_go hlang h3] at h
      cases hd : scE lang (l.length + 1) 0 l with
      | bad x' e' =>
        rw [hd] at h
        injection h with _ h
        rw [← h]
        exact scE_err lang _ _ _ _ _ (by omega) hd
      | ok ts cs =>
        rw [hd] at h
        simp only [] at h
        split at h
        · injection h with _ h
          rw [← h]; decide
        · cases h
  · unfold rdT at h
    rw [if_neg hlang] at h
    injection h with _ h
    rw [← h]; decide
theorem rd_ok {lang : Int} {l : List UInt8} {ts : List Tok} {cs : List (Nat × Nat)} (h : rdT lang l = .ok ts cs) : (lang = 0 ∨ lang = 1) ∧ l.length ≤ 8000 ∧ badAt l = none ∧ scE lang (l.length + 1) 0 l = .ok ts cs ∧ ts.length ≤ 1500 := by
  by_cases hlang : lang = 0 ∨ lang = 1
  · rcases chk_cases l with h1 | ⟨h1, h2, h3⟩
    · rw [rdT_bad hlang h1] at h
      cases h
    · rw [rdT_go hlang h3] at h
      cases hd : scE lang (l.length + 1) 0 l with
      | bad x' e' => rw [hd] at h; cases h
      | ok ts' cs' =>
        rw [hd] at h
        simp only [] at h
        split at h
        · cases h
        · injection h with h4 h5
          subst h4 h5
          exact ⟨hlang, h1, h2, rfl, by omega⟩
  · unfold rdT at h
    rw [if_neg hlang] at h
    cases h
def oneT (lang : Int) (k : Int) (s : List UInt8) : Bool := match rdT lang s with
  | .ok [t] _ => decide (t.k = k) && decide (t.s = s)
  | _ => false
theorem beqI (a b : Int) : (a == b) = decide (a = b) := by rw [Bool.eq_iff_iff, beq_iff_eq, decide_eq_true_iff]
theorem r39 {K : Nat} (lang k : Int) (s : List UInt8) (hl : s.length ≤ 99999) (hK : s.length + 1400 ≤ K) : run tab K 39 [I lang, I k, St (sb s)] = some (B (oneT lang k s)) := by
  obtain ⟨K, rfl⟩ := succK (show 1 ≤ K by omega)
  rw [eq39]; unfold sh39 tr39
  rw [r37 lang s hl (by omega)]
  unfold oneT
  cases h : rdT lang s with
  | bad a e =>
    have he := rd_err h
    simp only [rdP, compN, List.getD_cons_zero, List.getD_cons_succ, castP, castI_I]
    rw [show (e == 0) = false by simpa using he]
  | ok ts cs =>
    simp only [rdP, scnA, compN, List.getD_cons_zero, List.getD_cons_succ, castP, castI_I, castRef, castL_L, List.length_map]
    rw [show ((0 : Int) == 0) = true from rfl]
    match ts with
    | [] => rfl
    | [t] =>
      simp only [List.map_cons, List.map_nil, List.length_singleton, List.getElem?_cons_zero, tokA, cellN, List.getD_cons_zero, List.getD_cons_succ, castI_I, castS_S, sb_beq, beqI]
      cases decide (t.k = k) <;> rfl
    | t :: u :: ts =>
      rw [show (((t :: u :: ts).length : Int) == 1) = false by rw [beq_eq_false_iff_ne]; simp; omega]
/-- The error of a token, its language being one. -/
def tkErr (lang : Int) (t : Tk) : Int :=
  if t.k < 0 ∨ 6 < t.k then 4 else if oneT lang t.k t.s = true then (if 0 ≤ t.a ∧ t.a ≤ 8000 then 0 else 3) else 8
theorem r18 {K : Nat} (lang : Int) (t : Tk) (hl : t.s.length ≤ 99999) (hK : t.s.length + 1500 ≤ K) : run tab K 18 [I lang, tkA t] = some (I (if lang = 0 ∨ lang = 1 then tkErr lang t else 4)) := by
  obtain ⟨K, rfl⟩ := succK (show 1 ≤ K by omega)
  have e := r39 (K := K) lang t.k t.s hl (by omega)
  unfold tkA
  rw [eq18]; unfold sh18 tr18
  rw [e]
  have z0 : (lang != 0) = !decide (lang = 0) := by show (!(lang == 0)) = _; rw [beqI]
  have z1 : (lang != 1) = !decide (lang = 1) := by show (!(lang == 1)) = _; rw [beqI]
  have z2 : decide (t.k ≥ 7) = decide (6 < t.k) := by rw [Bool.eq_iff_iff, decide_eq_true_iff, decide_eq_true_iff]; omega
  have z3 : decide (t.a < 0) = !decide (0 ≤ t.a) := by rw [Bool.eq_iff_iff, decide_eq_true_iff, Bool.not_eq_true', decide_eq_false_iff_not]; omega
  have z4 : decide (t.a > 8000) = !decide (t.a ≤ 8000) := by rw [Bool.eq_iff_iff, decide_eq_true_iff, Bool.not_eq_true', decide_eq_false_iff_not]; omega
  simp only [castB_B, z0, z1, z2, z3, z4]
  have hr : (if lang = 0 ∨ lang = 1 then tkErr lang t else 4) = if (decide (lang = 0) || decide (lang = 1)) = true then (if (decide (t.k < 0) || decide (6 < t.k)) = true then 4 else if oneT lang t.k t.s = true then (if (decide (0 ≤ t.a) && decide (t.a ≤ 8000)) = true then 0 else 3) else 8) else (4 : Int) := by
    unfold tkErr
    simp only [Bool.or_eq_true, Bool.and_eq_true, decide_eq_true_iff]
  rw [hr]
  generalize oneT lang t.k t.s = b0
  generalize decide (lang = 0) = b1
  generalize decide (lang = 1) = b2
  generalize decide (t.k < 0) = b3
  generalize decide (6 < t.k) = b4
  generalize decide (0 ≤ t.a) = b5
  generalize decide (t.a ≤ 8000) = b6
  cases b0 <;> cases b1 <;> cases b2 <;> cases b3 <;> cases b4 <;> cases b5 <;> cases b6 <;> rfl
end Go.Proofs.YtdhbhedfbdckaaaGreatDoor
