/- A part of an interpreter of the model's code that is proved sound, and of laws told by it: DamX1, DamX2, DamX3, DamX4, DamX5, DamX6, DamX7. -/
import Derived.Test.YtdhbhedfbdckaaaGreatDoorPuE1
set_option linter.unusedVariables false
set_option linter.unusedSimpArgs false
/- Strings as lists of bytes; tests of characters, on both sides. -/
namespace Go.Proofs.YtdhbhedfbdckaaaGreatDoor
open Go.Dam
set_option linter.unusedVariables false
set_option linter.unusedSimpArgs false
def sb (l : List UInt8) : ByteArray := ⟨l.toArray⟩
def bl (s : ByteArray) : List UInt8 := s.data.toList
theorem sb_size (l : List UInt8) : (sb l).size = l.length := rfl
theorem sb_append (a b : List UInt8) : sb a ++ sb b = sb (a ++ b) := by
  apply ByteArray.ext
  show (sb a ++ sb b).data = _
  rw [ByteArray.data_append]
  unfold sb
  simp
theorem sb_extract (l : List UInt8) (a b : Nat) : (sb l).extract a b = sb ((l.take b).drop a) := by
  apply ByteArray.ext
  rw [ByteArray.data_extract]
  unfold sb
  simp [List.extract_eq_take_drop, List.drop_take]
theorem sb_get (l : List UInt8) (i : Nat) : (sb l)[i]? = l[i]? := by
  by_cases h : i < l.length
  · rw [getElem?_pos (sb l) i (by rw [sb_size]; exact h), List.getElem?_eq_getElem h]
    rfl
  · rw [getElem?_neg (sb l) i (by rw [sb_size]; exact h), List.getElem?_eq_none (by omega)]
theorem sb_beq (a b : List UInt8) : (sb a == sb b) = decide (a = b) := by
  show (a.toArray == b.toArray) = _
  rw [Bool.eq_iff_iff, beq_iff_eq, decide_eq_true_iff]
  exact ⟨fun h => by simpa using h, fun h => by rw [h]⟩
theorem castI_I {R : Type} (n : Int) (F : Int → Option R) : castI .i64 (I n) F = F n := by simp [castI]
theorem castB_B {R : Type} (b : Bool) (F : Bool → Option R) : castB (B b) F = F b := rfl
theorem castS_S {R : Type} (s : ByteArray) (F : ByteArray → Option R) : castS (St s) F = F s := rfl
theorem castL_L {R : Type} (T : Nat) (l : List AV) (F : List AV → Option R) : castL T (.sl T l) F = F l := by simp [castL]
theorem succK {K : Nat} (h : 1 ≤ K) : ∃ k, K = k + 1 := ⟨K - 1, by omega⟩
def i64 (n : Int) : Prop := -9223372036854775808 ≤ n ∧ n ≤ 9223372036854775807
theorem wrapI {n : Int} (h : i64 n) : IntKind.i64.wrap n = n := by
  obtain ⟨h1, h2⟩ := h
  rw [IntKind.wrap_i64]
  omega
def u8 (b : UInt8) : AV := .sc (.int .u8 (b.toNat : Int))
def inR (b : UInt8) (lo hi : Nat) : Bool := decide (lo ≤ b.toNat) && decide (b.toNat ≤ hi)
theorem rng (b : UInt8) (lo hi : Nat) : (match decide ((b.toNat : Int) ≥ (lo : Int)) with | true => some (B (decide ((b.toNat : Int) ≤ (hi : Int)))) | false => some (B false)) = some (B (inR b lo hi)) := by
  unfold inR
  by_cases h : lo ≤ b.toNat
  · rw [decide_eq_true (show (b.toNat : Int) ≥ (lo : Int) by omega), decide_eq_true h]
    simp only [Bool.true_and]
    rw [show decide ((b.toNat : Int) ≤ (hi : Int)) = decide (b.toNat ≤ hi) by rw [Bool.eq_iff_iff, decide_eq_true_iff, decide_eq_true_iff]; omega]
  · rw [decide_eq_false (show ¬ (b.toNat : Int) ≥ (lo : Int) by omega), decide_eq_false h]
    rfl
def isD (b : UInt8) : Bool := inR b 48 57
def isS (b : UInt8) : Bool := inR b 97 122
def isC (b : UInt8) : Bool := inR b 65 90
def isL (b : UInt8) : Bool := isS b || isC b
def isPt (b : UInt8) : Bool := isL b || isD b
theorem r87 {K : Nat} (h : 1 ≤ K) (b : UInt8) : run tab K 87 [u8 b] = some (B (isD b)) := by
  obtain ⟨K, rfl⟩ := succK h
  exact (eq87 K b.toNat).trans (rng b 48 57)
theorem r84 {K : Nat} (h : 1 ≤ K) (b : UInt8) : run tab K 84 [u8 b] = some (B (isL b)) := by
  obtain ⟨K, rfl⟩ := succK h
  unfold u8
  rw [eq84]; unfold sh84 tr84 isL isS isC inR
  by_cases h1 : 97 ≤ b.toNat
  · rw [decide_eq_true (show (b.toNat : Int) ≥ 97 by omega), decide_eq_true h1]
    by_cases h2 : b.toNat ≤ 122
    · rw [decide_eq_true (show (b.toNat : Int) ≤ 122 by omega), decide_eq_true h2]
      rfl
    · rw [decide_eq_false (show ¬ (b.toNat : Int) ≤ 122 by omega), decide_eq_false h2]
      exact rng b 65 90
  · rw [decide_eq_false (show ¬ (b.toNat : Int) ≥ 97 by omega), decide_eq_false h1]
    exact rng b 65 90
theorem r25 {K : Nat} (h : 1 ≤ K) (n a c : Int) : run tab K 25 [I n, I a, I c] = some (B (decide (a ≤ n) && decide (n ≤ c))) := by
  obtain ⟨K, rfl⟩ := succK h
  rw [eq25]; unfold sh25 tr25
  cases decide (a ≤ n) <;> rfl
/-- A text begins with another one. -/
theorem r103 {K : Nat} (h : 1 ≤ K) (l p : List UInt8) : run tab K 103 [St (sb l), St (sb p)] = some (B (decide (l.take p.length = p))) := by
  obtain ⟨K, rfl⟩ := succK h
  rw [eq103]; unfold sh103 tr103
  rw [sb_size, sb_size]
  by_cases hl : p.length ≤ l.length
  · rw [decide_eq_true (show (l.length : Int) ≥ (p.length : Int) by omega), if_pos ⟨by omega, by omega, by omega⟩]
    rw [Int.toNat_natCast, Int.toNat_zero, sb_extract, sb_beq, List.drop_zero]
  · rw [decide_eq_false (show ¬ (l.length : Int) ≥ (p.length : Int) by omega), decide_eq_false (fun hh => by
      have := congrArg List.length hh
      rw [List.length_take] at this
      omega)]
theorem r83 {K : Nat} (h : 2 ≤ K) (l p : List UInt8) : run tab K 83 [St (sb l), St (sb p)] = some (B (decide (l.take p.length = p))) := by
  obtain ⟨K, rfl⟩ := succK (show 1 ≤ K by omega)
  have e := r103 (K := K) (by omega) l p
  rw [eq83]; unfold sh83 tr83
  rw [e]
  rfl
end Go.Proofs.YtdhbhedfbdckaaaGreatDoor

/- What stands from a place on: the scanner's rest, the reference's has. -/
namespace Go.Proofs.YtdhbhedfbdckaaaGreatDoor
open Go.Dam
set_option linter.unusedVariables false
set_option linter.unusedSimpArgs false
/-- A scanner. -/
def scn (lang : Int) (ws gs : List AV) (l : List UInt8) (at' : Nat) (ts cs : List AV) : AV := .ref [I lang, .sl 9 ws, .sl 9 gs, St (sb l), I (at' : Int), .sl 35 ts, .sl 40 cs]
theorem r81 {K : Nat} (h : 1 ≤ K) (lang : Int) (ws gs : List AV) (l : List UInt8) (at' : Nat) (ts cs : List AV) (ha : at' ≤ l.length) : run tab K 81 [scn lang ws gs l at' ts cs] = some (St (sb (l.drop at'))) := by
  obtain ⟨K, rfl⟩ := succK h
  unfold scn
  rw [eq81]; unfold sh81 tr81
  rw [sb_size, if_pos ⟨by omega, by omega, by omega⟩, sb_extract, Int.toNat_natCast, Int.toNat_natCast, List.take_length]
theorem ixb_no {c : UInt8} : ∀ {l : List UInt8}, c ∉ l → Lib.indexByte l c = -1
  | [], _ => rfl
  | x :: xs, h => by
    have h1 : x ≠ c := fun e => h (by simp [e])
    have h2 : c ∉ xs := fun e => h (by simp [e])
    rw [Lib.indexByte, if_neg (by simpa using h1), ixb_no h2]
    rfl
/-- How long a line is. -/
def lineLen : List UInt8 → Nat
  | [] => 0
  | x :: l => if x = 10 then 0 else lineLen l + 1
theorem ix_line : ∀ l : List UInt8, Lib.indexByte l 10 = -1 ∧ lineLen l = l.length ∨ Lib.indexByte l 10 = (lineLen l : Int)
  | [] => .inl ⟨rfl, rfl⟩
  | x :: l => by
    unfold lineLen Lib.indexByte
    by_cases h : x = 10
    · rw [if_pos h, if_pos (by simpa using h)]
      exact .inr rfl
    · rw [if_neg h, if_neg (by simpa using h)]
      rcases ix_line l with ⟨h1, h2⟩ | h1
      · rw [if_pos (by rw [h1]; rfl), h2]
        exact .inl ⟨rfl, rfl⟩
      · rw [if_neg (by rw [h1]; simp), h1]
        exact .inr (by omega)
theorem r57 {K : Nat} (h : 1 ≤ K) (l : List UInt8) (c : UInt8) : run tab K 57 [St (sb l), .sc (.int .u8 (c.toNat : Int))] = some (I (Lib.indexByte l c)) := by
  obtain ⟨K, rfl⟩ := succK h
  rw [show run tab (K + 1) 57 [St (sb l), .sc (.int .u8 (c.toNat : Int))] = extIdxB [St (sb l), .sc (.int .u8 (c.toNat : Int))] from rfl]
  unfold extIdxB
  simp only []
  rw [show ((c.toNat : Int).toNat.toUInt8) = c by simp]
  rfl
theorem r82 {K : Nat} (h : 2 ≤ K) (l : List UInt8) : run tab K 82 [St (sb l)] = some (I (lineLen l : Nat)) := by
  obtain ⟨K, rfl⟩ := succK (show 1 ≤ K by omega)
  have e := r57 (K := K) (by omega) l 10
  rw [eq82]; unfold sh82 tr82
  rw [show (10 : Int) = (((10 : UInt8).toNat : Nat) : Int) from rfl, e]
  simp only [castI_I]
  rcases ix_line l with ⟨h1, h2⟩ | h1
  · rw [h1, h2]
    rfl
  · rw [h1, decide_eq_true (show ((lineLen l : Nat) : Int) ≥ 0 by omega)]
end Go.Proofs.YtdhbhedfbdckaaaGreatDoor

/- Names, on the program's side. -/
namespace Go.Proofs.YtdhbhedfbdckaaaGreatDoor
open Go.Dam
set_option linter.unusedVariables false
set_option linter.unusedSimpArgs false
/-- How many characters more a name has: lang 0 has hyphens, lang 1 underlines. -/
def nameT (lang : Int) : List UInt8 → Nat
  | [] => 0
  | c :: r => if isPt c = true then nameT lang r + 1 else if c = 95 ∧ lang = 1 then nameT lang r + 1 else
    if c = 45 ∧ lang = 0 then (match r with
      | [] => 0
      | d :: _ => if isPt d = true then nameT lang r + 1 else 0) else 0
theorem chr_eq (b : UInt8) (n : Nat) (hn : n < 256) : ((b.toNat : Int) == (n : Int)) = decide (b = UInt8.ofNat n) := by
  rw [Bool.eq_iff_iff, beq_iff_eq, decide_eq_true_iff]
  constructor
  · intro h
    apply UInt8.toNat.inj
    rw [UInt8.toNat_ofNat']
    omega
  · intro h
    subst h
    rw [UInt8.toNat_ofNat']
    omega
theorem wrapA {i m : Nat} (h : i ≤ 1000000) (hm : m ≤ 10) : IntKind.i64.wrap ((i : Int) + (m : Int)) = ((i + m : Nat) : Int) := by
  rw [wrapI ⟨by omega, by omega⟩]
  omega
theorem l85 (K : Nat) (hK : 2 ≤ K) (lang : Int) (ws gs : List AV) (y4 : ByteArray) (y5 : Int) (ts cs : List AV) (l : List UInt8) (hl : l.length ≤ 100000) : ∀ (k n : Nat), l.length - n < k → n ≤ l.length →
    lp85_3 K k lang ws gs y4 y5 ts cs (sb l) (n : Int) = some (I ((n + nameT lang (l.drop n) : Nat) : Int))
  | 0, n, h, _ => by omega
  | k + 1, n, h, hn => by
    unfold lp85_3 tr85_3
    rw [sb_size]
    by_cases hi : n < l.length
    · have e84 := r84 (K := K) (by omega) l[n]
      have e87 := r87 (K := K) (by omega) l[n]
      unfold u8 at e84 e87
      have w1 : IntKind.i64.wrap ((n : Int) + 1) = ((n + 1 : Nat) : Int) := wrapA (m := 1) (by omega) (by omega)
      have w2 : IntKind.i64.wrap ((n : Int) + 2) = ((n + 2 : Nat) : Int) := wrapA (m := 2) (by omega) (by omega)
      have ih1 := l85 K hK lang ws gs y4 y5 ts cs l hl k (n + 1) (by omega) (by omega)
      have g0 : (sb l)[((n : Int)).toNat]? = some l[n] := by rw [sb_get, Int.toNat_natCast, List.getElem?_eq_getElem hi]
      rw [decide_eq_true (show (n : Int) < (l.length : Int) by omega), List.drop_eq_getElem_cons hi]
      simp only [if_pos (Int.natCast_nonneg n), g0, e84, castB_B, w1, w2]
      have c95 := chr_eq l[n] 95 (by omega)
      have c45 := chr_eq l[n] 45 (by omega)
      have fin : ∀ x : Nat, some (I ((n + 1 + x : Nat) : Int)) = some (I ((n + (x + 1) : Nat) : Int)) := fun x => by rw [show n + 1 + x = n + (x + 1) by omega]
      have hpt : isPt l[n] = (isL l[n] || isD l[n]) := rfl
      unfold nameT
      rw [hpt]
      cases hL : isL l[n] with
      | true =>
        simp only [Bool.true_or, if_true]
        rw [ih1]
        exact fin _
      | false =>
        simp only [Bool.false_or]
        rw [e87]
        simp only [castB_B]
        cases hD : isD l[n] with
        | true =>
          simp only [if_true]
          rw [ih1]
          exact fin _
        | false =>
          simp only [Bool.false_eq_true, if_false]
          rw [show ((l[n].toNat : Int) == (95 : Int)) = decide (l[n] = 95) from c95, show ((l[n].toNat : Int) == (45 : Int)) = decide (l[n] = 45) from c45]
          have no : n + 0 = n := rfl
          by_cases h95 : l[n] = 95
          · have h45 : ¬ l[n] = 45 := by rw [h95]; decide
            rw [decide_eq_true h95, decide_eq_false h45]
            by_cases hl1 : lang = 1
            · rw [show (lang == 1) = true by simpa using hl1, if_pos (show l[n] = 95 ∧ lang = 1 from ⟨h95, hl1⟩)]
              simp only []
              rw [ih1]
              exact fin _
            · rw [show (lang == 1) = false by simpa using hl1, if_neg (show ¬ (l[n] = 95 ∧ lang = 1) from fun h => hl1 h.2), if_neg (show ¬ (l[n] = 45 ∧ lang = 0) from fun h => h45 h.1)]
              rfl
          · rw [decide_eq_false h95, if_neg (show ¬ (l[n] = 95 ∧ lang = 1) from fun h => h95 h.1)]
            by_cases h45 : l[n] = 45
            · rw [decide_eq_true h45]
              by_cases hl0 : lang = 0
              · rw [show (lang == 0) = true by simpa using hl0, if_pos (show l[n] = 45 ∧ lang = 0 from ⟨h45, hl0⟩)]
                by_cases hj : n + 1 < l.length
                · have f84 := r84 (K := K) (by omega) l[n + 1]
                  have f87 := r87 (K := K) (by omega) l[n + 1]
                  unfold u8 at f84 f87
                  have ih2 := l85 K hK lang ws gs y4 y5 ts cs l hl k (n + 2) (by omega) (by omega)
                  have g1 : (sb l)[(((n + 1 : Nat) : Int)).toNat]? = some l[n + 1] := by rw [sb_get, Int.toNat_natCast, List.getElem?_eq_getElem hj]
                  have hp1 : isPt l[n + 1] = (isL l[n + 1] || isD l[n + 1]) := rfl
                  rw [decide_eq_true (show ((n + 1 : Nat) : Int) < (l.length : Int) by omega), List.drop_eq_getElem_cons hj]
                  simp only [if_pos (Int.natCast_nonneg (n + 1)), g1, f84, f87, castB_B, ih2]
                  have fin2 : ∀ x : Nat, some (I ((n + 2 + x : Nat) : Int)) = some (I ((n + (x + 1 + 1) : Nat) : Int)) := fun x => by rw [show n + 2 + x = n + (x + 1 + 1) by omega]
                  cases hq : isPt l[n + 1] with
                  | true =>
                    have hnt : nameT lang (l[n + 1] :: List.drop (n + 1 + 1) l) = nameT lang (List.drop (n + 2) l) + 1 := by
                      conv => lhs; unfold nameT
                      rw [if_pos hq]
                    rw [if_pos rfl, hnt]
                    cases hL1 : isL l[n + 1] with
                    | true => exact fin2 _
                    | false =>
                      have hD1 : isD l[n + 1] = true := by rw [hp1, hL1, Bool.false_or] at hq; exact hq
                      rw [hD1]
                      exact fin2 _
                  | false =>
                    rw [hp1, Bool.or_eq_false_iff] at hq
                    rw [hq.1, hq.2]
                    rfl
                · rw [decide_eq_false (show ¬ ((n + 1 : Nat) : Int) < (l.length : Int) by omega), List.drop_eq_nil_of_le (by omega)]
                  rfl
              · rw [show (lang == 0) = false by simpa using hl0, if_neg (show ¬ (l[n] = 45 ∧ lang = 0) from fun h => hl0 h.2)]
                rfl
            · rw [decide_eq_false h45, if_neg (show ¬ (l[n] = 45 ∧ lang = 0) from fun h => h45 h.1)]
              rfl
    · rw [decide_eq_false (show ¬ (n : Int) < (l.length : Int) by omega), List.drop_eq_nil_of_le (by omega)]
      rfl
theorem r85 {K : Nat} (lang : Int) (ws gs : List AV) (l : List UInt8) (at' : Nat) (ts cs : List AV) (ha : at' < l.length) (hl : l.length ≤ 100000) (hK : l.length + 10 ≤ K) : run tab K 85 [scn lang ws gs l at' ts cs] = some (I ((1 + nameT lang (l.drop (at' + 1)) : Nat) : Int)) := by
  obtain ⟨K, rfl⟩ := succK (show 1 ≤ K by omega)
  have e := r81 (K := K) (by omega) lang ws gs l at' ts cs (by omega)
  have main := l85 K (by omega) lang ws gs (sb l) (at' : Int) ts cs (l.drop at') (by rw [List.length_drop]; omega) K 1 (by rw [List.length_drop]; omega) (by rw [List.length_drop]; omega)
  rw [List.drop_drop] at main
  unfold scn at *
  rw [eq85]; unfold sh85 tr85
  rw [e]
  exact main
end Go.Proofs.YtdhbhedfbdckaaaGreatDoor

/- Names, on the reference's side; comments on both sides. -/
namespace Go.Proofs.YtdhbhedfbdckaaaGreatDoor
open Go.Dam
set_option linter.unusedVariables false
set_option linter.unusedSimpArgs false
theorem getL {l : List UInt8} {n : Nat} (h : n < l.length) : (sb l)[((n : Int)).toNat]? = some l[n] := by rw [sb_get, Int.toNat_natCast, List.getElem?_eq_getElem h]
theorem wrapS {i m : Nat} (h : i ≤ 1000000) (hm : m ≤ i) : IntKind.i64.wrap ((i : Int) - (m : Int)) = ((i - m : Nat) : Int) := by
  rw [wrapI ⟨by omega, by omega⟩]
  omega
theorem chrN (b : UInt8) (n : Nat) (hn : n < 256) : ((b.toNat : Int) != (n : Int)) = !decide (b = UInt8.ofNat n) := by
  show (!((b.toNat : Int) == (n : Int))) = _
  rw [chr_eq b n hn]
/-- A text begins with p. -/
def pfx (p r : List UInt8) : Bool := decide (r.take p.length = p)
theorem r83p {K : Nat} (h : 2 ≤ K) (l p : List UInt8) : run tab K 83 [St (sb l), St (sb p)] = some (B (pfx p l)) := r83 h l p
/-- How long a comment is, its beginning left out, d more to close. -/
def blk (lang : Int) : Nat → List UInt8 → Option Nat
  | _, [] => none
  | _, [_] => none
  | d, c :: e :: r => if c = 42 ∧ e = 47 then (if d = 0 then some 2 else (blk lang (d - 1) r).map (· + 2)) else
    if c = 47 ∧ e = 42 ∧ lang = 0 then (blk lang (d + 1) r).map (· + 2) else (blk lang d (e :: r)).map (· + 1)
/-- How long a comment is that ends with its line, or with two hyphens. -/
def lnT (lang : Int) : List UInt8 → Nat
  | [] => 0
  | [c] => if c = 10 then 0 else 1
  | c :: e :: r => if c = 10 then 0 else if c = 45 ∧ e = 45 ∧ lang = 0 then 2 else lnT lang (e :: r) + 1
/-- A comment at the head: none is none; one that does not end; its length. -/
def comT (lang : Int) (r : List UInt8) : Option (Option Nat) :=
  if pfx [47, 42] r = true then some ((blk lang 0 (r.drop 2)).map (· + 2)) else
  if lang = 0 then (if pfx [45, 45] r = true then some (some (lnT lang (r.drop 2) + 2)) else none) else
  (if pfx [47, 47] r = true then some (some (lnT lang (r.drop 2) + 2)) else none)
end Go.Proofs.YtdhbhedfbdckaaaGreatDoor

/- Comments on the program's side; strings on both sides. -/
namespace Go.Proofs.YtdhbhedfbdckaaaGreatDoor
open Go.Dam
set_option linter.unusedVariables false
set_option linter.unusedSimpArgs false
theorem r77 {K : Nat} (h : 1 ≤ K) (l p : List UInt8) (hl : l.length ≤ 1000000) : run tab K 77 [St (sb l), St (sb p)] = some (I (Lib.index l p)) := by
  obtain ⟨K, rfl⟩ := succK h
  rw [show run tab (K + 1) 77 [St (sb l), St (sb p)] = extIndex [St (sb l), St (sb p)] from rfl]
  unfold extIndex
  simp only []
  rw [if_pos (by rw [sb_size, Nat.blt_eq]; omega)]
  rfl
theorem pre2 (c : UInt8) (y : List UInt8) : ([45, 45] : List UInt8).isPrefixOf (c :: y) = (decide (c = 45) && decide (y.head? = some 45)) := by
  cases y with
  | nil => simp [List.isPrefixOf]
  | cons e y =>
    simp only [List.isPrefixOf, List.head?_cons, Option.some.injEq, Bool.and_true]
    rw [show ((45 : UInt8) == c) = decide (c = 45) by rw [Bool.eq_iff_iff, beq_iff_eq, decide_eq_true_iff]; exact eq_comm, show ((45 : UInt8) == e) = decide (e = 45) by rw [Bool.eq_iff_iff, beq_iff_eq, decide_eq_true_iff]; exact eq_comm]
theorem ix_ln : ∀ x : List UInt8, Lib.index (x.take (lineLen x)) [45, 45] = -1 ∧ lnT 0 x = lineLen x ∨ ∃ i : Nat, Lib.index (x.take (lineLen x)) [45, 45] = (i : Int) ∧ lnT 0 x = i + 2
  | [] => .inl ⟨rfl, rfl⟩
  | [c] => by
    left
    unfold lineLen lnT
    by_cases h : c = 10
    · rw [if_pos h, if_pos h]
      exact ⟨rfl, rfl⟩
    · rw [if_neg h, if_neg h]
      refine ⟨?_, rfl⟩
      show Lib.index [c] [45, 45] = -1
      unfold Lib.index
      rw [pre2]
      simp [Lib.index]
  | c :: e :: r => by
    have ih := ix_ln (e :: r)
    rw [show lineLen (c :: e :: r) = if c = 10 then 0 else lineLen (e :: r) + 1 from rfl, show lnT 0 (c :: e :: r) = if c = 10 then 0 else if c = 45 ∧ e = 45 ∧ (0 : Int) = 0 then 2 else lnT 0 (e :: r) + 1 from rfl]
    by_cases h : c = 10
    · rw [if_pos h, if_pos h]
      exact .inl ⟨rfl, rfl⟩
    · rw [if_neg h, if_neg h, List.take_succ_cons]
      have hd : decide (((e :: r).take (lineLen (e :: r))).head? = some 45) = decide (e = 45) := by
        rw [show lineLen (e :: r) = if e = 10 then 0 else lineLen r + 1 from rfl]
        by_cases he : e = 10
        · rw [if_pos he, he]
          rfl
        · rw [if_neg he]
          simp
      rw [show Lib.index (c :: (e :: r).take (lineLen (e :: r))) [45, 45] = if ([45, 45] : List UInt8).isPrefixOf (c :: (e :: r).take (lineLen (e :: r))) then 0 else if Lib.index ((e :: r).take (lineLen (e :: r))) [45, 45] == -1 then -1 else Lib.index ((e :: r).take (lineLen (e :: r))) [45, 45] + 1 from rfl, pre2, hd]
      by_cases q : c = 45 ∧ e = 45
      · rw [decide_eq_true q.1, decide_eq_true q.2, if_pos (show c = 45 ∧ e = 45 ∧ (0 : Int) = 0 from ⟨q.1, q.2, rfl⟩)]
        exact .inr ⟨0, rfl, rfl⟩
      · rw [if_neg (show ¬ (c = 45 ∧ e = 45 ∧ (0 : Int) = 0) from fun h => q ⟨h.1, h.2.1⟩), if_neg (show ¬ ((decide (c = 45) && decide (e = 45)) = true) by rw [Bool.and_eq_true, decide_eq_true_iff, decide_eq_true_iff]; exact q)]
        rcases ih with ⟨h1, h2⟩ | ⟨i, h1, h2⟩
        · rw [h1, h2]
          exact .inl ⟨rfl, rfl⟩
        · rw [h1, h2]
          refine .inr ⟨i + 1, ?_, by omega⟩
          rw [if_neg (by rw [beq_iff_eq]; omega)]
          rfl
theorem ln1 : ∀ x : List UInt8, lnT 1 x = lineLen x
  | [] => rfl
  | [c] => by
    unfold lnT lineLen
    by_cases h : c = 10
    · rw [if_pos h, if_pos h]
    · rw [if_neg h, if_neg h]; rfl
  | c :: e :: r => by
    have ih := ln1 (e :: r)
    rw [show lnT 1 (c :: e :: r) = if c = 10 then 0 else if c = 45 ∧ e = 45 ∧ (1 : Int) = 0 then 2 else lnT 1 (e :: r) + 1 from rfl, if_neg (show ¬ (c = 45 ∧ e = 45 ∧ (1 : Int) = 0) from fun h => absurd h.2.2 (by decide)), ih]
    rfl
theorem lineLen2 {a b : UInt8} {r : List UInt8} (ha : a ≠ 10) (hb : b ≠ 10) : lineLen (a :: b :: r) = lineLen r + 2 := by
  rw [show lineLen (a :: b :: r) = if a = 10 then 0 else (if b = 10 then 0 else lineLen r + 1) + 1 from rfl, if_neg ha, if_neg hb]
theorem lineLen_le : ∀ x : List UInt8, lineLen x ≤ x.length
  | [] => Nat.le_refl _
  | c :: r => by
    have ih := lineLen_le r
    unfold lineLen
    rw [List.length_cons]
    split <;> omega
def comP : Option (Option Nat) → AV
  | none => .tup [I 0, I 0]
  | some none => .tup [I 0, I 39]
  | some (some m) => .tup [I (m : Int), I 0]
theorem lnT_le (lang : Int) : ∀ x : List UInt8, lnT lang x ≤ x.length
  | [] => Nat.le_refl _
  | [c] => by
    unfold lnT
    split <;> simp
  | c :: e :: r => by
    have ih := lnT_le lang (e :: r)
    have h1 : (e :: r).length = r.length + 1 := rfl
    have h2 : (c :: e :: r).length = r.length + 2 := rfl
    unfold lnT
    split
    · omega
    · split <;> omega
theorem l58_15 (K : Nat) (lang : Int) (ws gs : List AV) (y4 : ByteArray) (y5 : Int) (ts cs : List AV) (l : List UInt8) (hl : l.length ≤ 100000) : ∀ (k n d : Nat), l.length - n < k → n ≤ l.length → d ≤ n →
    lp58_15 K k lang ws gs y4 y5 ts cs (sb l) ((d + 1 : Nat) : Int) (n : Int) = some (comP (some ((blk lang d (l.drop n)).map (· + n))))
  | 0, n, d, h, _, _ => by omega
  | k + 1, n, d, h, hn, hd => by
    unfold lp58_15 tr58_15
    rw [sb_size]
    have w1 : IntKind.i64.wrap ((n : Int) + 1) = ((n + 1 : Nat) : Int) := wrapA (m := 1) (by omega) (by omega)
    have w2 : IntKind.i64.wrap ((n : Int) + 2) = ((n + 2 : Nat) : Int) := wrapA (m := 2) (by omega) (by omega)
    rw [w1, w2]
    by_cases hj : n + 1 < l.length
    · have w3 : IntKind.i64.wrap (((d + 1 : Nat) : Int) - 1) = (d : Int) := by rw [wrapI ⟨by omega, by omega⟩]; omega
      have w4 : IntKind.i64.wrap (((d + 1 : Nat) : Int) + 1) = ((d + 1 + 1 : Nat) : Int) := by rw [wrapI ⟨by omega, by omega⟩]; omega
      have t2 : (l.take (n + 2)).drop n = [l[n], l[n+1]] := by
        rw [List.drop_take, Nat.add_sub_cancel_left, List.drop_eq_getElem_cons (show n < l.length by omega), List.drop_eq_getElem_cons hj]
        rfl
      have s1 : (sb [l[n], l[n+1]] == sb [42, 47]) = (decide (l[n] = 42) && decide (l[n+1] = 47)) := by rw [sb_beq]; simp
      have s2 : (sb [l[n], l[n+1]] == sb [47, 42]) = (decide (l[n] = 47) && decide (l[n+1] = 42)) := by rw [sb_beq]; simp
      have ih1 := l58_15 K lang ws gs y4 y5 ts cs l hl k (n + 1) d (by omega) (by omega) (by omega)
      have ih2 := l58_15 K lang ws gs y4 y5 ts cs l hl k (n + 2) (d + 1) (by omega) (by omega) (by omega)
      have ih3 := l58_15 K lang ws gs y4 y5 ts cs l hl k (n + 2) (d - 1) (by omega) (by omega) (by omega)
      rw [decide_eq_true (show ((n + 1 : Nat) : Int) < (l.length : Int) by omega)]
      have e : l.drop (n + 1) = l[n+1] :: l.drop (n + 2) := List.drop_eq_getElem_cons hj
      rw [List.drop_eq_getElem_cons (show n < l.length by omega), e]
      unfold blk
      rw [e] at ih1
      have mp : ∀ (o : Option Nat) (a : Nat), ((o.map (· + a)).map (· + n)) = (o.map (· + (n + a))) := fun o a => by
        cases o with
        | none => rfl
        | some m => show some (m + a + n) = some (m + (n + a)); rw [show m + a + n = m + (n + a) by omega]
      simp only []
      rw [if_pos (show 0 ≤ (n : Int) ∧ (n : Int) ≤ ((n + 2 : Nat) : Int) ∧ ((n + 2 : Nat) : Int) ≤ (l.length : Int) from ⟨by omega, by omega, by omega⟩)]
      rw [show (⟨#[42, 47]⟩ : ByteArray) = sb [42, 47] from rfl, show (⟨#[47, 42]⟩ : ByteArray) = sb [47, 42] from rfl]
      rw [sb_extract, Int.toNat_natCast, Int.toNat_natCast, t2, s1, s2, w3, w4]
      have hd1 : (((d + 1 : Nat) : Int) == (0 : Int)) = false := by simp; omega
      have hd2 : (((d + 1 + 1 : Nat) : Int) == (0 : Int)) = false := by simp; omega
      rw [hd1, hd2]
      simp only [if_pos (show 0 ≤ (n : Int) ∧ (n : Int) ≤ ((n + 2 : Nat) : Int) ∧ ((n + 2 : Nat) : Int) ≤ (l.length : Int) from ⟨by omega, by omega, by omega⟩)]
      by_cases q1 : l[n] = 42 ∧ l[n+1] = 47
      · rw [decide_eq_true q1.1, decide_eq_true q1.2, if_pos q1]
        cases d with
        | zero =>
          show some (AV.tup [I ((n + 2 : Nat) : Int), _]) = some (AV.tup [I ((2 + n : Nat) : Int), _])
          rw [Nat.add_comm n 2]
        | succ d =>
          rw [show (((d + 1 : Nat) : Int) == (0 : Int)) = false by simp; omega, if_neg (by omega), mp]
          exact ih3
      · have q1' : (decide (l[n] = 42) && decide (l[n+1] = 47)) = false := by simpa using q1
        rw [q1', if_neg q1]
        by_cases q2 : l[n] = 47 ∧ l[n+1] = 42
        · rw [decide_eq_true q2.1, decide_eq_true q2.2]
          by_cases hl0 : lang = 0
          · rw [show (lang == 0) = true by simpa using hl0, if_pos ⟨q2.1, q2.2, hl0⟩, mp]
            exact ih2
          · rw [show (lang == 0) = false by simpa using hl0, if_neg (fun h => hl0 h.2.2), mp]
            exact ih1
        · have q2' : (decide (l[n] = 47) && decide (l[n+1] = 42)) = false := by simpa using q2
          rw [q2', if_neg (fun h => q2 ⟨h.1, h.2.1⟩), mp]
          exact ih1
    · rw [decide_eq_false (show ¬ ((n + 1 : Nat) : Int) < (l.length : Int) by omega)]
      have : blk lang d (l.drop n) = none := by
        by_cases hi : n < l.length
        · rw [List.drop_eq_getElem_cons hi, List.drop_eq_nil_of_le (show l.length ≤ n + 1 by omega)]
          rfl
        · rw [List.drop_eq_nil_of_le (show l.length ≤ n by omega)]
          rfl
      rw [this]
      rfl
theorem pfx2_drop {r : List UInt8} {a b : UInt8} (h : pfx [a, b] r = true) : r = a :: b :: r.drop 2 := by
  have h : r.take 2 = [a, b] := by simpa [pfx] using h
  have := List.take_append_drop 2 r
  rw [h] at this
  exact this.symm
theorem r58 {K : Nat} (lang : Int) (ws gs : List AV) (l : List UInt8) (at' : Nat) (ts cs : List AV) (hlang : lang = 0 ∨ lang = 1) (ha : at' < l.length) (hl : l.length ≤ 100000) (hK : l.length + 10 ≤ K) : run tab K 58 [scn lang ws gs l at' ts cs] = some (comP (comT lang (l.drop at'))) := by
  obtain ⟨K, rfl⟩ := succK (show 1 ≤ K by omega)
  have e := r81 (K := K) (by omega) lang ws gs l at' ts cs (by omega)
  have hlr : (l.drop at').length ≤ l.length := by rw [List.length_drop]; omega
  have main := l58_15 K lang ws gs (sb l) (at' : Int) ts cs (l.drop at') (by omega)
  generalize l.drop at' = r at *
  have e1 := r83p (K := K) (by omega) r [45, 45]
  have e2 := r83p (K := K) (by omega) r [47, 47]
  have e3 := r83p (K := K) (by omega) r [47, 42]
  have e4 := r82 (K := K) (by omega) r
  unfold scn at *
  rw [eq58]; unfold sh58 tr58
  rw [show (⟨#[45, 45]⟩ : ByteArray) = sb [45, 45] from rfl, show (⟨#[47, 42]⟩ : ByteArray) = sb [47, 42] from rfl, show (⟨#[47, 47]⟩ : ByteArray) = sb [47, 47] from rfl]
  rw [e]
  simp only [castS_S, e1, e2, e3, e4, castB_B, castI_I]
  have blkK : pfx [47, 42] r = true → lp58_15 K K lang ws gs (sb l) (at' : Int) ts cs (sb r) (1 : Int) (2 : Int) = some (comP (some ((blk lang 0 (r.drop 2)).map (· + 2)))) := fun h => by
    have h2 : 2 ≤ r.length := by rw [pfx2_drop h]; simp
    exact main K 2 0 (by omega) h2 (by omega)
  have tail : pfx [45, 45] r = false ∨ lang ≠ 0 → pfx [47, 47] r = false ∨ lang ≠ 1 → (match (!pfx [47, 42] r) with | true => some (AV.tup [I 0, I 0]) | false => lp58_15 K K lang ws gs (sb l) (at' : Int) ts cs (sb r) (1 : Int) (2 : Int)) = some (comP (comT lang r)) := fun g1 g2 => by
    unfold comT
    cases q : pfx [47, 42] r with
    | true => exact blkK q
    | false =>
      rcases hlang with h | h
      · have g := g1.resolve_right (fun hh => hh h)
        simp [h, g, comP]
      · have g := g2.resolve_right (fun hh => hh h)
        simp [h, g, comP]
  rcases hlang with h | h
  · subst h
    simp only [show ((0 : Int) == 0) = true from rfl, show ((0 : Int) == 1) = false from rfl]
    cases q : pfx [45, 45] r with
    | true =>
      obtain ⟨x, hx⟩ : ∃ x, r = 45 :: 45 :: x := ⟨_, pfx2_drop q⟩
      have hle := lineLen_le x
      have hll : lineLen r = lineLen x + 2 := by rw [hx]; exact lineLen2 (by decide) (by decide)
      have hxl : r.length = x.length + 2 := by rw [hx]; rfl
      simp only []
      rw [sb_size, hll, if_pos ⟨by omega, by omega, by omega⟩, sb_extract, sb_size]
      have e5 : List.drop (0 : Int).toNat (List.take ((lineLen x + 2 : Nat) : Int).toNat r) = 45 :: 45 :: x.take (lineLen x) := by
        rw [Int.toNat_natCast, hx]
        rfl
      rw [e5, if_pos ⟨by omega, by simp only [List.length_cons]; omega, by omega⟩, sb_extract]
      have e6 : List.drop (2 : Int).toNat (List.take (((45 :: 45 :: x.take (lineLen x) : List UInt8).length : Int)).toNat (45 :: 45 :: x.take (lineLen x))) = x.take (lineLen x) := by
        rw [Int.toNat_natCast, List.take_length]
        rfl
      have hlt : (x.take (lineLen x)).length = lineLen x := by rw [List.length_take]; omega
      rw [e6, r77 (by omega) _ _ (by omega)]
      simp only [castI_I]
      have hc : comT 0 r = some (some (lnT 0 x + 2)) := by
        unfold comT
        have : pfx [47, 42] r = false := by rw [hx]; rfl
        rw [this, q, hx]
        rfl
      rw [hc]
      rcases ix_ln x with ⟨h1, h2⟩ | ⟨i, h1, h2⟩
      · rw [h1, h2, show decide ((-1 : Int) ≥ 0) = false from rfl]
        simp only [List.length_cons, hlt]
        rfl
      · have hi : i + 2 ≤ x.length := by
          have := lnT_le 0 x
          omega
        rw [h1, h2, decide_eq_true (show (i : Int) ≥ 0 by omega)]
        simp only []
        rw [wrapI ⟨by omega, by omega⟩]
        rfl
    | false => exact tail (.inl q) (.inr (by decide))
  · subst h
    simp only [show ((1 : Int) == 0) = false from rfl, show ((1 : Int) == 1) = true from rfl]
    cases q : pfx [47, 47] r with
    | true =>
      obtain ⟨x, hx⟩ : ∃ x, r = 47 :: 47 :: x := ⟨_, pfx2_drop q⟩
      have hll : lineLen r = lineLen x + 2 := by rw [hx]; exact lineLen2 (by decide) (by decide)
      have hc : comT 1 r = some (some (lnT 1 x + 2)) := by
        unfold comT
        have : pfx [47, 42] r = false := by rw [hx]; rfl
        rw [this, q, hx]
        rfl
      rw [hc, hll, ln1]
      rfl
    | false => exact tail (.inr (by decide)) (.inl q)
end Go.Proofs.YtdhbhedfbdckaaaGreatDoor

/- Strings, numbers on both sides. -/
namespace Go.Proofs.YtdhbhedfbdckaaaGreatDoor
open Go.Dam
set_option linter.unusedVariables false
set_option linter.unusedSimpArgs false
/-- What begins at a place: an error, a comment, a token with its kind; with their lengths. -/
inductive Pc where
  | err (e : Int)
  | com (n : Nat)
  | tok (k : Int) (n : Nat)
def tok2 : Pc → AV
  | .err e => .tup [I 0, I e]
  | .com n => .tup [I (n : Int), I 0]
  | .tok _ n => .tup [I (n : Int), I 0]
def tok3 : Pc → AV
  | .err e => .tup [I 0, I 0, I e]
  | .com n => .tup [I 0, I (n : Int), I 0]
  | .tok k n => .tup [I k, I (n : Int), I 0]
def qT : List UInt8 → Option Nat
  | [] => none
  | [c] => if c = 34 then some 1 else none
  | c :: e :: r => if c = 10 ∨ c = 9 then none else if c = 34 then (if e = 34 then (qT r).map (· + 2) else some 1) else (qT (e :: r)).map (· + 1)
def quT (r : List UInt8) : Pc := match qT (r.drop 1) with
  | none => .err 39
  | some m => if m + 1 > 202 then .err 2 else .tok 3 (m + 1)
def quE (n : Nat) : Option Nat → Pc
  | none => .err 39
  | some m => if n + m > 202 then .err 2 else .tok 3 (n + m)
theorem quE_map (n a : Nat) (o : Option Nat) : quE n (o.map (· + a)) = quE (n + a) o := by
  cases o with
  | none => rfl
  | some m => show (if n + (m + a) > 202 then _ else _) = _; rw [show n + (m + a) = n + a + m by omega]; rfl
theorem l89 (K : Nat) (l : List UInt8) (hl : l.length ≤ 100000) : ∀ (k n : Nat), l.length - n < k → 1 ≤ n → n ≤ l.length →
    lp89_3 K k (sb l) (n : Int) = some (tok2 (quE n (qT (l.drop n))))
  | 0, n, h, _, _ => by omega
  | k + 1, n, h, h1, hn => by
    unfold lp89_3 tr89_3
    rw [sb_size]
    by_cases hi : n < l.length
    · have w1 : IntKind.i64.wrap ((n : Int) + 1) = ((n + 1 : Nat) : Int) := wrapA (m := 1) (by omega) (by omega)
      have w1' : IntKind.i64.wrap (((n + 1 : Nat) : Int) + 1) = ((n + 1 + 1 : Nat) : Int) := wrapA (m := 1) (by omega) (by omega)
      have w2 : IntKind.i64.wrap ((n : Int) - 1) = ((n - 1 : Nat) : Int) := wrapS (m := 1) (by omega) (by omega)
      have g0 := getL hi
      have c10 : ((l[n].toNat : Int) == (10 : Int)) = decide (l[n] = 10) := chr_eq l[n] 10 (by omega)
      have c9 : ((l[n].toNat : Int) == (9 : Int)) = decide (l[n] = 9) := chr_eq l[n] 9 (by omega)
      have c34 : ((l[n].toNat : Int) != (34 : Int)) = !decide (l[n] = 34) := chrN l[n] 34 (by omega)
      rw [decide_eq_true (show (n : Int) < (l.length : Int) by omega)]
      simp only [if_pos (Int.natCast_nonneg n), if_pos (Int.natCast_nonneg (n+1)), g0, w1, w1', w2, c10, c9, c34]
      rw [List.drop_eq_getElem_cons hi]
      have big : decide (((n - 1 : Nat) : Int) > 200) = decide (n + 1 > 202) := by rw [Bool.eq_iff_iff, decide_eq_true_iff, decide_eq_true_iff]; omega
      rw [big]
      have fin : (match decide (n + 1 > 202) with | true => some (AV.tup [I 0, I 2]) | false => some (AV.tup [I ((n + 1 : Nat) : Int), I 0])) = some (tok2 (quE n (some 1))) := by
        unfold quE
        by_cases hb : n + 1 > 202
        · rw [decide_eq_true hb]; simp only []; rw [if_pos hb]; rfl
        · rw [decide_eq_false hb]; simp only []; rw [if_neg hb]; rfl
      by_cases hj : n + 1 < l.length
      · have g1 := getL hj
        have d34 : ((l[n+1].toNat : Int) == (34 : Int)) = decide (l[n+1] = 34) := chr_eq l[n+1] 34 (by omega)
        have ih1 := l89 K l hl k (n + 1) (by omega) (by omega) (by omega)
        have ih2 := l89 K l hl k (n + 1 + 1) (by omega) (by omega) (by omega)
        rw [decide_eq_true (show ((n + 1 : Nat) : Int) < (l.length : Int) by omega)]
        simp only [g1, d34]
        have e : l.drop (n + 1) = l[n+1] :: l.drop (n + 1 + 1) := List.drop_eq_getElem_cons hj
        rw [e] at ih1 ⊢
        conv => rhs; unfold qT
        by_cases h10 : l[n] = 10
        · rw [decide_eq_true h10, if_pos (.inl h10)]; rfl
        · rw [decide_eq_false h10]
          by_cases h9 : l[n] = 9
          · rw [decide_eq_true h9, if_pos (.inr h9)]; rfl
          · rw [decide_eq_false h9, if_neg (fun h => h.elim h10 h9)]
            by_cases h34 : l[n] = 34
            · rw [decide_eq_true h34, if_pos h34]
              by_cases h34' : l[n+1] = 34
              · rw [decide_eq_true h34', if_pos h34', quE_map]
                exact ih2
              · rw [decide_eq_false h34', if_neg h34']
                exact fin
            · rw [decide_eq_false h34, if_neg h34, quE_map]
              exact ih1
      · have ih1 := l89 K l hl k (n + 1) (by omega) (by omega) (by omega)
        have e : l.drop (n + 1) = [] := List.drop_eq_nil_of_le (by omega)
        rw [e] at ih1 ⊢
        rw [decide_eq_false (show ¬ ((n + 1 : Nat) : Int) < (l.length : Int) by omega)]
        conv => rhs; unfold qT
        by_cases h34 : l[n] = 34
        · have h10 : ¬ l[n] = 10 := by rw [h34]; decide
          have h9 : ¬ l[n] = 9 := by rw [h34]; decide
          rw [decide_eq_true h34, decide_eq_false h10, decide_eq_false h9, if_pos h34]
          exact fin
        · rw [decide_eq_false h34, if_neg h34, ih1]
          cases decide (l[n] = 10) <;> cases decide (l[n] = 9) <;> rfl
    · rw [decide_eq_false (show ¬ (n : Int) < (l.length : Int) by omega), List.drop_eq_nil_of_le (by omega)]
      rfl
theorem r89 {K : Nat} (lang : Int) (ws gs : List AV) (l : List UInt8) (at' : Nat) (ts cs : List AV) (ha : at' < l.length) (hl : l.length ≤ 100000) (hK : l.length + 10 ≤ K) : run tab K 89 [scn lang ws gs l at' ts cs] = some (tok2 (quT (l.drop at'))) := by
  obtain ⟨K, rfl⟩ := succK (show 1 ≤ K by omega)
  have e := r81 (K := K) (by omega) lang ws gs l at' ts cs (by omega)
  have hlr : (l.drop at').length ≤ l.length := by rw [List.length_drop]; omega
  have hlp : 1 ≤ (l.drop at').length := by rw [List.length_drop]; omega
  generalize l.drop at' = r at *
  have main := l89 K r (by omega) K 1 (by omega) (by omega) hlp
  unfold scn at *
  rw [eq89]; unfold sh89 tr89
  rw [e]
  refine main.trans ?_
  unfold quT quE
  cases qT (r.drop 1) with
  | none => rfl
  | some m => simp only [Nat.add_comm 1 m]
end Go.Proofs.YtdhbhedfbdckaaaGreatDoor

/- Numbers on both sides. -/
namespace Go.Proofs.YtdhbhedfbdckaaaGreatDoor
open Go.Dam
set_option linter.unusedVariables false
set_option linter.unusedSimpArgs false
def dlen : List UInt8 → Nat
  | [] => 0
  | c :: r => if isD c = true then dlen r + 1 else 0
def val (a : Nat) : List UInt8 → Nat
  | [] => a
  | c :: r => val (a * 10 + (c.toNat - 48)) r
def numT (r : List UInt8) : Pc :=
  if 1 < dlen r ∧ r.head? = some 48 then .err 8 else if 1152921504606846976 < val 0 (r.take (dlen r)) then .err 3 else .tok 2 (dlen r)
theorem dlen_cons (c : UInt8) (r : List UInt8) : dlen (c :: r) = if isD c = true then dlen r + 1 else 0 := rfl
theorem dlen_le : ∀ r : List UInt8, dlen r ≤ r.length
  | [] => Nat.le_refl _
  | c :: r => by
    have := dlen_le r
    unfold dlen
    rw [List.length_cons]
    split <;> omega
theorem val_ge : ∀ (r : List UInt8) (a : Nat), a ≤ val a r
  | [], a => Nat.le_refl _
  | c :: r, a => by
    have := val_ge r (a * 10 + (c.toNat - 48))
    show a ≤ val _ r
    omega
theorem isD_rng {c : UInt8} (h : isD c = true) : 48 ≤ c.toNat ∧ c.toNat ≤ 57 := by
  unfold isD inR at h
  simpa using h
theorem pu10 : ∀ (r : List UInt8) (a : Nat), (∀ c ∈ r, isD c = true) → Lib.parseUint10 a r = if a < 18446744073709551616 ∧ val a r < 18446744073709551616 then .ok (val a r) else if a < 18446744073709551616 then .range else Lib.parseUint10 a r
  | [], a, _ => by
    unfold Lib.parseUint10 val
    split
    · rfl
    · split
      · rename_i h1 h2; exact absurd ⟨h2, h2⟩ h1
      · rfl
  | c :: r, a, h => by
    have hc := isD_rng (h c (by simp))
    have ih := pu10 r (a * 10 + (c.toNat - 48)) (fun x hx => h x (by simp [hx]))
    have hg := val_ge r (a * 10 + (c.toNat - 48))
    by_cases ha : a < 18446744073709551616
    · rw [show val a (c :: r) = val (a * 10 + (c.toNat - 48)) r from rfl]
      conv => lhs; unfold Lib.parseUint10
      rw [if_pos hc]
      by_cases h1 : 1844674407370955162 ≤ a
      · rw [if_pos h1, if_neg (by omega), if_pos ha]
      · rw [if_neg h1]
        by_cases h2 : 18446744073709551616 ≤ a * 10 + (c.toNat - 48)
        · rw [if_pos h2, if_neg (by omega), if_pos ha]
        · rw [if_neg h2, ih]
          by_cases h3 : val (a * 10 + (c.toNat - 48)) r < 18446744073709551616
          · rw [if_pos ⟨by omega, h3⟩, if_pos ⟨ha, h3⟩]
          · rw [if_neg (fun h => h3 h.2), if_pos (by omega), if_neg (fun h => h3 h.2), if_pos ha]
    · rw [if_neg (fun h => ha h.1), if_neg ha]
theorem dlen_take : ∀ r : List UInt8, ∀ c ∈ r.take (dlen r), isD c = true
  | [], c, h => by simp at h
  | b :: r, c, h => by
    unfold dlen at h
    by_cases hb : isD b = true
    · rw [if_pos hb, List.take_succ_cons] at h
      rcases List.mem_cons.1 h with h | h
      · rw [h]; exact hb
      · exact dlen_take r c h
    · rw [if_neg hb] at h
      simp at h
theorem atoi_num {r : List UInt8} {c : UInt8} {x : List UInt8} (hr : r.take (dlen r) = c :: x) (hc : isD c = true) : Lib.atoiAll (r.take (dlen r)) = if val 0 (r.take (dlen r)) < 9223372036854775808 then .ok (val 0 (r.take (dlen r)) : Int) else .range := by
  have hd := isD_rng hc
  have hp := pu10 (r.take (dlen r)) 0 (dlen_take r)
  rw [hr] at hp ⊢
  unfold Lib.atoiAll
  simp only []
  rw [if_neg (by omega)]
  unfold Lib.parseMag
  rw [if_neg (by simp), hp]
  by_cases h1 : val 0 (c :: x) < 18446744073709551616
  · rw [if_pos ⟨by omega, h1⟩]
    simp only []
    by_cases h2 : val 0 (c :: x) < 9223372036854775808
    · rw [if_neg (by omega), if_neg (by omega), if_neg (by omega), if_pos h2]
    · rw [if_pos ⟨by omega, by omega⟩, if_neg h2]
  · rw [if_neg (fun h => h1 h.2), if_pos (by omega), if_neg (by omega)]
theorem r106 {K : Nat} (h : 1 ≤ K) (l : List UInt8) (hl : l.length ≤ 1000000) : run tab K 106 [St (sb l)] = match Lib.atoiAll l with
    | .ok v => some (.tup [I v, .sc .nilIface])
    | .range => some (.tup [I (Lib.atoiSat l), .er])
    | _ => some (.tup [I 0, .er]) := by
  obtain ⟨K, rfl⟩ := succK h
  rw [show run tab (K + 1) 106 [St (sb l)] = extAtoiE [St (sb l)] from rfl]
  unfold extAtoiE
  simp only []
  rw [if_pos (by rw [sb_size, Nat.ble_eq]; omega)]
  rfl
theorem dlen_drop : ∀ (r : List UInt8) (n : Nat), n ≤ dlen r → dlen r = n + dlen (r.drop n)
  | r, 0, _ => by simp
  | [], n + 1, h => by simp [dlen] at h
  | c :: r, n + 1, h => by
    rw [dlen_cons] at h ⊢
    by_cases hc : isD c = true
    · rw [if_pos hc] at h ⊢
      have := dlen_drop r n (by omega)
      rw [List.drop_succ_cons]
      omega
    · rw [if_neg hc] at h
      omega
theorem fin88 (K : Nat) (hK : 1 ≤ K) (r : List UInt8) (c : UInt8) (x : List UInt8) (hr : r = c :: x) (hc : isD c = true) (hl : r.length ≤ 100000) (n : Nat) (hn : n = dlen r) :
    (match decide ((n : Int) > (1 : Int)) with | true => (if 0 ≤ (0 : Int) then (match (sb r)[(0 : Int).toNat]? with | some c590 => (match ((c590.toNat : Int) == (48 : Int)) with | true => (some (.tup [I 0, I 8])) | false => (if 0 ≤ (0 : Int) ∧ (0 : Int) ≤ (n : Int) ∧ (n : Int) ≤ (sb r).size then (match run tab K 106 [St ((sb r).extract (0 : Int).toNat (n : Int).toNat)] with | some r591 => (castI .i64 (compN r591 0) fun n592 => castP (compN r591 1) fun q593 => castErr q593 fun b594 => match (!b594) with | true => (some (.tup [I 0, I 3])) | false => (match decide (n592 > (1152921504606846976 : Int)) with | true => (some (.tup [I 0, I 3])) | false => (some (.tup [I (n : Int), I 0])))) | none => none) else none)) | none => none) else none) | false => (if 0 ≤ (0 : Int) ∧ (0 : Int) ≤ (n : Int) ∧ (n : Int) ≤ (sb r).size then (match run tab K 106 [St ((sb r).extract (0 : Int).toNat (n : Int).toNat)] with | some r595 => (castI .i64 (compN r595 0) fun n596 => castP (compN r595 1) fun q597 => castErr q597 fun b598 => match (!b598) with | true => (some (.tup [I 0, I 3])) | false => (match decide (n596 > (1152921504606846976 : Int)) with | true => (some (.tup [I 0, I 3])) | false => (some (.tup [I (n : Int), I 0])))) | none => none) else none)) = some (tok2 (numT r)) := by
  have hnl := dlen_le r
  have hd1 : dlen r = dlen x + 1 := by rw [hr, dlen_cons, if_pos hc]
  have ht : r.take (dlen r) = c :: x.take (dlen x) := by rw [hd1, hr]; rfl
  have ha := atoi_num ht hc
  have g0 : (sb r)[(0 : Int).toNat]? = some c := by rw [sb_get, hr]; rfl
  have c48 : ((c.toNat : Int) == (48 : Int)) = decide (c = 48) := chr_eq c 48 (by omega)
  rw [sb_extract, show (0 : Int).toNat = 0 from rfl, Int.toNat_natCast, List.drop_zero, hn, r106 hK _ (by rw [List.length_take]; omega), ha]
  rw [sb_get, show r[0]? = some c by rw [hr]; rfl]
  simp only [if_pos (show (0 : Int) ≤ 0 from Int.le_refl 0), c48, sb_size]
  simp only [Int.le_refl, show (0 : Int) ≤ (dlen r : Int) from by omega, show (dlen r : Int) ≤ (r.length : Int) from by omega, and_self, if_true]
  unfold numT
  have hd : (1 < dlen r ∧ r.head? = some 48) ↔ (1 < dlen r ∧ c = 48) := by rw [hr]; simp
  by_cases h1 : val 0 (r.take (dlen r)) < 9223372036854775808
  · simp only [if_pos h1]
    have go : castI .i64 (compN (AV.tup [I (val 0 (r.take (dlen r)) : Int), .sc .nilIface]) 0) (fun n596 => castP (compN (AV.tup [I (val 0 (r.take (dlen r)) : Int), .sc .nilIface]) 1) fun q597 => castErr q597 fun b598 => match (!b598) with | true => (some (AV.tup [I 0, I 3])) | false => (match decide (n596 > (1152921504606846976 : Int)) with | true => (some (.tup [I 0, I 3])) | false => (some (.tup [I (dlen r : Int), I 0])))) = some (tok2 (if 1152921504606846976 < val 0 (r.take (dlen r)) then .err 3 else .tok 2 (dlen r))) := by
      show (match decide (((val 0 (r.take (dlen r)) : Nat) : Int) > (1152921504606846976 : Int)) with | true => _ | false => _) = _
      by_cases h2 : 1152921504606846976 < val 0 (r.take (dlen r))
      · rw [decide_eq_true (show ((val 0 (r.take (dlen r)) : Nat) : Int) > 1152921504606846976 by omega), if_pos h2]; rfl
      · rw [decide_eq_false (show ¬ ((val 0 (r.take (dlen r)) : Nat) : Int) > 1152921504606846976 by omega), if_neg h2]; rfl
    by_cases h2 : 1 < dlen r
    · rw [decide_eq_true (show (dlen r : Int) > 1 by omega)]
      by_cases h48 : c = 48
      · rw [decide_eq_true h48, if_pos (hd.2 ⟨h2, h48⟩)]
        rfl
      · rw [decide_eq_false h48, if_neg (fun h => h48 (hd.1 h).2)]
        exact go
    · rw [decide_eq_false (show ¬ (dlen r : Int) > 1 by omega), if_neg (fun h => h2 h.1)]
      exact go
  · simp only [if_neg h1]
    rw [if_pos (show 1152921504606846976 < val 0 (r.take (dlen r)) by omega)]
    by_cases h2 : 1 < dlen r
    · rw [decide_eq_true (show (dlen r : Int) > 1 by omega)]
      by_cases h48 : c = 48
      · rw [decide_eq_true h48, if_pos (hd.2 ⟨h2, h48⟩)]
        rfl
      · rw [decide_eq_false h48, if_neg (fun h => h48 (hd.1 h).2)]
        rfl
    · rw [decide_eq_false (show ¬ (dlen r : Int) > 1 by omega), if_neg (fun h => h2 h.1)]
      rfl
theorem l88 (K : Nat) (hK : 1 ≤ K) (r : List UInt8) (c : UInt8) (x : List UInt8) (hr : r = c :: x) (hc : isD c = true) (hl : r.length ≤ 100000) : ∀ (k n : Nat), r.length - n < k → n ≤ dlen r →
    lp88_3 K k (sb r) (n : Int) = some (tok2 (numT r))
  | 0, n, h, _ => by omega
  | k + 1, n, h, hn => by
    have hle := dlen_le r
    have hdd := dlen_drop r n hn
    unfold lp88_3 tr88_3
    by_cases hi : n < r.length
    · have e87 := r87 (K := K) (by omega) r[n]
      unfold u8 at e87
      have w1 : IntKind.i64.wrap ((n : Int) + 1) = ((n + 1 : Nat) : Int) := wrapA (m := 1) (by omega) (by omega)
      rw [List.drop_eq_getElem_cons hi] at hdd
      rw [decide_eq_true (show (n : Int) < ((sb r).size : Int) by rw [sb_size]; omega)]
      simp only [if_pos (Int.natCast_nonneg n), getL hi, e87, castB_B, w1]
      rw [dlen_cons] at hdd
      cases hD : isD r[n] with
      | true =>
        rw [hD, if_pos rfl] at hdd
        simp only []
        exact l88 K hK r c x hr hc hl k (n + 1) (by omega) (by omega)
      | false =>
        rw [hD, if_neg (by decide)] at hdd
        exact fin88 K hK r c x hr hc hl n (by omega)
    · rw [decide_eq_false (show ¬ (n : Int) < ((sb r).size : Int) by rw [sb_size]; omega)]
      rw [List.drop_eq_nil_of_le (by omega)] at hdd
      exact fin88 K hK r c x hr hc hl n (by simpa [dlen] using hdd.symm)
theorem r88 {K : Nat} (lang : Int) (ws gs : List AV) (l : List UInt8) (at' : Nat) (ts cs : List AV) (ha : at' < l.length) (hD : isD l[at'] = true) (hl : l.length ≤ 100000) (hK : l.length + 10 ≤ K) : run tab K 88 [scn lang ws gs l at' ts cs] = some (tok2 (numT (l.drop at'))) := by
  obtain ⟨K, rfl⟩ := succK (show 1 ≤ K by omega)
  have e := r81 (K := K) (by omega) lang ws gs l at' ts cs (by omega)
  have hlr : (l.drop at').length ≤ l.length := by rw [List.length_drop]; omega
  have hx := List.drop_eq_getElem_cons ha
  have main := l88 K (by omega) (l.drop at') l[at'] _ hx hD (by omega) K 1 (by omega) (by rw [hx, dlen_cons, if_pos hD]; omega)
  unfold scn at *
  rw [eq88]; unfold sh88 tr88
  rw [e]
  exact main
end Go.Proofs.YtdhbhedfbdckaaaGreatDoor
