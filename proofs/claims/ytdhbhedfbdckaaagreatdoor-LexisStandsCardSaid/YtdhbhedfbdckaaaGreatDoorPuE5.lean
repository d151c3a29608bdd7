/- A part of an interpreter of the model's code that is proved sound, and of laws told by it: DamX9, DamX10. -/
import Derived.Test.YtdhbhedfbdckaaaGreatDoorPuE4
set_option linter.unusedVariables false
set_option linter.unusedSimpArgs false
/- Bits and octets on the program's side; symbols; search of words. -/
namespace Go.Proofs.YtdhbhedfbdckaaaGreatDoor
open Go.Dam
set_option linter.unusedVariables false
set_option linter.unusedSimpArgs false
theorem asciiL_sub {l m : List UInt8} (h : asciiL l = true) (hs : ∀ c ∈ m, c ∈ l) : asciiL m = true := by
  unfold asciiL at *
  rw [List.all_eq_true] at *
  exact fun c hc => h c (hs c hc)
theorem r107 {K : Nat} (h : 1 ≤ K) (l p : List UInt8) (hl : l.length ≤ 1000000) (hp : p.length ≤ 1000000) (ha : asciiL l = true) (hb : asciiL p = true) : run tab K 107 [St (sb l), St (sb p)] = some (I (Lib.indexAny l p)) := by
  obtain ⟨K, rfl⟩ := succK h
  rw [show run tab (K + 1) 107 [St (sb l), St (sb p)] = extIxAny [St (sb l), St (sb p)] from rfl]
  unfold extIxAny
  simp only []
  rw [if_pos (by
    rw [sb_size, sb_size]
    show (Nat.blt l.length 4294967281 && (Nat.blt p.length 4294967281 && (asciiL l && asciiL p))) = true
    rw [ha, hb, Bool.and_eq_true, Bool.and_eq_true, Nat.blt_eq, Nat.blt_eq]
    exact ⟨by omega, by omega, rfl⟩)]
  rfl
theorem r108 {K : Nat} (h : 1 ≤ K) (l p : List UInt8) (hl : l.length ≤ 1000000) (hp : p.length ≤ 1000000) (hb : asciiL p = true) : run tab K 108 [St (sb l), St (sb p)] = some (St (sb (Lib.trimS l p))) := by
  obtain ⟨K, rfl⟩ := succK h
  rw [show run tab (K + 1) 108 [St (sb l), St (sb p)] = extTrim [St (sb l), St (sb p)] from rfl]
  unfold extTrim
  simp only []
  rw [if_pos (by
    rw [sb_size, sb_size]
    show (Nat.ble l.length 9223372036854775807 && (Nat.blt p.length 4294967281 && asciiL p)) = true
    rw [hb, Bool.and_eq_true, Bool.and_eq_true, Nat.ble_eq, Nat.blt_eq]
    exact ⟨by omega, by omega, rfl⟩)]
  rfl
theorem dropWhile_nil {p : UInt8 → Bool} : ∀ {l : List UInt8}, l.dropWhile p = [] ↔ l.all p = true
  | [] => by simp
  | c :: l => by
    rw [List.dropWhile_cons, List.all_cons]
    by_cases h : p c = true
    · rw [if_pos h, h, Bool.true_and]
      exact dropWhile_nil
    · rw [if_neg h]
      simp [h]
theorem trim_nil (l p : List UInt8) : Lib.trimS l p = [] ↔ l.all (p.contains ·) = true := by
  unfold Lib.trimS Lib.trimLeftS Lib.trimRightS
  rw [dropWhile_nil]
  constructor
  · intro h
    by_cases hd : l.reverse.dropWhile (p.contains ·) = []
    · have := dropWhile_nil.1 hd
      rw [List.all_eq_true] at this ⊢
      exact fun c hc => this c (by simpa using hc)
    · rw [List.all_eq_true] at h
      have hm : (l.reverse.dropWhile (p.contains ·)).head hd ∈ (l.reverse.dropWhile (p.contains ·)).reverse := by simp
      have h1 := h _ hm
      have h2 := List.head_dropWhile_not (p.contains ·) hd
      rw [h2] at h1
      cases h1
  · intro h
    have : l.reverse.dropWhile (p.contains ·) = [] := dropWhile_nil.2 (by
      rw [List.all_eq_true] at h ⊢
      exact fun c hc => h c (by simpa using hc))
    rw [this]
    rfl
theorem trimB (l p : List UInt8) : (sb (Lib.trimS l p) == (⟨#[]⟩ : ByteArray)) = l.all (p.contains ·) := by
  show (sb (Lib.trimS l p) == sb []) = _
  rw [sb_beq, Bool.eq_iff_iff, decide_eq_true_iff]
  exact trim_nil l p
set_option maxRecDepth 100000 in
theorem cont_dec : ∀ n : Fin 256, ([48, 49, 50, 51, 52, 53, 54, 55, 56, 57, 65, 66, 67, 68, 69, 70] : List UInt8).contains (UInt8.ofNat n) = isHx (UInt8.ofNat n) ∧ ([48, 49] : List UInt8).contains (UInt8.ofNat n) = is01 (UInt8.ofNat n) := by decide
theorem cont_u8 (c : UInt8) : ([48, 49, 50, 51, 52, 53, 54, 55, 56, 57, 65, 66, 67, 68, 69, 70] : List UInt8).contains c = isHx c ∧ ([48, 49] : List UInt8).contains c = is01 c := by
  have := cont_dec ⟨c.toNat, c.toNat_lt⟩
  simpa using this
theorem all_hx (l : List UInt8) : l.all (([48, 49, 50, 51, 52, 53, 54, 55, 56, 57, 65, 66, 67, 68, 69, 70] : List UInt8).contains ·) = l.all isHx := by
  congr 1; funext c; exact (cont_u8 c).1
theorem all_01 (l : List UInt8) : l.all (([48, 49] : List UInt8).contains ·) = l.all is01 := by
  congr 1; funext c; exact (cont_u8 c).2
theorem dgE_ix (lang : Int) : ∀ (x : List UInt8) (m : Nat) (b h : Bool), (Lib.indexAny x [39, 9, 10] = -1 ∧ dgE lang m b h x = .err 39) ∨
    ∃ (i : Nat) (c : UInt8), Lib.indexAny x [39, 9, 10] = (i : Int) ∧ x[i]? = some c ∧ (c = 39 ∨ c = 9 ∨ c = 10) ∧ dgE lang m b h x = if c = 39 then dgF lang (m + i) (b && (x.take i).all is01) (h && (x.take i).all isHx) (x.drop (i + 1)) else .err 39
  | [], m, b, h => .inl ⟨rfl, rfl⟩
  | c :: x, m, b, h => by
    rw [show Lib.indexAny (c :: x) [39, 9, 10] = if ([39, 9, 10] : List UInt8).contains c then 0 else if Lib.indexAny x [39, 9, 10] == -1 then -1 else Lib.indexAny x [39, 9, 10] + 1 from rfl]
    rw [show dgE lang m b h (c :: x) = if c = 39 then dgF lang m b h x else if c = 10 ∨ c = 9 then .err 39 else dgE lang (m + 1) (b && is01 c) (h && isHx c) x from rfl]
    by_cases hc : c = 39 ∨ c = 9 ∨ c = 10
    · right
      refine ⟨0, c, ?_, rfl, hc, ?_⟩
      · rw [if_pos (show ([39, 9, 10] : List UInt8).contains c = true by rcases hc with h | h | h <;> rw [h] <;> rfl)]
        rfl
      · by_cases h39 : c = 39
        · rw [if_pos h39, if_pos h39]
          simp
        · rw [if_neg h39, if_neg h39, if_pos (by rcases hc with h | h | h; exact absurd h h39; exact .inr h; exact .inl h)]
    · have n39 : c ≠ 39 := fun h => hc (.inl h)
      have n9 : c ≠ 9 := fun h => hc (.inr (.inl h))
      have n10 : c ≠ 10 := fun h => hc (.inr (.inr h))
      rw [if_neg (show ¬ (([39, 9, 10] : List UInt8).contains c = true) by simp [n39, n9, n10]), if_neg n39, if_neg (show ¬ (c = 10 ∨ c = 9) from fun h => h.elim n10 n9)]
      rcases dgE_ix lang x (m + 1) (b && is01 c) (h && isHx c) with ⟨h1, h2⟩ | ⟨i, d, h1, h2, h3, h4⟩
      · left
        rw [h1]
        exact ⟨rfl, h2⟩
      · right
        refine ⟨i + 1, d, ?_, by simpa using h2, h3, ?_⟩
        · rw [h1, if_neg (show ¬ (((i : Int) == -1) = true) by rw [beq_iff_eq]; omega)]
          rfl
        · rw [h4, List.take_succ_cons, List.drop_succ_cons, List.all_cons, List.all_cons, Bool.and_assoc, Bool.and_assoc, show m + 1 + i = m + (i + 1) by omega]
theorem r90 {K : Nat} (lang : Int) (ws gs : List AV) (l : List UInt8) (at' : Nat) (ts cs : List AV) (ha : at' < l.length) (hasc : asciiL l = true) (hl : l.length ≤ 100000) (hK : l.length + 10 ≤ K) : run tab K 90 [scn lang ws gs l at' ts cs] = some (tok3 (dgT lang (l.drop at'))) := by
  obtain ⟨K, rfl⟩ := succK (show 1 ≤ K by omega)
  have e := r81 (K := K) (by omega) lang ws gs l at' ts cs (by omega)
  have hlr : (l.drop at').length ≤ l.length := by rw [List.length_drop]; omega
  have har := asciiL_sub hasc (fun c hc => List.mem_of_mem_drop hc : ∀ c ∈ l.drop at', c ∈ l)
  obtain ⟨c0, x, hx⟩ : ∃ c x, l.drop at' = c :: x := ⟨_, _, List.drop_eq_getElem_cons ha⟩
  unfold dgT
  generalize l.drop at' = r at *
  subst hx
  unfold scn at *
  rw [eq90]; unfold sh90 tr90
  have hax := asciiL_sub har (fun c hc => List.mem_cons_of_mem _ hc : ∀ c ∈ x, c ∈ c0 :: x)
  have hxl : (c0 :: x).length = x.length + 1 := rfl
  have e1 : (sb (c0 :: x)).extract (1 : Int).toNat ((sb (c0 :: x)).size : Int).toNat = sb x := by
    rw [sb_extract, sb_size, Int.toNat_natCast, List.take_length]
    rfl
  have e2 := r107 (K := K) (by omega) x [39, 9, 10] (by omega) (by decide) hax (by decide)
  rw [show (⟨#[39, 9, 10]⟩ : ByteArray) = sb [39, 9, 10] from rfl, e]
  simp only [castS_S, e1, e2, castI_I]
  rw [if_pos ⟨by omega, by rw [sb_size]; omega, Int.le_refl _⟩, show List.drop 1 (c0 :: x) = x from rfl]
  rcases dgE_ix lang x 0 true true with ⟨h1, h2⟩ | ⟨i, c, h1, h2, h3, h4⟩
  · rw [h1, h2, show decide ((-1 : Int) < 0) = true from rfl]
    rfl
  · have hi := (List.getElem?_eq_some_iff.1 h2).1
    have w1 : IntKind.i64.wrap ((i : Int) + 1) = ((i + 1 : Nat) : Int) := wrapA (m := 1) (by omega) (by omega)
    have w2 : IntKind.i64.wrap ((i : Int) + 2) = ((i + 2 : Nat) : Int) := wrapA (m := 2) (by omega) (by omega)
    have w3 : IntKind.i64.wrap ((i : Int) + 3) = ((i + 3 : Nat) : Int) := wrapA (m := 3) (by omega) (by omega)
    have g : (sb (c0 :: x))[((i + 1 : Nat) : Int).toNat]? = some c := by rw [sb_get, Int.toNat_natCast]; simpa using h2
    have c39 : ((c.toNat : Int) != (39 : Int)) = !decide (c = 39) := chrN c 39 (by omega)
    have e3 : (sb (c0 :: x)).extract (1 : Int).toNat ((i + 1 : Nat) : Int).toNat = sb (x.take i) := by
      rw [sb_extract, Int.toNat_natCast]
      rfl
    have e4 := r108 (K := K) (by omega) (x.take i) [48, 49, 50, 51, 52, 53, 54, 55, 56, 57, 65, 66, 67, 68, 69, 70] (by rw [List.length_take]; omega) (by decide) (by decide)
    have e5 := r108 (K := K) (by omega) (x.take i) [48, 49] (by rw [List.length_take]; omega) (by decide) (by decide)
    have hp : ((Int.tmod ((sb (x.take i)).size : Int) 2) == (0 : Int)) = decide (i % 2 = 0) := by
      rw [Bool.eq_iff_iff, beq_iff_eq, decide_eq_true_iff, sb_size, List.length_take, show min i x.length = i by omega]
      show ((i : Int).tmod ((2 : Nat) : Int)) = 0 ↔ _
      rw [← Int.ofNat_tmod]
      omega
    have t4 := trimB (x.take i) [48, 49, 50, 51, 52, 53, 54, 55, 56, 57, 65, 66, 67, 68, 69, 70]
    have t5 := trimB (x.take i) [48, 49]
    rw [all_hx] at t4
    rw [all_01] at t5
    rw [show (⟨#[48, 49, 50, 51, 52, 53, 54, 55, 56, 57, 65, 66, 67, 68, 69, 70]⟩ : ByteArray) = sb [48, 49, 50, 51, 52, 53, 54, 55, 56, 57, 65, 66, 67, 68, 69, 70] from rfl, show (⟨#[48, 49]⟩ : ByteArray) = sb [48, 49] from rfl]
    simp only [h1, w1, w2, w3, e3, e4, e5, castS_S, hp, t4, t5, g, c39]
    rw [decide_eq_false (show ¬ (i : Int) < 0 by omega), h4, if_pos (Int.natCast_nonneg _)]
    by_cases hc : c = 39
    · have n1 : 0 ≤ (1 : Int) ∧ (1 : Int) ≤ ((i + 1 : Nat) : Int) ∧ ((i + 1 : Nat) : Int) ≤ ((sb (c0 :: x)).size : Int) := ⟨by omega, by omega, by rw [sb_size]; omega⟩
      rw [decide_eq_true hc, if_pos hc]
      simp only [Bool.not_true, if_pos n1, Bool.true_and, Nat.zero_add]
      unfold dgF
      by_cases hb : 200 < i
      · rw [decide_eq_true (show (i : Int) > 200 by omega), if_pos hb]
        rfl
      · rw [decide_eq_false (show ¬ (i : Int) > 200 by omega), if_neg hb]
        generalize decide (i % 2 = 0) = b6
        generalize (lang == 0) = b4
        generalize (lang == 1) = b5
        generalize (x.take i).all is01 = b
        generalize (x.take i).all isHx = h
        by_cases hj : i + 1 < x.length
        · have n2 : 0 ≤ ((i + 2 : Nat) : Int) ∧ ((i + 2 : Nat) : Int) ≤ ((i + 3 : Nat) : Int) ∧ ((i + 3 : Nat) : Int) ≤ ((sb (c0 :: x)).size : Int) := ⟨by omega, by omega, by rw [sb_size]; omega⟩
          have e6 : (sb (c0 :: x)).extract ((i + 2 : Nat) : Int).toNat ((i + 3 : Nat) : Int).toNat = sb [x[i+1]] := by
            rw [sb_extract, Int.toNat_natCast, Int.toNat_natCast, List.drop_take, show i + 3 - (i + 2) = 1 by omega, show i + 2 = (i + 1) + 1 by omega, List.drop_succ_cons, List.drop_eq_getElem_cons hj]
            rfl
          have hh : (x.drop (i + 1)).head? = some x[i+1] := by rw [List.drop_eq_getElem_cons hj]; rfl
          have s1 : ∀ d : UInt8, (sb [x[i+1]] == (⟨#[d]⟩ : ByteArray)) = decide (x[i+1] = d) := fun d => by
            show (sb [x[i+1]] == sb [d]) = _
            rw [sb_beq]
            simp
          rw [decide_eq_true (show ((i + 2 : Nat) : Int) < ((sb (c0 :: x)).size : Int) by rw [sb_size]; omega)]
          simp only [if_pos n2, e6, s1, hh, Option.some.injEq]
          generalize decide (x[i+1] = 66) = b1
          generalize decide (x[i+1] = 72) = b2
          generalize decide (x[i+1] = 79) = b3
          cases b1 <;> cases b2 <;> cases b3 <;> cases b4 <;> cases b5 <;> cases b6 <;> cases b <;> cases h <;> rfl
        · rw [decide_eq_false (show ¬ ((i + 2 : Nat) : Int) < ((sb (c0 :: x)).size : Int) by rw [sb_size]; omega), List.drop_eq_nil_of_le (show x.length ≤ i + 1 by omega)]
          have z : ∀ d : UInt8, ((⟨#[]⟩ : ByteArray) == (⟨#[d]⟩ : ByteArray)) = false := fun d => by
            show (sb [] == sb [d]) = _
            rw [sb_beq]
            simp
          simp only [z]
          cases b4 <;> cases b5 <;> cases b6 <;> cases b <;> cases h <;> rfl
    · rw [decide_eq_false hc, if_neg hc]
      rfl
def symM (r : List UInt8) : Nat → List (List UInt8) → Nat
  | m, [] => m
  | m, w :: ws => symM r (if pfx w r = true then max m w.length else m) ws
theorem strsA_len (ws : List (List UInt8)) : (strsA ws).length = ws.length := by unfold strsA; simp
theorem strsA_get (ws : List (List UInt8)) (i : Nat) (h : i < ws.length) : (strsA ws)[i]? = some (St (sb ws[i])) := by
  unfold strsA
  rw [List.getElem?_map, List.getElem?_eq_getElem h]
  rfl
theorem symM_step (r : List UInt8) (m : Nat) (ws : List (List UInt8)) (n : Nat) (h : n < ws.length) : symM r m (ws.drop n) = symM r (if pfx ws[n] r = true then max m ws[n].length else m) (ws.drop (n + 1)) := by
  rw [List.drop_eq_getElem_cons h]
  rfl
theorem l91 (K : Nat) (hK : 3 ≤ K) (lang : Int) (ws gs0 : List AV) (gs : List (List UInt8)) (l : List UInt8) (at' : Nat) (ts cs : List AV) (ha : at' ≤ l.length) (hg : ∀ w ∈ gs, w.length ≤ 1000) (hgl : gs.length ≤ 1000) : ∀ (k n m : Nat), gs.length - n < k → n ≤ gs.length → m ≤ 1000 →
    lp91_3 K k lang ws gs0 (sb l) (at' : Int) ts cs (m : Int) (strsA gs) (gs.length : Int) (n : Int) = some (I (symM (l.drop at') m (gs.drop n) : Nat))
  | 0, n, m, h, _, _ => by omega
  | k + 1, n, m, h, hn, hm => by
    unfold lp91_3 tr91_3
    by_cases hi : n < gs.length
    · have e := r81 (K := K) (by omega) lang ws gs0 l at' ts cs ha
      have e1 := r83p (K := K) (by omega) (l.drop at') gs[n]
      have hw := hg gs[n] (List.getElem_mem hi)
      unfold scn at e
      have w1 : IntKind.i64.wrap ((n : Int) + 1) = ((n + 1 : Nat) : Int) := wrapA (m := 1) (by omega) (by omega)
      have g : (strsA gs)[(n : Int).toNat]? = some (St (sb gs[n])) := by rw [Int.toNat_natCast]; exact strsA_get gs n hi
      have hmx : maxI (m : Int) ((sb gs[n]).size : Int) = ((max m gs[n].length : Nat) : Int) := by
        unfold maxI
        rw [sb_size]
        split <;> omega
      rw [decide_eq_true (show (n : Int) < (gs.length : Int) by omega), symM_step _ _ _ _ hi]
      simp only [if_pos (Int.natCast_nonneg n), g, castS_S, e, e1, castB_B, w1, hmx]
      cases pfx gs[n] (l.drop at') with
      | true => exact l91 K hK lang ws gs0 gs l at' ts cs ha hg hgl k (n + 1) _ (by omega) (by omega) (by omega)
      | false => exact l91 K hK lang ws gs0 gs l at' ts cs ha hg hgl k (n + 1) m (by omega) (by omega) hm
    · rw [decide_eq_false (show ¬ (n : Int) < (gs.length : Int) by omega), List.drop_eq_nil_of_le (show gs.length ≤ n by omega)]
      rfl
theorem r91 {K : Nat} (lang : Int) (ws : List AV) (gs : List (List UInt8)) (l : List UInt8) (at' : Nat) (ts cs : List AV) (ha : at' ≤ l.length) (hg : ∀ w ∈ gs, w.length ≤ 1000) (hgl : gs.length ≤ 1000) (hK : 1010 ≤ K) : run tab K 91 [scn lang ws (strsA gs) l at' ts cs] = some (I (symM (l.drop at') 0 gs : Nat)) := by
  obtain ⟨K, rfl⟩ := succK (show 1 ≤ K by omega)
  have main := l91 K (by omega) lang ws (strsA gs) gs l at' ts cs ha hg hgl K 0 0 (by omega) (by omega) (by omega)
  unfold scn
  rw [eq91]; unfold sh91 tr91
  rw [strsA_len]
  exact main
theorem bl_lt (a b : UInt8) (x y : List UInt8) : Op.bytesLess (a :: x) (b :: y) = (decide (a < b) || (a == b && Op.bytesLess x y)) := rfl
theorem less_irr : ∀ x : List UInt8, Op.bytesLess x x = false
  | [] => rfl
  | a :: x => by
    rw [bl_lt, less_irr x]
    simp
theorem less_tr : ∀ x y z : List UInt8, Op.bytesLess x y = true → Op.bytesLess y z = true → Op.bytesLess x z = true
  | _, [], _, h, _ => by cases ‹List UInt8› <;> simp [Op.bytesLess] at h
  | _, _ :: _, [], _, h => by simp [Op.bytesLess] at h
  | [], _ :: _, _ :: _, _, _ => rfl
  | a :: x, b :: y, c :: z, h1, h2 => by
    rw [bl_lt] at *
    rw [Bool.or_eq_true, Bool.and_eq_true, decide_eq_true_iff, beq_iff_eq] at *
    rcases h1 with h1 | ⟨h1, h1'⟩
    · rcases h2 with h2 | ⟨h2, h2'⟩
      · exact .inl (UInt8.lt_trans h1 h2)
      · exact .inl (h2 ▸ h1)
    · rcases h2 with h2 | ⟨h2, h2'⟩
      · exact .inl (h1 ▸ h2)
      · exact .inr ⟨h1.trans h2, less_tr x y z h1' h2'⟩
def sortedB : List (List UInt8) → Bool
  | [] => true
  | [_] => true
  | a :: b :: l => Op.bytesLess a b && sortedB (b :: l)
theorem sorted_head : ∀ (l : List (List UInt8)) (a : List UInt8), sortedB (a :: l) = true → ∀ x ∈ l, Op.bytesLess a x = true
  | [], a, _, x, hx => by simp at hx
  | b :: l, a, h, x, hx => by
    have h' : (Op.bytesLess a b && sortedB (b :: l)) = true := h
    rw [Bool.and_eq_true] at h'
    rcases List.mem_cons.1 hx with rfl | hx
    · exact h'.1
    · exact less_tr a b x h'.1 (sorted_head l b h'.2 x hx)
theorem sorted_lt : ∀ (l : List (List UInt8)), sortedB l = true → ∀ i j (hi : i < l.length) (hj : j < l.length), i < j → Op.bytesLess l[i] l[j] = true
  | [], _, i, j, hi, _, _ => by simp at hi
  | a :: l, h, 0, j + 1, _, hj, _ => sorted_head l a h _ (List.getElem_mem (by simpa using hj))
  | a :: l, h, i + 1, j + 1, hi, hj, hij => by
    have ht : sortedB l = true := by
      cases l with
      | nil => rfl
      | cons b l =>
        have h' : (Op.bytesLess a b && sortedB (b :: l)) = true := h
        rw [Bool.and_eq_true] at h'
        exact h'.2
    exact sorted_lt l ht i j (by simpa using hi) (by simpa using hj) (by omega)
  | a :: l, h, i, 0, _, _, hij => by omega
theorem sb_refl (x : List UInt8) : (sb x == sb x) = true := by rw [sb_beq]; simp
theorem r104 {K : Nat} (h : 2 ≤ K) (x y : List UInt8) : run tab K 104 [St (sb x), St (sb y)] = some (B (Op.bytesLess x y)) := by
  obtain ⟨K, rfl⟩ := succK (show 1 ≤ K by omega)
  obtain ⟨K, rfl⟩ := succK (show 1 ≤ K by omega)
  have e : run tab (K + 1) 117 [St (sb x)] = some (B false) := by
    rw [eq117]; unfold sh117 tr117
    rw [sb_refl]; rfl
  rw [eq104]; unfold sh104 tr104
  rw [e]
  rfl
theorem r105 {K : Nat} (h : 1 ≤ K) (x : List UInt8) : run tab K 105 [St (sb x)] = some (B false) := by
  obtain ⟨K, rfl⟩ := succK h
  rw [eq105]; unfold sh105 tr105
  rw [sb_refl]; rfl
theorem l86 (K : Nat) (hK : 3 ≤ K) (ws : List (List UInt8)) (x : List UInt8) (hs : sortedB ws = true) (hwl : ws.length ≤ 100000) : ∀ (k i j : Nat), j - i < k → i ≤ j → j ≤ ws.length → (∀ p (hp : p < ws.length), p < i → Op.bytesLess ws[p] x = true) → (∀ p (hp : p < ws.length), j ≤ p → Op.bytesLess ws[p] x = false) →
    ∃ n : Int, lp86_3 K k (strsA ws) (sb x) (ws.length : Int) (i : Int) (j : Int) = some (.tup [I n, B (decide (x ∈ ws))])
  | 0, i, j, h, _, _, _, _ => by omega
  | k + 1, i, j, h, hij, hj, hlo, hhi => by
    unfold lp86_3 tr86_3
    by_cases hlt : i < j
    · have w0 : IntKind.i64.wrap (IntKind.u64.wrap (IntKind.i64.wrap ((i : Int) + (j : Int))) / 2 ^ 1) = (((i + j) / 2 : Nat) : Int) := by
        rw [wrapI (n := (i : Int) + j) ⟨by omega, by omega⟩]
        have : IntKind.u64.wrap ((i : Int) + j) = ((i + j : Nat) : Int) := by
          show ((i : Int) + j) % 18446744073709551616 = _
          omega
        rw [this, wrapI ⟨by omega, by omega⟩]
        omega
      have w1 : IntKind.i64.wrap ((((i + j) / 2 : Nat) : Int) + 1) = (((i + j) / 2 + 1 : Nat) : Int) := wrapA (m := 1) (by omega) (by omega)
      have hm : (i + j) / 2 < ws.length := by omega
      have g : (strsA ws)[(((i + j) / 2 : Nat) : Int).toNat]? = some (St (sb ws[(i + j) / 2])) := by rw [Int.toNat_natCast]; exact strsA_get ws _ hm
      have e := r104 (K := K) (by omega) ws[(i + j) / 2] x
      rw [decide_eq_true (show (i : Int) < (j : Int) by omega)]
      simp only [w0, w1, if_pos (Int.natCast_nonneg ((i + j) / 2)), g, castS_S, e, castB_B]
      cases hb : Op.bytesLess ws[(i + j) / 2] x with
      | true =>
        exact l86 K hK ws x hs hwl k ((i + j) / 2 + 1) j (by omega) (by omega) hj (fun p hp hlt' => by
          by_cases hpm : p = (i + j) / 2
          · subst hpm; exact hb
          · exact less_tr _ _ _ (sorted_lt ws hs p ((i + j) / 2) hp hm (by omega)) hb) hhi
      | false =>
        exact l86 K hK ws x hs hwl k i ((i + j) / 2) (by omega) (by omega) (by omega) hlo (fun p hp hle => by
          by_cases hpm : p = (i + j) / 2
          · subst hpm; exact hb
          · have h1 := sorted_lt ws hs ((i + j) / 2) p hm hp (by omega)
            cases hc : Op.bytesLess ws[p] x with
            | false => rfl
            | true => rw [less_tr _ _ _ h1 hc] at hb; cases hb)
    · have : i = j := by omega
      subst this
      rw [decide_eq_false (show ¬ (i : Int) < (i : Int) by omega)]
      have key : x ∈ ws → ∃ h : i < ws.length, ws[i] = x := fun hx => by
        obtain ⟨p, hp, he⟩ := List.getElem_of_mem hx
        have h1 : ¬ p < i := fun hlt' => by
          have := hlo p hp hlt'
          rw [he, less_irr] at this
          cases this
        by_cases hpi : p = i
        · subst hpi; exact ⟨hp, he⟩
        · have h2 := sorted_lt ws hs i p (by omega) hp (by omega)
          have h3 := hhi i (by omega) (Nat.le_refl _)
          rw [he, h3] at h2
          cases h2
      by_cases hi : i < ws.length
      · have g : (strsA ws)[((i : Nat) : Int).toNat]? = some (St (sb ws[i])) := by rw [Int.toNat_natCast]; exact strsA_get ws _ hi
        have e5 := r105 (K := K) (by omega) ws[i]
        rw [decide_eq_true (show (i : Int) < (ws.length : Int) by omega)]
        simp only [if_pos (Int.natCast_nonneg i), g, castS_S, sb_beq, e5, castB_B]
        by_cases he : ws[i] = x
        · rw [decide_eq_true he, decide_eq_true (show x ∈ ws from he ▸ List.getElem_mem hi)]
          exact ⟨_, rfl⟩
        · rw [decide_eq_false he, decide_eq_false (show ¬ x ∈ ws from fun hx => he (key hx).2)]
          exact ⟨_, rfl⟩
      · rw [decide_eq_false (show ¬ (i : Int) < (ws.length : Int) by omega), decide_eq_false (show ¬ x ∈ ws from fun hx => hi (key hx).1)]
        exact ⟨_, rfl⟩
theorem r86 {K : Nat} (ws : List (List UInt8)) (x : List UInt8) (hs : sortedB ws = true) (hwl : ws.length ≤ 1000) (hK : 1010 ≤ K) : ∃ n : Int, run tab K 86 [.sl 9 (strsA ws), St (sb x)] = some (.tup [I n, B (decide (x ∈ ws))]) := by
  obtain ⟨K, rfl⟩ := succK (show 1 ≤ K by omega)
  rw [eq86]; unfold sh86 tr86
  rw [strsA_len]
  exact l86 K (by omega) ws x hs (by omega) K 0 ws.length (by omega) (by omega) (by omega) (fun _ _ h => by omega) (fun p hp h => by omega)
theorem l93 (K : Nat) (ws : List (List UInt8)) (x : List UInt8) (hwl : ws.length ≤ 100000) : ∀ (k i : Nat), ws.length - i < k → i ≤ ws.length →
    ∃ n : Int, lp93_2 K k (strsA ws) (sb x) (ws.length : Int) (i : Int) = some (I n) ∧ decide (n ≥ 0) = decide (x ∈ ws.drop i)
  | 0, i, h, _ => by omega
  | k + 1, i, h, hn => by
    unfold lp93_2 tr93_2
    by_cases hi : i < ws.length
    · have g : (strsA ws)[(i : Int).toNat]? = some (St (sb ws[i])) := by rw [Int.toNat_natCast]; exact strsA_get ws _ hi
      have w1 : IntKind.i64.wrap ((i : Int) + 1) = ((i + 1 : Nat) : Int) := wrapA (m := 1) (by omega) (by omega)
      rw [decide_eq_true (show (i : Int) < (ws.length : Int) by omega), List.drop_eq_getElem_cons hi]
      simp only [if_pos (Int.natCast_nonneg i), g, castS_S, sb_beq, w1]
      by_cases he : x = ws[i]
      · rw [decide_eq_true he]
        refine ⟨(i : Int), rfl, ?_⟩
        rw [decide_eq_true (show x ∈ ws[i] :: ws.drop (i + 1) by rw [← he]; exact List.mem_cons_self)]
        simp
      · rw [decide_eq_false he]
        obtain ⟨n, h1, h2⟩ := l93 K ws x hwl k (i + 1) (by omega) (by omega)
        refine ⟨n, h1, ?_⟩
        rw [h2, Bool.eq_iff_iff, decide_eq_true_iff, decide_eq_true_iff, List.mem_cons]
        exact ⟨.inr, fun h => h.resolve_left he⟩
    · rw [decide_eq_false (show ¬ (i : Int) < (ws.length : Int) by omega), List.drop_eq_nil_of_le (by omega)]
      exact ⟨-1, rfl, rfl⟩
theorem r66 {K : Nat} (ws : List (List UInt8)) (x : List UInt8) (hwl : ws.length ≤ 1000) (hK : 1010 ≤ K) : run tab K 66 [.sl 9 (strsA ws), St (sb x)] = some (B (decide (x ∈ ws))) := by
  obtain ⟨K, rfl⟩ := succK (show 1 ≤ K by omega)
  obtain ⟨K, rfl⟩ := succK (show 1 ≤ K by omega)
  obtain ⟨n, h1, h2⟩ := l93 K ws x (by omega) K 0 (by omega) (by omega)
  have e : run tab (K + 1) 93 [.sl 9 (strsA ws), St (sb x)] = some (I n) := by
    rw [eq93]; unfold sh93 tr93
    rw [strsA_len]
    exact h1
  rw [eq66]; unfold sh66 tr66
  rw [e]
  simp only [castI_I]
  rw [h2]
  rfl
end Go.Proofs.YtdhbhedfbdckaaaGreatDoor

/- What begins at a place: both sides. -/
namespace Go.Proofs.YtdhbhedfbdckaaaGreatDoor
open Go.Dam
set_option linter.unusedVariables false
set_option linter.unusedSimpArgs false
def wsOf (lang : Int) : List (List UInt8) := if lang = 0 then asnWordsS else ttcnWordsS
def gsOf (lang : Int) : List (List UInt8) := if lang = 0 then asnSignsS else ttcnSignsS
def nmT (lang : Int) (r : List UInt8) : Pc :=
  if r.take (1 + nameT lang (r.drop 1)) ∈ wsOf lang then .tok 1 (1 + nameT lang (r.drop 1)) else if 32 < 1 + nameT lang (r.drop 1) then .err 7 else .tok 0 (1 + nameT lang (r.drop 1))
def syT (lang : Int) (r : List UInt8) : Pc := if symM r 0 (gsOf lang) = 0 then .err 8 else .tok 6 (symM r 0 (gsOf lang))
def nxT (lang : Int) (r : List UInt8) : Pc := match r with
  | [] => .err 8
  | c :: _ => if isL c = true then nmT lang r else if isD c = true then numT r else if c = 34 then quT r else if c = 39 then dgT lang r else syT lang r
def pcT (lang : Int) (r : List UInt8) : Pc := match comT lang r with
  | some none => .err 39
  | some (some n) => .com n
  | none => nxT lang r
theorem nameT_le (lang : Int) : ∀ r : List UInt8, nameT lang r ≤ r.length
  | [] => Nat.le_refl _
  | c :: r => by
    have ih := nameT_le lang r
    have hl : (c :: r).length = r.length + 1 := rfl
    unfold nameT
    cases r with
    | nil => simp only []; split <;> (try omega); split <;> (try omega); split <;> omega
    | cons d r => simp only []; split <;> (try omega); split <;> (try omega); split <;> (try omega); split <;> omega
theorem blk_le (lang : Int) : ∀ (r : List UInt8) (d m : Nat), blk lang d r = some m → 2 ≤ m ∧ m ≤ r.length
  | [], d, m, h => by simp [blk] at h
  | [_], d, m, h => by simp [blk] at h
  | c :: e :: r, d, m, h => by
    have hl : (c :: e :: r).length = r.length + 2 := rfl
    have hl' : (e :: r).length = r.length + 1 := rfl
    unfold blk at h
    split at h
    · split at h
      · cases h; omega
      · obtain ⟨x, hx, rfl⟩ := Option.map_eq_some_iff.1 h
        have := blk_le lang r _ _ hx
        omega
    · split at h
      · obtain ⟨x, hx, rfl⟩ := Option.map_eq_some_iff.1 h
        have := blk_le lang r _ _ hx
        omega
      · obtain ⟨x, hx, rfl⟩ := Option.map_eq_some_iff.1 h
        have := blk_le lang (e :: r) _ _ hx
        omega
theorem pfx_len {p r : List UInt8} (h : pfx p r = true) : p.length ≤ r.length := by
  unfold pfx at h
  have h := congrArg List.length (decide_eq_true_iff.1 h)
  rw [List.length_take] at h
  omega
theorem comT_le {lang : Int} {r : List UInt8} {m : Nat} (h : comT lang r = some (some m)) : 2 ≤ m ∧ m ≤ r.length := by
  unfold comT at h
  have hd : (r.drop 2).length = r.length - 2 := List.length_drop
  split at h
  · rename_i hp
    have := pfx_len hp
    simp only [Option.some.injEq] at h
    obtain ⟨x, hx, rfl⟩ := Option.map_eq_some_iff.1 h
    have := blk_le lang _ _ _ hx
    simp at *
    omega
  · split at h
    · split at h
      · rename_i hp
        have h1 := pfx_len hp
        simp only [Option.some.injEq] at h
        have := lnT_le lang (r.drop 2)
        simp at h1
        omega
      · cases h
    · split at h
      · rename_i hp
        have h1 := pfx_len hp
        simp only [Option.some.injEq] at h
        have := lnT_le lang (r.drop 2)
        simp at h1
        omega
      · cases h
theorem qT_le : ∀ (r : List UInt8) (m : Nat), qT r = some m → 1 ≤ m ∧ m ≤ r.length
  | [], m, h => by simp [qT] at h
  | [c], m, h => by
    unfold qT at h
    split at h
    · cases h; simp
    · cases h
  | c :: e :: r, m, h => by
    have hl : (c :: e :: r).length = r.length + 2 := rfl
    have hl' : (e :: r).length = r.length + 1 := rfl
    unfold qT at h
    split at h
    · cases h
    · split at h
      · split at h
        · obtain ⟨x, hx, rfl⟩ := Option.map_eq_some_iff.1 h
          have := qT_le r _ hx
          omega
        · cases h; omega
      · obtain ⟨x, hx, rfl⟩ := Option.map_eq_some_iff.1 h
        have := qT_le (e :: r) _ hx
        omega
theorem dgF_le {lang : Int} {m n : Nat} {k : Int} {b h : Bool} {x : List UInt8} (hf : dgF lang m b h x = .tok k n) : n = m + 3 ∧ 1 ≤ x.length ∧ 4 ≤ k ∧ k ≤ 5 := by
  unfold dgF at hf
  split at hf
  · cases hf
  · split at hf
    · rename_i hc
      injection hf with h1 h2
      refine ⟨by omega, ?_, by omega, by omega⟩
      cases x with
      | nil => simp at hc
      | cons _ _ => simp
    · split at hf
      · rename_i hc
        injection hf with h1 h2
        refine ⟨by omega, ?_, by omega, by omega⟩
        cases x with
        | nil => simp at hc
        | cons _ _ => simp
      · cases hf
theorem dgE_le (lang : Int) : ∀ (x : List UInt8) (m n : Nat) (k : Int) (b h : Bool), dgE lang m b h x = .tok k n → m + 3 ≤ n ∧ n ≤ m + 1 + x.length ∧ 4 ≤ k ∧ k ≤ 5
  | [], m, n, k, b, h, hd => by cases hd
  | c :: x, m, n, k, b, h, hd => by
    have hl : (c :: x).length = x.length + 1 := rfl
    unfold dgE at hd
    split at hd
    · have := dgF_le hd
      omega
    · split at hd
      · cases hd
      · have := dgE_le lang x _ _ _ _ _ hd
        omega
theorem symM_le (r : List UInt8) : ∀ (ws : List (List UInt8)) (m : Nat), m ≤ r.length → symM r m ws ≤ r.length
  | [], m, h => h
  | w :: ws, m, h => by
    unfold symM
    refine symM_le r ws _ ?_
    split
    · rename_i hp
      have := pfx_len hp
      omega
    · exact h
/-- The kinds of tokens, their lengths. -/
theorem nxT_le {lang : Int} {r : List UInt8} {k : Int} {n : Nat} (h : nxT lang r = .tok k n) : 1 ≤ n ∧ n ≤ r.length ∧ 0 ≤ k ∧ k ≤ 6 := by
  unfold nxT at h
  cases r with
  | nil => cases h
  | cons c x =>
    have hl : (c :: x).length = x.length + 1 := rfl
    simp only [] at h
    split at h
    · have := nameT_le lang x
      unfold nmT at h
      rw [show List.drop 1 (c :: x) = x from rfl] at h
      split at h
      · injection h with h1 h2; omega
      · split at h
        · cases h
        · injection h with h1 h2; omega
    · split at h
      · rename_i hD
        have h1 := dlen_le (c :: x)
        have h2 : dlen (c :: x) = dlen x + 1 := by rw [dlen_cons, if_pos hD]
        unfold numT at h
        split at h
        · cases h
        · split at h
          · cases h
          · injection h with h3 h4; omega
      · split at h
        · unfold quT at h
          split at h
          · cases h
          · rename_i m hm
            have := qT_le _ _ hm
            rw [show List.drop 1 (c :: x) = x from rfl] at this
            split at h
            · cases h
            · injection h with h3 h4; omega
        · split at h
          · unfold dgT at h
            have := dgE_le lang _ _ _ _ _ _ h
            rw [show List.drop 1 (c :: x) = x from rfl] at this
            omega
          · unfold syT at h
            have := symM_le (c :: x) (gsOf lang) 0 (by omega)
            split at h
            · cases h
            · injection h with h3 h4; omega
theorem r47_0 (K : Nat) : run tab (K + 2) 47 [I 0] = some (.tup [.agg [.sl 9 (strsA asnWordsS), .sl 9 (strsA asnSignsS)], B true]) := by kernel_rfl
theorem r47_1 (K : Nat) : run tab (K + 2) 47 [I 1] = some (.tup [.agg [.sl 9 (strsA ttcnWordsS), .sl 9 (strsA ttcnSignsS)], B true]) := by kernel_rfl
theorem r47 {K : Nat} (h : 2 ≤ K) {lang : Int} (hlang : lang = 0 ∨ lang = 1) : run tab K 47 [I lang] = some (.tup [.agg [.sl 9 (strsA (wsOf lang)), .sl 9 (strsA (gsOf lang))], B true]) := by
  obtain ⟨K, rfl⟩ : ∃ k, K = k + 2 := ⟨K - 2, by omega⟩
  rcases hlang with h | h
  · subst h; exact r47_0 K
  · subst h; exact r47_1 K
def lens (n : Nat) (l : List (List UInt8)) : Bool := l.all fun w => Nat.ble w.length n
set_option maxRecDepth 100000 in
theorem ws_facts : (sortedB asnWordsS = true ∧ lens 32 asnWordsS = true ∧ asnWordsS.length ≤ 1000) ∧ (sortedB ttcnWordsS = true ∧ lens 32 ttcnWordsS = true ∧ ttcnWordsS.length ≤ 1000) := by
  refine ⟨⟨?_, ?_, ?_⟩, ?_, ?_, ?_⟩
  · kernel_rfl
  · kernel_rfl
  · decide
  · kernel_rfl
  · kernel_rfl
  · decide
theorem gs_facts : (lens 3 asnSignsS = true ∧ asnSignsS.length ≤ 1000) ∧ (lens 3 ttcnSignsS = true ∧ ttcnSignsS.length ≤ 1000) := by
  refine ⟨⟨?_, ?_⟩, ?_, ?_⟩
  · kernel_rfl
  · decide
  · kernel_rfl
  · decide
theorem lens_le {n : Nat} {l : List (List UInt8)} (h : lens n l = true) : ∀ w ∈ l, w.length ≤ n := by
  unfold lens at h
  rw [List.all_eq_true] at h
  exact fun w hw => by simpa using h w hw
theorem ws_sorted (lang : Int) : sortedB (wsOf lang) = true ∧ (∀ w ∈ wsOf lang, w.length ≤ 32) ∧ (wsOf lang).length ≤ 1000 := by
  unfold wsOf
  split
  · exact ⟨ws_facts.1.1, lens_le ws_facts.1.2.1, ws_facts.1.2.2⟩
  · exact ⟨ws_facts.2.1, lens_le ws_facts.2.2.1, ws_facts.2.2.2⟩
theorem gs_small (lang : Int) : (∀ w ∈ gsOf lang, w.length ≤ 3) ∧ (gsOf lang).length ≤ 1000 := by
  unfold gsOf
  split
  · exact ⟨lens_le gs_facts.1.1, gs_facts.1.2⟩
  · exact ⟨lens_le gs_facts.2.1, gs_facts.2.2⟩
def NxR (p : Pc) (a : AV) : Prop := match p with
  | .err e => ∃ x y, a = .tup [I x, I y, I e]
  | .com _ => False
  | .tok k n => a = .tup [I k, I (n : Int), I 0]
theorem num_shape (r : List UInt8) : (∃ e, numT r = .err e ∧ e ≠ 0) ∨ ∃ n, numT r = .tok 2 n := by
  unfold numT
  split
  · exact .inl ⟨_, rfl, by decide⟩
  · split
    · exact .inl ⟨_, rfl, by decide⟩
    · exact .inr ⟨_, rfl⟩
theorem qu_shape (r : List UInt8) : (∃ e, quT r = .err e ∧ e ≠ 0) ∨ ∃ n, quT r = .tok 3 n := by
  unfold quT
  split
  · exact .inl ⟨_, rfl, by decide⟩
  · split
    · exact .inl ⟨_, rfl, by decide⟩
    · exact .inr ⟨_, rfl⟩
theorem dgF_shape (lang : Int) (m : Nat) (b h : Bool) (x : List UInt8) : (∃ e, dgF lang m b h x = .err e ∧ e ≠ 0) ∨ ∃ k n, dgF lang m b h x = .tok k n := by
  unfold dgF
  split
  · exact .inl ⟨_, rfl, by decide⟩
  · split
    · exact .inr ⟨_, _, rfl⟩
    · split
      · exact .inr ⟨_, _, rfl⟩
      · exact .inl ⟨_, rfl, by decide⟩
theorem dgE_shape (lang : Int) : ∀ (x : List UInt8) (m : Nat) (b h : Bool), (∃ e, dgE lang m b h x = .err e ∧ e ≠ 0) ∨ ∃ k n, dgE lang m b h x = .tok k n
  | [], m, b, h => .inl ⟨_, rfl, by decide⟩
  | c :: x, m, b, h => by
    unfold dgE
    split
    · exact dgF_shape _ _ _ _ _
    · split
      · exact .inl ⟨_, rfl, by decide⟩
      · exact dgE_shape lang x _ _ _
theorem dg_shape (lang : Int) (r : List UInt8) : (∃ e, dgT lang r = .err e ∧ e ≠ 0) ∨ ∃ k n, dgT lang r = .tok k n := dgE_shape lang _ _ _ _
theorem nx_shape (lang : Int) (r : List UInt8) : (∃ e, nxT lang r = .err e ∧ e ≠ 0) ∨ ∃ k n, nxT lang r = .tok k n := by
  unfold nxT
  split
  · exact .inl ⟨_, rfl, by decide⟩
  · split
    · unfold nmT
      split
      · exact .inr ⟨_, _, rfl⟩
      · split
        · exact .inl ⟨_, rfl, by decide⟩
        · exact .inr ⟨_, _, rfl⟩
    · split
      · rcases num_shape _ with h | ⟨n, h⟩
        · exact .inl h
        · exact .inr ⟨_, _, h⟩
      · split
        · rcases qu_shape _ with h | ⟨n, h⟩
          · exact .inl h
          · exact .inr ⟨_, _, h⟩
        · split
          · exact dg_shape _ _
          · unfold syT
            split
            · exact .inl ⟨_, rfl, by decide⟩
            · exact .inr ⟨_, _, rfl⟩
theorem r59 {K : Nat} (lang : Int) (l : List UInt8) (at' : Nat) (ts cs : List AV) (ha : at' < l.length) (hasc : asciiL l = true) (hl : l.length ≤ 100000) (hK : l.length + 1100 ≤ K) : ∃ a, run tab K 59 [scn lang (strsA (wsOf lang)) (strsA (gsOf lang)) l at' ts cs] = some a ∧ NxR (nxT lang (l.drop at')) a := by
  obtain ⟨K, rfl⟩ := succK (show 1 ≤ K by omega)
  have e84 := r84 (K := K) (by omega) l[at']
  have e87 := r87 (K := K) (by omega) l[at']
  have e85 := r85 (K := K) lang (strsA (wsOf lang)) (strsA (gsOf lang)) l at' ts cs ha hl (by omega)
  have e88 := fun hD => r88 (K := K) lang (strsA (wsOf lang)) (strsA (gsOf lang)) l at' ts cs ha hD hl (by omega)
  have e89 := r89 (K := K) lang (strsA (wsOf lang)) (strsA (gsOf lang)) l at' ts cs ha hl (by omega)
  have e90 := r90 (K := K) lang (strsA (wsOf lang)) (strsA (gsOf lang)) l at' ts cs ha hasc hl (by omega)
  have e91 := r91 (K := K) lang (strsA (wsOf lang)) (gsOf lang) l at' ts cs (by omega) (fun w hw => by have := (gs_small lang).1 w hw; omega) (gs_small lang).2 (by omega)
  have hx := List.drop_eq_getElem_cons ha
  have c34 : ((l[at'].toNat : Int) == (34 : Int)) = decide (l[at'] = 34) := chr_eq l[at'] 34 (by omega)
  have c39 : ((l[at'].toNat : Int) == (39 : Int)) = decide (l[at'] = 39) := chr_eq l[at'] 39 (by omega)
  have hnl := nameT_le lang (l.drop (at' + 1))
  rw [List.length_drop] at hnl
  have w1 : IntKind.i64.wrap ((at' : Int) + ((1 + nameT lang (l.drop (at' + 1)) : Nat) : Int)) = ((at' + (1 + nameT lang (l.drop (at' + 1))) : Nat) : Int) := by rw [wrapI ⟨by omega, by omega⟩]; omega
  have hd1 : List.drop 1 (l.drop at') = l.drop (at' + 1) := by rw [List.drop_drop]
  unfold scn u8 at *
  rw [eq59]; unfold sh59 tr59
  rw [if_pos (Int.natCast_nonneg at')]
  simp only [getL ha, e84, e87, castB_B, e85, castI_I, e89, e90, e91, c34, c39, w1]
  have hr : nxT lang (l.drop at') = if isL l[at'] = true then nmT lang (l.drop at') else if isD l[at'] = true then numT (l.drop at') else if l[at'] = 34 then quT (l.drop at') else if l[at'] = 39 then dgT lang (l.drop at') else syT lang (l.drop at') := by
    rw [hx]
    rfl
  rw [hr]
  cases hL : isL l[at'] with
  | true =>
    rw [if_pos rfl]
    unfold nmT
    rw [hd1]
    generalize nameT lang (l.drop (at' + 1)) = n at *
    have hsl : 0 ≤ (at' : Int) ∧ (at' : Int) ≤ ((at' + (1 + n) : Nat) : Int) ∧ ((at' + (1 + n) : Nat) : Int) ≤ ((sb l).size : Int) := ⟨by omega, by omega, by rw [sb_size]; omega⟩
    have hex : (sb l).extract (at' : Int).toNat ((at' + (1 + n) : Nat) : Int).toNat = sb ((l.drop at').take (1 + n)) := by
      rw [sb_extract, Int.toNat_natCast, Int.toNat_natCast, List.drop_take, Nat.add_sub_cancel_left]
    obtain ⟨q, hq⟩ := r86 (K := K) (wsOf lang) ((l.drop at').take (1 + n)) (ws_sorted lang).1 (ws_sorted lang).2.2 (by omega)
    have hw : (l.drop at').take (1 + n) ∈ wsOf lang → 1 + n ≤ 32 := fun hm => by
      have := (ws_sorted lang).2.1 _ hm
      rw [List.length_take, List.length_drop] at this
      omega
    by_cases h32 : 32 < 1 + n
    · rw [decide_eq_true (show ((1 + n : Nat) : Int) > 32 by omega), if_neg (show ¬ (l.drop at').take (1 + n) ∈ wsOf lang from fun hm => by have := hw hm; omega), if_pos h32]
      exact ⟨_, rfl, _, _, rfl⟩
    · rw [decide_eq_false (show ¬ ((1 + n : Nat) : Int) > 32 by omega)]
      simp only [if_pos hsl, hex, hq]
      by_cases hm : (l.drop at').take (1 + n) ∈ wsOf lang
      · rw [decide_eq_true hm, if_pos hm]
        exact ⟨_, rfl, rfl⟩
      · rw [decide_eq_false hm, if_neg hm, if_neg h32]
        exact ⟨_, rfl, rfl⟩
  | false =>
    simp only [Bool.false_eq_true, if_false]
    cases hD : isD l[at'] with
    | true =>
      rw [if_pos rfl]
      simp only [e88 hD]
      rcases num_shape (l.drop at') with ⟨e, h, _⟩ | ⟨n, h⟩
      · rw [h]; exact ⟨_, rfl, _, _, rfl⟩
      · rw [h]; exact ⟨_, rfl, rfl⟩
    | false =>
      simp only [Bool.false_eq_true, if_false]
      by_cases h34 : l[at'] = 34
      · rw [decide_eq_true h34, if_pos h34]
        rcases qu_shape (l.drop at') with ⟨e, h, _⟩ | ⟨n, h⟩
        · rw [h]; exact ⟨_, rfl, _, _, rfl⟩
        · rw [h]; exact ⟨_, rfl, rfl⟩
      · rw [decide_eq_false h34, if_neg h34]
        by_cases h39 : l[at'] = 39
        · rw [decide_eq_true h39, if_pos h39]
          rcases dg_shape lang (l.drop at') with ⟨e, h, _⟩ | ⟨k, n, h⟩
          · rw [h]; exact ⟨_, rfl, _, _, rfl⟩
          · rw [h]; exact ⟨_, rfl, rfl⟩
        · rw [decide_eq_false h39, if_neg h39]
          unfold syT
          by_cases hs : symM (l.drop at') 0 (gsOf lang) = 0
          · rw [decide_eq_false (show ¬ ((symM (l.drop at') 0 (gsOf lang) : Nat) : Int) > 0 by omega), if_pos hs]
            exact ⟨_, rfl, _, _, rfl⟩
          · rw [decide_eq_true (show ((symM (l.drop at') 0 (gsOf lang) : Nat) : Int) > 0 by omega), if_neg hs]
            exact ⟨_, rfl, rfl⟩
end Go.Proofs.YtdhbhedfbdckaaaGreatDoor
