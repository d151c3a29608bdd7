/- A part of an interpreter of the model's code that is proved sound, and of laws told by it: DamX8, DamSym. -/
import Derived.Test.YtdhbhedfbdckaaaGreatDoorPsE2
import Derived.Test.YtdhbhedfbdckaaaGreatDoorPsE3
import Derived.Test.YtdhbhedfbdckaaaGreatDoorPsE1
set_option linter.unusedVariables false
set_option linter.unusedSimpArgs false
/- Bits and octets, symbols, words, on both sides. -/
namespace Go.Proofs.YtdhbhedfbdckaaaGreatDoor
open Go.Dam
set_option linter.unusedVariables false
set_option linter.unusedSimpArgs false
def is01 (c : UInt8) : Bool := decide (c = 48) || decide (c = 49)
def isHx (c : UInt8) : Bool := isD c || inR c 65 70
def dgF (lang : Int) (m : Nat) (b h : Bool) (x : List UInt8) : Pc :=
  if 200 < m then .err 2 else if (decide (x.head? = some 66) && b) = true then .tok 4 (m + 3) else
  if (decide (x.head? = some 72) && (lang == 0) && h || decide (x.head? = some 79) && (lang == 1) && h && decide (m % 2 = 0)) = true then .tok 5 (m + 3) else .err 8
def dgE (lang : Int) : Nat → Bool → Bool → List UInt8 → Pc
  | _, _, _, [] => .err 39
  | m, b, h, c :: x => if c = 39 then dgF lang m b h x else if c = 10 ∨ c = 9 then .err 39 else dgE lang (m + 1) (b && is01 c) (h && isHx c) x
def dgT (lang : Int) (r : List UInt8) : Pc := dgE lang 0 true true (r.drop 1)
theorem r92 {K : Nat} (h : 2 ≤ K) (b : UInt8) : run tab K 92 [u8 b] = some (B (isHx b)) := by
  obtain ⟨K, rfl⟩ := succK (show 1 ≤ K by omega)
  have e1 := r61 (K := K) (by omega) b
  have w : IntKind.i64.wrap (b.toNat : Int) = (b.toNat : Int) := wrapI ⟨by omega, by have := b.toNat_lt; omega⟩
  have e2 := r25 (K := K) (by omega) (b.toNat : Int) 65 70
  unfold u8 at *
  rw [eq92]; unfold sh92 tr92
  rw [e1, w, e2]
  simp only [castB_B]
  unfold isHx inR
  cases isD b with
  | true => rfl
  | false =>
    rw [Bool.false_or, show decide ((65 : Int) ≤ (b.toNat : Int)) = decide (65 ≤ b.toNat) by rw [Bool.eq_iff_iff, decide_eq_true_iff, decide_eq_true_iff]; omega, show decide ((b.toNat : Int) ≤ (70 : Int)) = decide (b.toNat ≤ 70) by rw [Bool.eq_iff_iff, decide_eq_true_iff, decide_eq_true_iff]; omega]
theorem pfx1 (c : UInt8) (x : List UInt8) : pfx [c] x = decide (x.head? = some c) := by
  unfold pfx
  cases x with
  | nil => rfl
  | cons a x =>
    show decide ([a] = [c]) = decide (some a = some c)
    rw [Bool.eq_iff_iff, decide_eq_true_iff, decide_eq_true_iff]
    simp
theorem dgF_R (at' m : Nat) (lang : Int) (b h : Bool) (x : List UInt8) (hm : m ≤ 100000) (ha : at' ≤ 100000) :
    ∃ a, (match decide ((m : Int) > (200 : Int)) with | true => (some (.agg [I 0, I 0, B false, I 2])) | false => (match decide (x.head? = some 66) with
      | true => (match b with | true => (some (AV.agg [I 4, I ((at' + 1 + m + 2 : Nat) : Int), B false, I 0])) | false => (match (lang == (0 : Int)) with
        | true => (match decide (x.head? = some 72) with | true => (match h with | true => (some (.agg [I 5, I ((at' + 1 + m + 2 : Nat) : Int), B false, I 0])) | false => (match (lang == (1 : Int)) with | true => (match decide (x.head? = some 79) with | true => (match h with | true => (match ((Int.tmod (m : Int) 2) == (0 : Int)) with | true => (some (.agg [I 5, I ((at' + 1 + m + 2 : Nat) : Int), B false, I 0])) | false => (some (.agg [I 0, I 0, B false, I 8]))) | false => (some (.agg [I 0, I 0, B false, I 8]))) | false => (some (.agg [I 0, I 0, B false, I 8]))) | false => (some (.agg [I 0, I 0, B false, I 8])))) | false => (match (lang == (1 : Int)) with | true => (match decide (x.head? = some 79) with | true => (match h with | true => (match ((Int.tmod (m : Int) 2) == (0 : Int)) with | true => (some (.agg [I 5, I ((at' + 1 + m + 2 : Nat) : Int), B false, I 0])) | false => (some (.agg [I 0, I 0, B false, I 8]))) | false => (some (.agg [I 0, I 0, B false, I 8]))) | false => (some (.agg [I 0, I 0, B false, I 8]))) | false => (some (.agg [I 0, I 0, B false, I 8]))))
        | false => (match (lang == (1 : Int)) with | true => (match decide (x.head? = some 79) with | true => (match h with | true => (match ((Int.tmod (m : Int) 2) == (0 : Int)) with | true => (some (.agg [I 5, I ((at' + 1 + m + 2 : Nat) : Int), B false, I 0])) | false => (some (.agg [I 0, I 0, B false, I 8]))) | false => (some (.agg [I 0, I 0, B false, I 8]))) | false => (some (.agg [I 0, I 0, B false, I 8]))) | false => (some (.agg [I 0, I 0, B false, I 8])))))
      | false => (match (lang == (0 : Int)) with
        | true => (match decide (x.head? = some 72) with | true => (match h with | true => (some (.agg [I 5, I ((at' + 1 + m + 2 : Nat) : Int), B false, I 0])) | false => (match (lang == (1 : Int)) with | true => (match decide (x.head? = some 79) with | true => (match h with | true => (match ((Int.tmod (m : Int) 2) == (0 : Int)) with | true => (some (.agg [I 5, I ((at' + 1 + m + 2 : Nat) : Int), B false, I 0])) | false => (some (.agg [I 0, I 0, B false, I 8]))) | false => (some (.agg [I 0, I 0, B false, I 8]))) | false => (some (.agg [I 0, I 0, B false, I 8]))) | false => (some (.agg [I 0, I 0, B false, I 8])))) | false => (match (lang == (1 : Int)) with | true => (match decide (x.head? = some 79) with | true => (match h with | true => (match ((Int.tmod (m : Int) 2) == (0 : Int)) with | true => (some (.agg [I 5, I ((at' + 1 + m + 2 : Nat) : Int), B false, I 0])) | false => (some (.agg [I 0, I 0, B false, I 8]))) | false => (some (.agg [I 0, I 0, B false, I 8]))) | false => (some (.agg [I 0, I 0, B false, I 8]))) | false => (some (.agg [I 0, I 0, B false, I 8]))))
        | false => (match (lang == (1 : Int)) with | true => (match decide (x.head? = some 79) with | true => (match h with | true => (match ((Int.tmod (m : Int) 2) == (0 : Int)) with | true => (some (.agg [I 5, I ((at' + 1 + m + 2 : Nat) : Int), B false, I 0])) | false => (some (.agg [I 0, I 0, B false, I 8]))) | false => (some (.agg [I 0, I 0, B false, I 8]))) | false => (some (.agg [I 0, I 0, B false, I 8]))) | false => (some (.agg [I 0, I 0, B false, I 8])))))) = some a ∧ PcR at' (dgF lang m b h x) a := by
  unfold dgF
  have e : at' + 1 + m + 2 = at' + (m + 3) := by omega
  rw [e]
  have hp : ((Int.tmod (m : Int) 2) == (0 : Int)) = decide (m % 2 = 0) := by
    rw [Bool.eq_iff_iff, beq_iff_eq, decide_eq_true_iff]
    show ((m : Int).tmod ((2 : Nat) : Int)) = 0 ↔ _
    rw [← Int.ofNat_tmod]
    omega
  rw [hp]
  have y2 : ∀ e : Int, ∃ a, some (AV.agg [I 0, I 0, B false, I e]) = some a ∧ PcR at' (.err e) a := fun e => ⟨_, rfl, _, _, _, rfl⟩
  have yt : ∀ t : Int, ∃ a, some (AV.agg [I t, I ((at' + (m + 3) : Nat) : Int), B false, I 0]) = some a ∧ PcR at' (.tok t (m + 3)) a := fun t => ⟨_, rfl, rfl⟩
  by_cases h2 : 200 < m
  · rw [decide_eq_true (show (m : Int) > 200 by omega), if_pos h2]
    exact y2 2
  · rw [decide_eq_false (show ¬ (m : Int) > 200 by omega), if_neg h2]
    have y8 := y2 8
    have t4 := yt 4
    have t5 := yt 5
    generalize decide (x.head? = some 66) = b1
    generalize decide (x.head? = some 72) = b2
    generalize decide (x.head? = some 79) = b3
    generalize (lang == 0) = b4
    generalize (lang == 1) = b5
    generalize decide (m % 2 = 0) = b6
    cases b1 <;> cases b2 <;> cases b3 <;> cases b4 <;> cases b5 <;> cases b6 <;> cases b <;> cases h <;> first | exact y8 | exact t4 | exact t5
theorem l64 (K : Nat) (hK : 3 ≤ K) (lang : Int) (l : List UInt8) (at' : Nat) (x7 x8 x10 : Int) (x9 : Bool) (hl : l.length ≤ 100000) : ∀ (k n : Nat) (b h : Bool), l.length - n < k → at' + 1 ≤ n → n ≤ l.length →
    ∃ a, lp64_3 K k lang (sb l) (at' : Int) (n : Int) b h x7 x8 x9 x10 = some a ∧ PcR at' (dgE lang (n - at' - 1) b h (l.drop n)) a
  | 0, n, b, h, hf, _, _ => by omega
  | k + 1, n, b, h, hf, h1, hn => by
    unfold lp64_3 tr64_3
    have w1 : IntKind.i64.wrap ((n : Int) + 1) = ((n + 1 : Nat) : Int) := wrapA (m := 1) (by omega) (by omega)
    have w2 : IntKind.i64.wrap ((n : Int) + 2) = ((n + 2 : Nat) : Int) := wrapA (m := 2) (by omega) (by omega)
    have w3 : IntKind.i64.wrap ((n : Int) - (at' : Int)) = ((n - at' : Nat) : Int) := wrapS (by omega) (by omega)
    have w4 : IntKind.i64.wrap (((n - at' : Nat) : Int) - 1) = ((n - at' - 1 : Nat) : Int) := wrapS (m := 1) (by omega) (by omega)
    have no : ∃ a, some (AV.agg [I 0, I 0, B false, I 39]) = some a ∧ PcR at' (.err 39) a := ⟨_, rfl, _, _, _, rfl⟩
    by_cases hi : n < l.length
    · have g0 := getL hi
      have e92 := r92 (K := K) (by omega) l[n]
      have e1 := r65p (K := K) (by omega) l [66] (n + 1) (by omega) (by omega) (by decide)
      have e2 := r65p (K := K) (by omega) l [72] (n + 1) (by omega) (by omega) (by decide)
      have e3 := r65p (K := K) (by omega) l [79] (n + 1) (by omega) (by omega) (by decide)
      unfold u8 at e92
      have c39 : ((l[n].toNat : Int) != (39 : Int)) = !decide (l[n] = 39) := chrN l[n] 39 (by omega)
      have c10 : ((l[n].toNat : Int) != (10 : Int)) = !decide (l[n] = 10) := chrN l[n] 10 (by omega)
      have c9 : ((l[n].toNat : Int) != (9 : Int)) = !decide (l[n] = 9) := chrN l[n] 9 (by omega)
      have c48 : ((l[n].toNat : Int) == (48 : Int)) = decide (l[n] = 48) := chr_eq l[n] 48 (by omega)
      have c49 : ((l[n].toNat : Int) == (49 : Int)) = decide (l[n] = 49) := chr_eq l[n] 49 (by omega)
      rw [decide_eq_true (show (n : Int) < ((sb l).size : Int) by rw [sb_size]; omega), decide_eq_false (show ¬ (n : Int) ≥ ((sb l).size : Int) by rw [sb_size]; omega)]
      rw [show (⟨#[66]⟩ : ByteArray) = sb [66] from rfl, show (⟨#[72]⟩ : ByteArray) = sb [72] from rfl, show (⟨#[79]⟩ : ByteArray) = sb [79] from rfl]
      simp only [if_pos (Int.natCast_nonneg n), g0, e92, castB_B, w1, w2, w3, w4, c39, c10, c9, c48, c49, e1, e2, e3, pfx1]
      rw [List.drop_eq_getElem_cons hi]
      unfold dgE
      have ih : ∀ b' h', (b && is01 l[n]) = b' → (h && isHx l[n]) = h' → ∃ a, lp64_3 K k lang (sb l) (at' : Int) ((n + 1 : Nat) : Int) b' h' x7 x8 x9 x10 = some a ∧ PcR at' (dgE lang (n - at' - 1 + 1) (b && is01 l[n]) (h && isHx l[n]) (l.drop (n + 1))) a := fun b' h' e1 e2 => by
        have := l64 K hK lang l at' x7 x8 x10 x9 hl k (n + 1) b' h' (by omega) (by omega) (by omega)
        rw [show n + 1 - at' - 1 = n - at' - 1 + 1 by omega] at this
        rw [e1, e2]
        exact this
      by_cases q39 : l[n] = 39
      · rw [decide_eq_true q39, if_pos q39]
        have := dgF_R at' (n - at' - 1) lang b h (l.drop (n + 1)) (by omega) (by omega)
        rw [show at' + 1 + (n - at' - 1) + 2 = n + 2 by omega] at this
        cases b <;> cases h <;> exact this
      · rw [decide_eq_false q39, if_neg q39]
        by_cases q10 : l[n] = 10
        · rw [decide_eq_true q10, if_pos (.inl q10)]
          exact no
        · rw [decide_eq_false q10]
          by_cases q9 : l[n] = 9
          · rw [decide_eq_true q9, if_pos (.inr q9)]
            exact no
          · rw [decide_eq_false q9, if_neg (fun h => h.elim q10 q9)]
            unfold is01 at ih ⊢
            cases b with
            | false =>
              cases h with
              | true => exact ih false (isHx l[n]) rfl rfl
              | false => exact ih false false rfl rfl
            | true =>
              by_cases q48 : l[n] = 48
              · rw [decide_eq_true q48] at ih ⊢
                cases h with
                | true => exact ih true (isHx l[n]) rfl rfl
                | false => exact ih true false rfl rfl
              · rw [decide_eq_false q48] at ih ⊢
                cases h with
                | true => exact ih (decide (l[n] = 49)) (isHx l[n]) rfl rfl
                | false => exact ih (decide (l[n] = 49)) false rfl rfl
    · rw [decide_eq_false (show ¬ (n : Int) < ((sb l).size : Int) by rw [sb_size]; omega), decide_eq_true (show (n : Int) ≥ ((sb l).size : Int) by rw [sb_size]; omega), List.drop_eq_nil_of_le (by omega)]
      exact no
theorem r64 {K : Nat} (lang : Int) (l : List UInt8) (at' : Nat) (ha : at' < l.length) (hl : l.length ≤ 100000) (hK : l.length + 10 ≤ K) : ∃ a, run tab K 64 [I lang, St (sb l), I (at' : Int)] = some a ∧ PcR at' (dgT lang (l.drop at')) a := by
  obtain ⟨K, rfl⟩ := succK (show 1 ≤ K by omega)
  have main := l64 K (by omega) lang l at' 0 0 0 false hl K (at' + 1) true true (by omega) (by omega) (by omega)
  rw [eq64]; unfold sh64 tr64 dgT
  rw [show IntKind.i64.wrap ((at' : Int) + 1) = ((at' + 1 : Nat) : Int) from wrapA (m := 1) (by omega) (by omega), List.drop_drop]
  rw [show at' + 1 - at' - 1 = 0 by omega] at main
  exact main
end Go.Proofs.YtdhbhedfbdckaaaGreatDoor

/- The reference's symbols of a language: by the kernel. -/
namespace Go.Proofs.YtdhbhedfbdckaaaGreatDoor
open Go.Dam
set_option maxRecDepth 100000
theorem eq31 (K : Nat) (n : Int) : run tab (K + 45) 31 [I n] = match (n == 0) with | true => some (.sl 9 (strsA asnSignsS)) | false => some (.sl 9 (strsA ttcnSignsS)) := by kernel_rfl
end Go.Proofs.YtdhbhedfbdckaaaGreatDoor
