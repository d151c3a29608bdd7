/- A part of an interpreter of the model's code that is proved sound, and of laws told by it: DamX3, DamX4. -/
import Derived.Test.YtdehjednpdbhaaaDoorPvE2
set_option linter.unusedVariables false
set_option linter.unusedSimpArgs false
/- Zeros trimmed; the name in a block; the entry in a block. -/
namespace Go.Proofs.YtdehjednpdbhaaaDoor
open Go.Dam
set_option linter.unusedVariables false
set_option linter.unusedSimpArgs false
def isZ (c : UInt8) : Bool := c == 0
theorem z_nat (c : UInt8) : ((c.toNat : Int) == 0) = isZ c := by
  unfold isZ
  rw [Bool.eq_iff_iff, beq_iff_eq, beq_iff_eq]
  constructor
  · intro h
    exact UInt8.toNat_inj.mp (by rw [UInt8.toNat_zero]; omega)
  · intro h
    rw [h]; rfl
theorem neI {n m : Int} (h : n ≠ m) : (n != m) = true := by simpa using h
theorem nbI {n m : Int} (h : n ≠ m) : (n == m) = false := by simpa using h
theorem beqI (n m : Int) : (n == m) = decide (n = m) := by rw [Bool.eq_iff_iff, beq_iff_eq, decide_eq_true_iff]
theorem l42 (K : Nat) : ∀ (m : List UInt8) (k : Nat), m.length < k → m.length ≤ 100000 → lp42_1 K k (sb m.reverse) 0 = some (St (sb (m.dropWhile isZ).reverse))
  | [], 0, h, _ => by simp at h
  | [], k + 1, h, _ => rfl
  | c :: m, 0, h, _ => by simp at h
  | c :: m, k + 1, h, hm => by
    simp only [List.length_cons] at h hm
    unfold lp42_1 tr42_1
    rw [sb_size, List.length_reverse, List.length_cons]
    have w : IntKind.i64.wrap (((m.length + 1 : Nat) : Int) - 1) = ((m.length : Nat) : Int) := by
      rw [wrapI ⟨by omega, by omega⟩]
      omega
    rw [w, decide_eq_true (by omega), if_pos (by omega), Int.toNat_natCast, sb_get]
    have g : (c :: m).reverse[m.length]? = some c := by
      rw [List.reverse_cons, List.getElem?_append_right (by simp)]
      simp
    rw [g]
    simp only [z_nat]
    have x : (sb (c :: m).reverse).extract (0 : Int).toNat m.length = sb m.reverse := by
      rw [sb_extract]
      simp
    rw [x]
    cases hc : isZ c with
    | true =>
      rw [List.dropWhile_cons_of_pos hc]
      simp only []
      rw [if_pos ⟨by omega, by omega, by omega⟩]
      exact l42 K m k (by omega) (by omega)
    | false => rw [List.dropWhile_cons_of_neg (by simp [hc])]
theorem l41 (K : Nat) : ∀ (m : List UInt8) (k : Nat), m.length < k → m.length ≤ 100000 → lp41_1 K k (sb m) 0 = some (St (sb (m.dropWhile isZ)))
  | [], 0, h, _ => by simp at h
  | [], k + 1, h, _ => rfl
  | c :: m, 0, h, _ => by simp at h
  | c :: m, k + 1, h, hm => by
    simp only [List.length_cons] at h hm
    unfold lp41_1 tr41_1
    rw [sb_size, List.length_cons]
    rw [decide_eq_true (by omega), if_pos (by omega), sb_get]
    have g : (c :: m)[(0 : Int).toNat]? = some c := rfl
    rw [g]
    simp only [z_nat]
    have x : (sb (c :: m)).extract (1 : Int).toNat ((m.length + 1 : Nat) : Int).toNat = sb m := by
      rw [sb_extract, Int.toNat_natCast]
      have : (c :: m).take (m.length + 1) = c :: m := List.take_of_length_le (by simp)
      rw [this]
      rfl
    rw [x]
    cases hc : isZ c with
    | true =>
      rw [List.dropWhile_cons_of_pos hc]
      simp only []
      rw [if_pos ⟨by omega, by omega, by omega⟩]
      exact l41 K m k (by omega) (by omega)
    | false => rw [List.dropWhile_cons_of_neg (by simp [hc])]
def trim0 (l : List UInt8) : List UInt8 := ((l.reverse.dropWhile isZ).reverse).dropWhile isZ
theorem dropWhile_nil {p : UInt8 → Bool} : ∀ {l : List UInt8}, l.dropWhile p = [] ↔ l.all p = true
  | [] => by simp
  | c :: l => by
    cases hc : p c with
    | true => rw [List.dropWhile_cons_of_pos hc, dropWhile_nil, List.all_cons, hc, Bool.true_and]
    | false => rw [List.dropWhile_cons_of_neg (by simp [hc]), List.all_cons, hc]; simp
theorem all_dropWhile {p : UInt8 → Bool} : ∀ {l : List UInt8}, (l.dropWhile p).all p = l.all p
  | [] => rfl
  | c :: l => by
    cases hc : p c with
    | true => rw [List.dropWhile_cons_of_pos hc, all_dropWhile, List.all_cons, hc, Bool.true_and]
    | false => rw [List.dropWhile_cons_of_neg (by simp [hc])]
theorem trim0_nil {l : List UInt8} : decide (trim0 l = []) = l.all isZ := by
  unfold trim0
  rw [Bool.eq_iff_iff, decide_eq_true_iff, dropWhile_nil, List.all_reverse, all_dropWhile, List.all_reverse]
set_option maxRecDepth 100000 in
theorem eq33 (K : Nat) (s : ByteArray) : run tab (K + 1) 33 [St s, St (⟨#[0]⟩ : ByteArray)] = (match s == (⟨#[]⟩ : ByteArray) with
    | true => some (St s)
    | false => match run tab K 42 [St s, .sc (.int .u8 0)] with
      | some r => castS r fun x => match run tab K 41 [St x, .sc (.int .u8 0)] with
        | some r => castS r fun y => some (St y)
        | none => none
      | none => none) := by kernel_rfl
theorem sb_nil : (⟨#[]⟩ : ByteArray) = sb [] := rfl
theorem r33 {K : Nat} (h : 2 ≤ K) (l : List UInt8) (hl : l.length ≤ 100000) (hK : l.length + 2 < K) : run tab K 33 [St (sb l), St (⟨#[0]⟩ : ByteArray)] = some (St (sb (trim0 l))) := by
  obtain ⟨K, rfl⟩ : ∃ k, K = k + 2 := ⟨K - 2, by omega⟩
  rw [show K + 2 = K + 1 + 1 from rfl, eq33, sb_nil, sb_beq]
  cases l with
  | nil => rfl
  | cons c l =>
    rw [decide_eq_false (by simp)]
    simp only []
    have e1 := l42 K (c :: l).reverse K (by rw [List.length_reverse]; omega) (by rw [List.length_reverse]; omega)
    rw [List.reverse_reverse] at e1
    rw [eq42]; unfold sh42 tr42
    rw [e1]
    simp only [castS_S]
    rw [eq41]; unfold sh41 tr41
    have hle : (List.dropWhile isZ (c :: l).reverse).reverse.length ≤ (c :: l).length := by
      rw [List.length_reverse]
      have := (List.dropWhile_sublist (p := isZ) (l := (c :: l).reverse)).length_le
      rw [List.length_reverse] at this
      exact this
    rw [l41 K _ K (by omega) (by omega)]
    rfl
def nmI (b : List UInt8) : List UInt8 × List UInt8 × Bool :=
  if (b.getD 0 0).toNat = 165 ∧ (b.getD 1 0).toNat ≤ 30 then ((b.drop 2).take (b.getD 1 0).toNat, (b.drop 2).drop (b.getD 1 0).toNat, true) else ([], [], false)
theorem r32 {K : Nat} (h : 1 ≤ K) (b : List UInt8) (hb : b.length = 32) : run tab K 32 [St (sb b)] = some (.tup [St (sb (nmI b).1), St (sb (nmI b).2.1), B (nmI b).2.2]) := by
  obtain ⟨K, rfl⟩ := succK h
  rw [eq32]; unfold sh32 tr32
  match b, hb with
  | c :: n :: l, hb =>
    simp only [List.length_cons] at hb
    have g0 : (sb (c :: n :: l))[(0 : Int).toNat]? = some c := by rw [sb_get]; rfl
    have g1 : (sb (c :: n :: l))[(1 : Int).toNat]? = some n := by rw [sb_get]; rfl
    have hn : n.toNat < 256 := n.toNat_lt
    have w0 : IntKind.i64.wrap (n.toNat : Int) = (n.toNat : Int) := wrapI ⟨by omega, by omega⟩
    have w1 : IntKind.i64.wrap (2 + (n.toNat : Int)) = ((2 + n.toNat : Nat) : Int) := by
      rw [wrapI ⟨by omega, by omega⟩]
      omega
    have w2 : IntKind.i64.wrap (((32 : Nat) : Int) - 2) = 30 := rfl
    have hsz : (sb (c :: n :: l)).size = 32 := by rw [sb_size, List.length_cons, List.length_cons]; omega
    rw [if_pos (by omega), g0]
    simp only [hsz]
    unfold nmI
    simp only [List.getD_cons_zero, List.getD_cons_succ, w0, w1, w2, List.drop_succ_cons, List.drop_zero]
    by_cases hc : c.toNat = 165
    · rw [show ((c.toNat : Int) != 165) = false by simp [hc]]
      simp only [hc, true_and]
      rw [if_pos (by omega), g1]
      simp only [w0, w1]
      by_cases hn : n.toNat ≤ 30
      · rw [decide_eq_false (by omega), if_pos hn]
        simp only []
        rw [if_pos ⟨by omega, by omega, by omega⟩, if_pos ⟨by omega, by omega, by omega⟩]
        rw [sb_extract, sb_extract, Int.toNat_natCast]
        have e1 : ((c :: n :: l).take (2 + n.toNat)).drop (2 : Int).toNat = l.take n.toNat := by
          rw [Nat.add_comm]
          rfl
        have e2 : ((c :: n :: l).take ((32 : Nat) : Int).toNat).drop (2 + n.toNat) = l.drop n.toNat := by
          rw [Int.toNat_natCast, List.take_of_length_le (by simp; omega), Nat.add_comm]
          rfl
        rw [e1, e2]
      · rw [decide_eq_true (by omega), if_neg hn]
        rfl
    · rw [neI (show (c.toNat : Int) ≠ 165 by omega), if_neg (show ¬ (c.toNat = 165 ∧ n.toNat ≤ 30) from fun hh => hc hh.1)]
      rfl
def dgF : Int → List UInt8 → Int
  | d, [] => d
  | d, c :: l => dgF (d * 256 + (c.toNat : Int)) l
def noE : En := ⟨[], 0, 0, 0⟩
def xOf (nm r : List UInt8) : En := ⟨nm, dgF 0 (r.take 5), ((r.getD 5 0).toNat : Int), ((r.getD 6 0).toNat : Int)⟩
def entO (b : List UInt8) : En × Bool :=
  if (nmI b).2.2 = true ∧ 8 ≤ (nmI b).2.1.length then
    (xOf (nmI b).1 (nmI b).2.1, decide (((nmI b).2.1.getD 7 0).toNat = 90) && ((nmI b).2.1.drop 8).all isZ && decide (eErr (xOf (nmI b).1 (nmI b).2.1) = 0))
  else (noE, false)
theorem or_step {d : Int} {c : UInt8} (h0 : 0 ≤ d) (h1 : d < 4294967296) : IntKind.i64.wrap ((BitVec.ofInt (IntKind.bits .i64) (IntKind.i64.wrap (d * 2 ^ 8)) ||| BitVec.ofInt (IntKind.bits .i64) (IntKind.i64.wrap (c.toNat : Int))).toNat) = d * 256 + (c.toNat : Int) := by
  have hc : c.toNat < 256 := c.toNat_lt
  obtain ⟨n, rfl⟩ : ∃ n : Nat, d = (n : Int) := ⟨d.toNat, by omega⟩
  have e8 : (2 : Int) ^ 8 = 256 := by decide
  rw [wrapI (n := (c.toNat : Int)) ⟨by omega, by omega⟩, e8, wrapI (n := (n : Int) * 256) ⟨by omega, by omega⟩]
  have hb : IntKind.bits .i64 = 64 := rfl
  rw [hb]
  have h3 : (BitVec.ofInt 64 ((n : Int) * 256)) = BitVec.ofNat 64 (n * 256) := by
    rw [show (n : Int) * 256 = ((n * 256 : Nat) : Int) by omega, BitVec.ofInt_natCast]
  rw [h3, BitVec.ofInt_natCast, BitVec.toNat_or, BitVec.toNat_ofNat, BitVec.toNat_ofNat, Nat.mod_eq_of_lt (by omega), Nat.mod_eq_of_lt (by omega)]
  have h4 : n * 256 ||| c.toNat = n * 256 + c.toNat := by
    have := Nat.two_pow_add_eq_or_of_lt (i := 8) (b := c.toNat) (by omega) n
    rw [Nat.mul_comm n 256]
    exact this.symm
  rw [h4, wrapI ⟨by omega, by omega⟩]
  omega
theorem l24_end (K k : Nat) (R : ByteArray) (cs : LA) (nm : ByteArray) (d : Int) : lp24_6 K (k + 1) R cs 5 5 ByteArray.empty 0 0 0 nm d 0 0 = lp24_6 K 1 R cs 5 5 ByteArray.empty 0 0 0 nm d 0 0 := by
  unfold lp24_6 tr24_6
  rw [decide_eq_false (by omega)]
set_option maxRecDepth 100000 in
theorem l24 (K : Nat) (R : ByteArray) (ds : List UInt8) (hd : ds.length = 5) (nm : ByteArray) : ∀ (k n : Nat) (d : Int), 5 - n < k → n ≤ 5 → 0 ≤ d → d < 256 ^ n → lp24_6 K k R (ds.map u8) 5 (n : Int) ByteArray.empty 0 0 0 nm d 0 0 = lp24_6 K 1 R (ds.map u8) 5 5 ByteArray.empty 0 0 0 nm (dgF d (ds.drop n)) 0 0
  | 0, n, d, h, _, _, _ => by omega
  | k + 1, n, d, h, hn, h0, h1 => by
    by_cases hi : n < 5
    · have hlt : d < 4294967296 := by
        have : (256 : Int) ^ n ≤ 256 ^ 4 := by
          have := Nat.pow_le_pow_right (n := 256) (by omega) (show n ≤ 4 by omega)
          exact_mod_cast this
        have e4 : (256 : Int) ^ 4 = 4294967296 := by decide
        omega
      have hc : ds[n].toNat < 256 := ds[n].toNat_lt
      have ih := l24 K R ds hd nm k (n + 1) (d * 256 + (ds[n].toNat : Int)) (by omega) (by omega) (by omega) (by rw [Int.pow_succ]; omega)
      rw [lp24_6]; unfold tr24_6
      rw [decide_eq_true (show (n : Int) < 5 by omega), if_pos (by omega), Int.toNat_natCast, List.getElem?_map, List.getElem?_eq_getElem (by omega)]
      simp only [Option.map_some, castU]
      rw [or_step h0 hlt, wrapN (by omega), ih, List.drop_eq_getElem_cons (show n < ds.length by omega)]
      rfl
    · have : n = 5 := by omega
      subst this
      have e := l24_end K k R (ds.map u8) nm d
      rw [List.drop_eq_nil_of_le (by omega)]
      exact e
set_option maxRecDepth 100000 in
theorem r24 {K : Nat} (h : 200 ≤ K) (b : List UInt8) (hb : b.length = 32) : run tab K 24 [St (sb b)] = some (.tup [enA (entO b).1, B (entO b).2]) := by
  obtain ⟨K, rfl⟩ := succK (show 1 ≤ K by omega)
  rw [eq24]; unfold sh24 tr24
  rw [r32 (by omega) b hb]
  simp only [compN, List.getD_cons_zero, List.getD_cons_succ, castS_S, castB_B]
  have hle : (nmI b).2.1.length ≤ 32 := by
    unfold nmI
    split
    · simp; omega
    · simp
  unfold entO
  generalize (nmI b).1 = nm at *
  generalize (nmI b).2.1 = r at *
  cases (nmI b).2.2 with
  | false => rfl
  | true =>
    simp only [Bool.not_true, true_and]
    rw [sb_size]
    by_cases h8 : 8 ≤ r.length
    · rw [decide_eq_false (by omega), if_pos h8]
      simp only []
      rw [if_pos ⟨by omega, by omega, by omega⟩, sb_extract]
      have e1 : (r.take (5 : Int).toNat).drop (0 : Int).toNat = r.take 5 := rfl
      rw [e1, sb_size, Nat.ble_eq_true_of_le (by rw [List.length_take]; omega)]
      simp only []
      have hm : ((sb (r.take 5)).data.toList.map fun c => AV.sc (.int .u8 (c.toNat : Int))) = (r.take 5).map u8 := rfl
      have h5 : (r.take 5).length = 5 := by rw [List.length_take]; omega
      rw [hm, List.length_map, h5]
      have e2 := l24 K (sb r) (r.take 5) h5 (sb nm) K 0 0 (by omega) (by omega) (by omega) (by decide)
      have e2 : lp24_6 K K (sb r) ((r.take 5).map u8) ((5 : Nat) : Int) 0 ByteArray.empty 0 0 0 (sb nm) 0 0 0 = lp24_6 K 1 (sb r) ((r.take 5).map u8) 5 5 ByteArray.empty 0 0 0 (sb nm) (dgF 0 (r.take 5)) 0 0 := e2
      rw [e2]
      have g : ∀ i : Nat, i < 8 → (sb r)[(i : Int).toNat]? = some (r.getD i 0) := fun i hi => by
        rw [sb_get, Int.toNat_natCast, List.getD_eq_getElem?_getD, List.getElem?_eq_getElem (by omega)]
        rfl
      have g5 : (sb r)[(5 : Int).toNat]? = some (r.getD 5 0) := g 5 (by omega)
      have g6 : (sb r)[(6 : Int).toNat]? = some (r.getD 6 0) := g 6 (by omega)
      have g7 : (sb r)[(7 : Int).toNat]? = some (r.getD 7 0) := g 7 (by omega)
      have w5 : IntKind.i64.wrap ((r.getD 5 0).toNat : Int) = ((r.getD 5 0).toNat : Int) := wrapI ⟨by omega, by have := (r.getD 5 0).toNat_lt; omega⟩
      have w6 : IntKind.i64.wrap ((r.getD 6 0).toNat : Int) = ((r.getD 6 0).toNat : Int) := wrapI ⟨by omega, by have := (r.getD 6 0).toNat_lt; omega⟩
      have e8 : (r.take r.length).drop 8 = r.drop 8 := by rw [List.take_length]
      have e3 : run tab K 33 [St ((sb r).extract (8 : Int).toNat (r.length : Int).toNat), St (⟨#[0]⟩ : ByteArray)] = some (St (sb (trim0 (r.drop 8)))) := by
        rw [sb_extract, Int.toNat_natCast]
        have : (8 : Int).toNat = 8 := rfl
        rw [this, e8]
        exact r33 (by omega) _ (by rw [List.length_drop]; omega) (by rw [List.length_drop]; omega)
      have e4 := r26 (K := K) (by omega) (xOf nm r)
      have e5 : enA (xOf nm r) = .agg [St (sb nm), I (dgF 0 (r.take 5)), I ((r.getD 5 0).toNat : Int), I ((r.getD 6 0).toNat : Int)] := rfl
      rw [lp24_6]; unfold tr24_6
      rw [decide_eq_false (by omega)]
      simp only []
      rw [if_pos (by omega), g5]
      simp only []
      rw [if_pos (by omega), g6]
      simp only []
      rw [sb_size, if_pos ⟨by omega, by omega, by omega⟩, e3]
      simp only [castS_S]
      rw [if_pos (by omega), g7]
      simp only [w5, w6]
      rw [← e5, e4, sb_nil, sb_beq, trim0_nil]
      simp only [castI_I]
      by_cases h7 : (r.getD 7 0).toNat = 90
      · rw [show (((r.getD 7 0).toNat : Int) == 90) = true by rw [h7]; rfl, decide_eq_true h7]
        cases (r.drop 8).all isZ with
        | true =>
          simp only [Bool.true_and, beqI]
        | false => rfl
      · rw [nbI (show ((r.getD 7 0).toNat : Int) ≠ 90 by omega), decide_eq_false h7]
        rfl
    · rw [decide_eq_true (by omega), if_neg h8]
      rfl
end Go.Proofs.YtdehjednpdbhaaaDoor

/- Journals as lists of blocks; entries; what is written; the errors of writes. -/
namespace Go.Proofs.YtdehjednpdbhaaaDoor
open Go.Dam
set_option linter.unusedVariables false
set_option linter.unusedSimpArgs false
def W32 (Bs : List (List UInt8)) : Prop := ∀ b ∈ Bs, b.length = 32
theorem W32.tail {b : List UInt8} {Bs : List (List UInt8)} (h : W32 (b :: Bs)) : W32 Bs := fun x hx => h x (List.mem_cons_of_mem _ hx)
theorem W32.head {b : List UInt8} {Bs : List (List UInt8)} (h : W32 (b :: Bs)) : b.length = 32 := h b (List.mem_cons_self ..)
theorem W32.append {a b : List (List UInt8)} (ha : W32 a) (hb : W32 b) : W32 (a ++ b) := fun x hx => (List.mem_append.mp hx).elim (ha x) (hb x)
theorem flat_len : ∀ {Bs : List (List UInt8)}, W32 Bs → Bs.flatten.length = 32 * Bs.length
  | [], _ => rfl
  | b :: Bs, h => by rw [List.flatten_cons, List.length_append, h.head, flat_len h.tail, List.length_cons]; omega
theorem chunk_flat : ∀ {Bs : List (List UInt8)} (k : Nat), W32 Bs → Bs.length ≤ k → chunkL k Bs.flatten = Bs
  | [], 0, _, _ => rfl
  | [], k + 1, _, _ => rfl
  | b :: Bs, 0, h, hk => by simp at hk
  | b :: Bs, k + 1, h, hk => by
    simp only [List.length_cons] at hk
    have hb := h.head
    unfold chunkL
    have hne : (b :: Bs).flatten.isEmpty = false := by
      cases b with
      | nil => simp at hb
      | cons c b => rfl
    rw [hne, List.flatten_cons]
    have e1 : (b ++ Bs.flatten).take 32 = b := by rw [← hb, List.take_left]
    have e2 : (b ++ Bs.flatten).drop 32 = Bs.flatten := by rw [← hb, List.drop_left]
    rw [e1, e2, chunk_flat k h.tail (by omega)]
    rfl
theorem blocks_flat {Bs : List (List UInt8)} (h : W32 Bs) : blocksL Bs.flatten = Bs := chunk_flat _ h (by rw [flat_len h]; omega)
theorem r17 {K : Nat} (hK : 1 ≤ K) {Bs : List (List UInt8)} (h : W32 Bs) (hl : Bs.length ≤ 48) : run tab K 17 [St (sb Bs.flatten)] = some (.sl 9 (Bs.map strA)) := by
  obtain ⟨K, rfl⟩ := succK hK
  have e : tab.ext 17 = some extBlocks := rfl
  have e2 : run tab (K + 1) 17 [St (sb Bs.flatten)] = extBlocks [St (sb Bs.flatten)] := by
    conv => lhs; unfold run
    rw [e]
  rw [e2]
  have hs : (sb Bs.flatten).size = 32 * Bs.length := by rw [sb_size, flat_len h]
  have hb : (Nat.ble (sb Bs.flatten).size 1536 && Nat.beq ((sb Bs.flatten).size % 32) 0) = true := by
    rw [Bool.and_eq_true]
    exact ⟨Nat.ble_eq_true_of_le (by omega), by rw [hs, Nat.mul_mod_right]; rfl⟩
  show (if Nat.ble (sb Bs.flatten).size 1536 && Nat.beq ((sb Bs.flatten).size % 32) 0 then some (AV.sl 9 ((blocksL (bl (sb Bs.flatten))).map strA)) else none) = _
  rw [if_pos hb, bl_sb, blocks_flat h]
theorem strA_eq (b : List UInt8) : strA b = St (sb b) := rfl
/-- The entries of blocks. -/
def entB : List (List UInt8) → List En
  | [] => []
  | b :: Bs => if (entO b).2 = true then (entO b).1 :: entB Bs else []
theorem entB_le : ∀ Bs, (entB Bs).length ≤ Bs.length
  | [] => Nat.le_refl _
  | b :: Bs => by
    unfold entB
    split
    · simp only [List.length_cons]
      have := entB_le Bs
      omega
    · simp
theorem l16 (K : Nat) (hK : 200 ≤ K) (Bs : List (List UInt8)) (h : W32 Bs) (hl : Bs.length ≤ 1000) : ∀ (k n : Nat) (acc : List En), Bs.length - n < k → n ≤ Bs.length → acc.length ≤ n → lp16_3 K k (acc.map enA) (Bs.map strA) (Bs.length : Int) (n : Int) = some (.sl 46 ((acc ++ entB (Bs.drop n)).map enA))
  | 0, n, acc, hk, _, _ => by omega
  | k + 1, n, acc, hk, hn, ha => by
    unfold lp16_3 tr16_3
    by_cases hi : n < Bs.length
    · have ih := l16 K hK Bs h hl k (n + 1) (acc ++ [(entO Bs[n]).1]) (by omega) (by omega) (by simp; omega)
      rw [decide_eq_true (show (n : Int) < (Bs.length : Int) by omega), if_pos (by omega), Int.toNat_natCast, List.getElem?_map, List.getElem?_eq_getElem hi, List.drop_eq_getElem_cons hi, wrapN (by omega)]
      simp only [Option.map_some, strA_eq, castS_S]
      rw [r24 hK Bs[n] (h _ (List.getElem_mem _))]
      have c0 : ∀ x, compN (.tup [enA (entO Bs[n]).1, B x]) 0 = enA (entO Bs[n]).1 := fun _ => rfl
      have c1 : ∀ x, compN (.tup [enA (entO Bs[n]).1, B x]) 1 = B x := fun _ => rfl
      simp only [c0, c1, castEn, castB_B]
      have e1 : ([.agg [St (sb (entO Bs[n]).1.nm), I (entO Bs[n]).1.dg, I (entO Bs[n]).1.vd, I (entO Bs[n]).1.tn]] : LA) = [(entO Bs[n]).1].map enA := rfl
      rw [e1, ← List.map_append]
      unfold entB
      cases hb : (entO Bs[n]).2 with
      | false => simp
      | true =>
        simp only [Bool.not_true, if_true]
        rw [if_pos (by simp [maxBytes]; omega), ih]
        simp
    · rw [decide_eq_false (by omega), List.drop_eq_nil_of_le (by omega)]
      simp [entB]
theorem r16 {K : Nat} (hK : 1002 ≤ K) {Bs : List (List UInt8)} (h : W32 Bs) (hl : Bs.length ≤ 48) : run tab K 16 [St (sb Bs.flatten)] = some (.sl 46 ((entB Bs).map enA)) := by
  obtain ⟨K, rfl⟩ := succK (show 1 ≤ K by omega)
  rw [eq16]; unfold sh16 tr16
  rw [r17 (by omega) h hl]
  simp only [castL_L]
  rw [List.length_map]
  exact l16 K (by omega) Bs h (by omega) K 0 [] (by omega) (by omega) (by simp)
theorem r15' {K : Nat} (hK : 1 ≤ K) {Bs : List (List UInt8)} (h : W32 Bs) (hl : Bs.length ≤ 48) : run tab K 15 [St (sb Bs.flatten)] = some (I 0) := r15 hK _ (by rw [flat_len h]; omega) (by rw [flat_len h]; omega)
theorem r12 {K : Nat} (hK : 1003 ≤ K) {Bs : List (List UInt8)} (h : W32 Bs) (hl : Bs.length ≤ 48) : run tab K 12 [St (sb Bs.flatten)] = some (.tup [.sl 46 ((entB Bs).map enA), I ((entB Bs).length : Int), I 0]) := by
  obtain ⟨K, rfl⟩ := succK (show 1 ≤ K by omega)
  rw [eq12]; unfold sh12 tr12
  rw [r15' (by omega) h hl, r16 (by omega) h hl]
  simp only [castI_I, castL_L]
  rw [List.length_map]
  rfl
def blk (e : En) : List UInt8 := padL (recL e.nm e.dg e.vd e.tn)
theorem nm_len {e : En} (h : eErr e = 0) : isNm e.nm = true ∧ rgE e = true ∧ e.nm.length ≤ 20 ∧ 1 ≤ e.nm.length := by
  unfold eErr at h
  split at h
  · rename_i hn
    split at h
    · rename_i hr
      refine ⟨hn, hr, ?_⟩
      cases hx : e.nm with
      | nil => rw [hx] at hn; cases hn
      | cons c l =>
        rw [hx, isNm_cons, Bool.and_eq_true, Bool.and_eq_true, decide_eq_true_iff] at hn
        simp only [List.length_cons]
        omega
    · cases h
  · cases h
theorem rec_len (e : En) : (recL e.nm e.dg e.vd e.tn).length = e.nm.length + 10 := by
  unfold recL
  simp
theorem blk_len {e : En} (h : e.nm.length ≤ 22) : (blk e).length = 32 := by
  unfold blk padL
  rw [List.length_append, List.length_replicate, rec_len]
  omega
theorem r19 {K : Nat} (hK : 1 ≤ K) (e : En) (h : e.nm.length ≤ 22) : run tab K 19 [enA e] = some (St (sb (blk e))) := by
  obtain ⟨K, rfl⟩ := succK hK
  have e1 : tab.ext 19 = some extBlock := rfl
  have e2 : run tab (K + 1) 19 [enA e] = extBlock [enA e] := by
    conv => lhs; unfold run
    rw [e1]
  rw [e2]
  show (if Nat.ble (sb e.nm).size 22 then some (strA (padL (recL (bl (sb e.nm)) e.dg e.vd e.tn))) else none) = _
  rw [if_pos (Nat.ble_eq_true_of_le (by rw [sb_size]; exact h))]
  rfl
abbrev Wr := Nat × List UInt8
def wA (w : Wr) : AV := .agg [I (w.1 : Int), St (sb w.2)]
def wsL : Nat → List En → List Wr
  | _, [] => []
  | n, e :: l => (n, blk e) :: wsL (n + 1) l
theorem wsL_cons (n : Nat) (e : En) (l : List En) : wsL n (e :: l) = (n, blk e) :: wsL (n + 1) l := rfl
theorem wsL_len : ∀ (l : List En) (n : Nat), (wsL n l).length = l.length
  | [], _ => rfl
  | e :: l, n => by unfold wsL; rw [List.length_cons, List.length_cons, wsL_len l]
theorem wsL_at : ∀ (l : List En) (n : Nat), ∀ w ∈ wsL n l, w.1 < n + l.length ∧ ∃ e ∈ l, w.2 = blk e
  | [], _, w, hw => by cases hw
  | e :: l, n, w, hw => by
    unfold wsL at hw
    rcases List.mem_cons.mp hw with rfl | hw
    · exact ⟨by simp, e, List.mem_cons_self .., rfl⟩
    · obtain ⟨h1, e', h2, h3⟩ := wsL_at l (n + 1) w hw
      exact ⟨by simp only [List.length_cons]; omega, e', List.mem_cons_of_mem _ h2, h3⟩
theorem wsL_app : ∀ (a b : List En) (n : Nat), wsL n (a ++ b) = wsL n a ++ wsL (n + a.length) b
  | [], b, n => rfl
  | e :: a, b, n => by
    rw [List.cons_append, wsL_cons, wsL_cons, wsL_app a b (n + 1), List.cons_append, List.length_cons, show n + 1 + a.length = n + (a.length + 1) by omega]
theorem l6 (K N : Nat) (hK : 1 ≤ K) (hN : N ≤ 1000) (l : List En) (hl : l.length ≤ 1000) (hx : ∀ e ∈ l, e.nm.length ≤ 22) : ∀ (k n : Nat), l.length - n < k → n ≤ l.length → lp6_14 K k (N : Int) ((wsL N (l.take n)).map wA) (l.map enA) (l.length : Int) (n : Int) = some (.tup [.sl 57 ((wsL N l).map wA), I 0])
  | 0, n, hk, _ => by omega
  | k + 1, n, hk, hn => by
    unfold lp6_14 tr6_14
    by_cases hi : n < l.length
    · have ih := l6 K N hK hN l hl hx k (n + 1) (by omega) (by omega)
      rw [decide_eq_true (show (n : Int) < (l.length : Int) by omega), if_pos (by omega), enA_get l n hi, wrapN (by omega)]
      simp only [castEn]
      have e := r19 hK l[n] (hx _ (List.getElem_mem _))
      unfold enA at e
      rw [e]
      simp only [castS_S]
      have w1 : IntKind.i64.wrap ((N : Int) + (n : Int)) = ((N + n : Nat) : Int) := by
        rw [wrapI ⟨by omega, by omega⟩]; omega
      have e1 : ([.agg [I ((N + n : Nat) : Int), St (sb (blk l[n]))]] : LA) = [((N + n, blk l[n]) : Wr)].map wA := rfl
      have e2 : wsL N (l.take n) ++ [((N + n, blk l[n]) : Wr)] = wsL N (l.take (n + 1)) := by
        rw [List.take_succ_eq_append_getElem hi, wsL_app, List.length_take, Nat.min_eq_left (by omega)]
        rfl
      rw [w1, e1, ← List.map_append, e2, ih, if_pos]
      rw [List.length_map, wsL_len, List.length_take, List.length_map]
      simp [maxBytes]
      omega
    · have : n = l.length := by omega
      subst this
      rw [decide_eq_false (by omega), List.take_length]
theorem r6 {K : Nat} (hK : 1003 ≤ K) {Bs : List (List UInt8)} (h : W32 Bs) (he : (entB Bs).length = Bs.length) (l : List En) (hr : errL l = 0) (hl : Bs.length + l.length ≤ 48) : run tab K 6 [St (sb Bs.flatten), .sl 46 (l.map enA)] = some (.tup [.sl 57 ((wsL Bs.length l).map wA), I 0]) := by
  obtain ⟨K, rfl⟩ := succK (show 1 ≤ K by omega)
  rw [eq6]; unfold sh6 tr6
  obtain ⟨i, e18⟩ := r18 (K := K) (by omega) l (by omega)
  rw [r15' (by omega) h (by omega), r16 (by omega) h (by omega), r17 (by omega) h (by omega), e18]
  have hz : ((0 : Int) != 0) = false := rfl
  simp only [castI_I, castL_L, compN, List.getD_cons_zero, List.getD_cons_succ, hr, hz]
  simp only [List.length_map]
  have w1 : IntKind.i64.wrap ((Bs.length : Int) + (l.length : Int)) = ((Bs.length + l.length : Nat) : Int) := by
    rw [wrapI ⟨by omega, by omega⟩]; omega
  rw [he, show ((Bs.length : Int) != (Bs.length : Int)) = false by simp, w1, decide_eq_false (by omega)]
  exact l6 K Bs.length (by omega) (by omega) l (by omega) (fun e he => by
    have := nm_len ((errL_zero l).mp hr e he)
    omega) K 0 (by omega) (by omega)
def nI (l : List Nat) : LA := l.map fun n : Nat => I (n : Int)
theorem r28 {K : Nat} (hK : 1 ≤ K) (n : Nat) (h : n ≤ 32) : run tab K 28 [I (n : Int)] = some (B false) := by
  obtain ⟨K, rfl⟩ := succK hK
  rw [eq28]; unfold sh28 tr28
  rw [decide_eq_false (by omega), decide_eq_false (by omega)]
theorem l36 (K : Nat) (hK : 1 ≤ K) (l : List Nat) (hl : l.length ≤ 1000) (hx : ∀ n ∈ l, n ≤ 32) : ∀ (k n : Nat), l.length - n < k → n ≤ l.length → lp36_2 K k (nI l) (.fn 28 []) (l.length : Int) (n : Int) = some (I (-1))
  | 0, n, hk, _ => by omega
  | k + 1, n, hk, hn => by
    unfold lp36_2 tr36_2
    by_cases hi : n < l.length
    · have ih := l36 K hK l hl hx k (n + 1) (by omega) (by omega)
      have g : (nI l)[(n : Int).toNat]? = some (I (l[n] : Int)) := by
        unfold nI
        rw [Int.toNat_natCast, List.getElem?_map, List.getElem?_eq_getElem hi]
        rfl
      rw [decide_eq_true (show (n : Int) < (l.length : Int) by omega), if_pos (by omega), g, wrapN (by omega)]
      have e : run tab K 28 ([I (l[n] : Int)] ++ ([] : LA)) = some (B false) := r28 hK _ (hx _ (List.getElem_mem _))
      simp only [castI_I, castFn, e, castB_B, ih]
    · rw [decide_eq_false (by omega)]
theorem r27 {K : Nat} (hK : 1003 ≤ K) (l : List Nat) (hl : l.length ≤ 1000) (hx : ∀ n ∈ l, n ≤ 32) : run tab K 27 [.sl 3 (nI l), .fn 28 []] = some (B false) := by
  obtain ⟨K, rfl⟩ : ∃ k, K = k + 2 := ⟨K - 2, by omega⟩
  rw [show K + 2 = K + 1 + 1 from rfl, eq27]; unfold sh27 tr27
  rw [eq36]; unfold sh36 tr36
  have hlen : (nI l).length = l.length := by unfold nI; rw [List.length_map]
  have e : lp36_2 K K (nI l) (.fn 28 []) (l.length : Int) 0 = some (I (-1)) := l36 K (by omega) l hl hx K 0 (by omega) (by omega)
  rw [hlen, e]
  rfl
theorem l20 (K : Nat) (hK : 1003 ≤ K) (ws : List Wr) (ks : List Nat) (hl : ws.length ≤ 96) (hw : ∀ w ∈ ws, w.1 < 48 ∧ w.2.length = 32) (hk : ks.length = ws.length) (hx : ∀ n ∈ ks, n ≤ 32) : ∀ (k n : Nat), ws.length - n < k → n ≤ ws.length → lp20_4 K k (ws.map wA) (nI ks) (ws.map wA) (ws.length : Int) (n : Int) = some (I 0)
  | 0, n, h, _ => by omega
  | k + 1, n, h, hn => by
    unfold lp20_4 tr20_4
    by_cases hi : n < ws.length
    · have ih := l20 K hK ws ks hl hw hk hx k (n + 1) (by omega) (by omega)
      have g : (ws.map wA)[(n : Int).toNat]? = some (wA ws[n]) := by
        rw [Int.toNat_natCast, List.getElem?_map, List.getElem?_eq_getElem hi]
        rfl
      rw [decide_eq_true (show (n : Int) < (ws.length : Int) by omega), if_pos (by omega), g, wrapN (by omega)]
      have c0 : cellN (wA ws[n]) 0 = I (ws[n].1 : Int) := rfl
      have c1 : cellN (wA ws[n]) 1 = St (sb ws[n].2) := rfl
      obtain ⟨h1, h2⟩ := hw ws[n] (List.getElem_mem _)
      simp only [c0, c1, castI_I, castS_S]
      rw [decide_eq_false (by omega), decide_eq_false (by omega), sb_size, h2, ih]
      rfl
    · have hlen : (nI ks).length = ks.length := by unfold nI; rw [List.length_map]
      rw [decide_eq_false (by omega), hlen, List.length_map, hk, show ((ws.length : Int) != (ws.length : Int)) = false by simp, r27 hK ks (by omega) hx]
      rfl
theorem r20 {K : Nat} (hK : 1004 ≤ K) (ws : List Wr) (ks : List Nat) (hl : ws.length ≤ 96) (hw : ∀ w ∈ ws, w.1 < 48 ∧ w.2.length = 32) (hk : ks.length = ws.length) (hx : ∀ n ∈ ks, n ≤ 32) : run tab K 20 [.sl 57 (ws.map wA), .sl 3 (nI ks)] = some (I 0) := by
  obtain ⟨K, rfl⟩ := succK (show 1 ≤ K by omega)
  rw [eq20]; unfold sh20 tr20
  rw [List.length_map, decide_eq_false (by omega)]
  exact l20 K (by omega) ws ks hl hw hk hx K 0 (by omega) (by omega)
end Go.Proofs.YtdehjednpdbhaaaDoor
