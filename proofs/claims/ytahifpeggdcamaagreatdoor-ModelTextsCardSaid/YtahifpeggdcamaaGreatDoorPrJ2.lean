/- A part of an interpreter of the model's code that is proved sound, and of laws told by it: DamB4, DamB5. -/
import Derived.Test.YtahifpeggdcamaaGreatDoorPrJ1
set_option linter.unusedVariables false
set_option linter.unusedSimpArgs false
/- The model's numbers of a piece of text. -/
namespace Go.Proofs.YtahifpeggdcamaaGreatDoor
open Go.Dam
set_option linter.unusedVariables false
set_option linter.unusedSimpArgs false
theorem ix_any (l : List UInt8) : decide (ixOf (l.findIdx? noDig) ≥ 0) = l.any noDig := by
  rw [← List.findIdx?_isSome]
  cases l.findIdx? noDig with
  | none => rfl
  | some i => simp [ixOf]
theorem rs120 {K : Nat} (h : 1 ≤ K) (l : List UInt8) : run tab K 120 [St (sb l), .fn 69 [], B true] = some (I (ixOf (l.findIdx? noDig))) := by
  obtain ⟨K, rfl⟩ := succK h
  rfl
theorem rs68 {K : Nat} (h : 3 ≤ K) (l : List UInt8) : run tab K 68 [St (sb l), .fn 69 []] = some (B (l.any noDig)) := by
  obtain ⟨K, rfl⟩ : ∃ k, K = k + 1 + 1 := ⟨K - 2, by omega⟩
  have e := rs120 (K := K) (by omega) l
  rw [eq68]; unfold sh68 tr68
  rw [eq86]; unfold sh86 tr86
  rw [e]
  simp only [castI_I]
  rw [ix_any]
theorem any_all (l : List UInt8) : (!(l.any noDig)) = l.all dgt := by
  rw [List.all_eq_not_any_not]
  congr 2
  funext b
  unfold dgt
  simp
theorem rs70 {K : Nat} (h : 1 ≤ K) {d : List UInt8} (h1 : 1 ≤ d.length) (h4 : d.length ≤ 4) (ha : d.all dgt = true) : run tab K 70 [St (sb d)] = some (.tup [I (val d), .sc .nilIface]) := by
  obtain ⟨K, rfl⟩ := succK h
  rw [show run tab (K + 1) 70 [St (sb d)] = extAtoi [St (sb d)] from rfl]
  unfold extAtoi
  simp only []
  rw [show Nat.ble (sb d).size 18 = true from Nat.ble_eq_true_of_le (by rw [sb_size]; omega)]
  rw [show (sb d).data.toList = d from rfl, atoi_num ha h1]
  rfl
/-- What is done with a piece. -/
noncomputable def pieceQ (K : Nat) (s : ByteArray) (bad : OA) (good : Int → OA) : OA :=
  match decide ((s.size : Int) > (0 : Int)) with | true => (match decide ((s.size : Int) ≤ (4 : Int)) with | true => (match run tab K 68 [St s, .fn 69 []] with | some r => (castB r fun b => match (!(!b)) with | true => bad | false => (match decide ((s.size : Int) > (1 : Int)) with | true => (if 0 ≤ (0 : Int) then (match s[(0 : Int).toNat]? with | some c => (match ((c.toNat : Int) == (48 : Int)) with | true => bad | false => (match run tab K 70 [St s] with | some r => (castI .i64 (compN r 0) fun n => castP (compN r 1) fun q => good n) | none => none)) | none => none) else none) | false => (match run tab K 70 [St s] with | some r => (castI .i64 (compN r 0) fun n => castP (compN r 1) fun q => good n) | none => none))) | none => none) | false => bad) | false => bad
noncomputable def itemQ (K : Nat) (l : List AV) (i : Nat) (bad fin : OA) (good : Int → OA) : OA :=
  match decide ((i : Int) < (l.length : Int)) with | true => (match l[i]? with | some x => (castS x fun s => pieceQ K s bad good) | none => none) | false => fin
def ag4 (a b c d : Int) (x : Bool) : OA := some (.tup [.agg [I a, I b, I c, I d], B x])
set_option maxRecDepth 100000 in
theorem sh43_eq (K : Nat) (s : ByteArray) : sh43 K s = match run tab K 67 [St s, St (⟨#[32]⟩ : ByteArray)] with
    | some r => (castL 9 r fun l => match ((l.length : Int) != (4 : Int)) with
      | true => ag4 0 0 0 0 false
      | false => itemQ K l 0 (ag4 0 0 0 0 false) (ag4 0 0 0 0 true) fun a => itemQ K l 1 (ag4 a 0 0 0 false) (ag4 a 0 0 0 true) fun b => itemQ K l 2 (ag4 a b 0 0 false) (ag4 a b 0 0 true) fun c => itemQ K l 3 (ag4 a b c 0 false) (ag4 a b c 0 true) fun d => itemQ K l 4 (ag4 a b c d false) (ag4 a b c d true) fun _ => none)
    | none => none := by kernel_rfl
theorem pieceQ_eq {K : Nat} (h : 3 ≤ K) (d : List UInt8) (bad : OA) (good : Int → OA) : pieceQ K (sb d) bad good = if numP d = true then good (val d) else bad := by
  unfold pieceQ numP
  rw [sb_size]
  by_cases h1 : 1 ≤ d.length
  · rw [decide_eq_true (show (d.length : Int) > 0 by omega), decide_eq_true h1]
    by_cases h4 : d.length ≤ 4
    · rw [decide_eq_true (show (d.length : Int) ≤ 4 by omega), decide_eq_true h4, rs68 h]
      simp only [castB_B, any_all, Bool.true_and]
      cases ha : d.all dgt with
      | false => rfl
      | true =>
        have e70 := rs70 (K := K) (by omega) h1 h4 ha
        simp only [Bool.not_true, Bool.true_and]
        by_cases h2 : d.length ≤ 1
        · rw [decide_eq_false (show ¬ ((d.length : Int) > 1) by omega), decide_eq_true h2, e70]
          rfl
        · rw [decide_eq_true (show ((d.length : Int) > 1) by omega), decide_eq_false h2, if_pos (by omega), sb_get]
          match d, h1 with
          | b :: r, _ =>
            show (match ((b.toNat : Int) == 48) with | true => bad | false => _) = _
            by_cases hb : b = 48
            · subst hb
              rfl
            · have hbn : b.toNat ≠ 48 := fun e => hb (UInt8.toNat.inj e)
              rw [show ((b.toNat : Int) == 48) = false by simp; omega, show (b :: r).head? = some b from rfl, decide_eq_true (show some b ≠ some 48 by simpa using hb)]
              simp only []
              rw [e70]
              rfl
    · rw [decide_eq_false (show ¬ ((d.length : Int) ≤ 4) by omega), decide_eq_false h4]
      rfl
  · rw [decide_eq_false (show ¬ ((d.length : Int) > 0) by omega), decide_eq_false h1]
    rfl
theorem itemQ_eq {K : Nat} (h : 3 ≤ K) (ps : List (List UInt8)) (i : Nat) (bad fin : OA) (good : Int → OA) : itemQ K (ps.map TS1) i bad fin good = match ps[i]? with
    | some p => if numP p = true then good (val p) else bad
    | none => fin := by
  unfold itemQ
  rw [List.length_map]
  by_cases hi : i < ps.length
  · rw [decide_eq_true (show (i : Int) < (ps.length : Int) by omega), List.getElem?_map, List.getElem?_eq_getElem hi]
    exact pieceQ_eq h ps[i] bad good
  · rw [decide_eq_false (show ¬ (i : Int) < (ps.length : Int) by omega), List.getElem?_eq_none (show ps.length ≤ i by omega)]
theorem r43n {K : Nat} (p : List UInt8) (hl : p.length ≤ 100000) (hK : p.length + 30 ≤ K) : ∃ a b c d, run tab K 43 [St (sb p)] = some (.tup [.agg [I a, I b, I c, I d], B (quad 3 p)]) ∧ (quad 3 p = true → vals p = [a, b, c, d]) := by
  obtain ⟨K, rfl⟩ : ∃ k, K = k + 7 + 1 := ⟨K - 8, by omega⟩
  have e := r67s (K := K + 7) p hl (by omega)
  rw [eq43, sh43_eq, show (⟨#[32]⟩ : ByteArray) = sb [32] from rfl, e]
  simp only [castL_L, List.length_map]
  unfold quad vals
  by_cases h4 : (spl 32 p).length = 4
  · rw [show (((spl 32 p).length : Int) != 4) = false by simp; omega, h4]
    simp only [itemQ_eq (show 3 ≤ K + 7 by omega)]
    match spl 32 p, h4 with
    | [a, b, c, d], _ =>
      simp only [List.getElem?_cons_zero, List.getElem?_cons_succ, List.getElem?_nil, List.all_cons, List.all_nil, List.map_cons, List.map_nil, decide_true, Bool.true_and, Bool.and_true]
      cases numP a with
      | false => exact ⟨0, 0, 0, 0, rfl, fun h => by simp at h⟩
      | true =>
        cases numP b with
        | false => exact ⟨val a, 0, 0, 0, rfl, fun h => by simp at h⟩
        | true =>
          cases numP c with
          | false => exact ⟨val a, val b, 0, 0, rfl, fun h => by simp at h⟩
          | true =>
            cases numP d with
            | false => exact ⟨val a, val b, val c, 0, rfl, fun h => by simp at h⟩
            | true => exact ⟨val a, val b, val c, val d, rfl, fun _ => rfl⟩
  · rw [show (((spl 32 p).length : Int) != 4) = true by simp; omega, decide_eq_false h4]
    exact ⟨0, 0, 0, 0, rfl, fun h => by simp at h⟩
end Go.Proofs.YtahifpeggdcamaaGreatDoor

/- The reference's numbers of a piece of text. -/
namespace Go.Proofs.YtahifpeggdcamaaGreatDoor
open Go.Dam
set_option linter.unusedVariables false
set_option linter.unusedSimpArgs false
theorem cellA (l : List AV) (j : Nat) : cellN (.agg l) j = l.getD j .undef := rfl
theorem cmpT (l : List AV) (j : Nat) : compN (.tup l) j = l.getD j .undef := rfl
theorem rs71 {K : Nat} (h : 1 ≤ K) (b : UInt8) : run tab K 71 [.sc (.int .u8 (b.toNat : Int))] = some (B (dgt b)) := by
  obtain ⟨K, rfl⟩ := succK h
  rw [eq71]; unfold sh71 tr71
  by_cases h1 : 48 ≤ b.toNat
  · rw [decide_eq_true (show (b.toNat : Int) ≥ 48 by omega)]
    simp only []
    congr 3
    rw [Bool.eq_iff_iff, dgt_iff, decide_eq_true_iff]
    omega
  · rw [decide_eq_false (show ¬ ((b.toNat : Int) ≥ 48) by omega)]
    have : dgt b = false := by
      rw [Bool.eq_false_iff]
      intro hh
      have := (dgt_iff b).1 hh
      omega
    rw [this]
theorem all_get {d : List UInt8} (ha : d.all dgt = true) {i : Nat} (hi : i < d.length) : dgt d[i] = true := List.all_eq_true.1 ha _ (List.getElem_mem hi)
theorem l72x (K : Nat) (hK : 1 ≤ K) (d : List UInt8) (ha : d.all dgt = true) (hd : d.length ≤ 100000) : ∀ (k i : Nat) (acc : Int), d.length - i < k → i ≤ d.length → ∃ n b, lp72_8 K k (sb d) false acc (i : Int) = some (.tup [I n, B b])
  | 0, i, acc, h, _ => by omega
  | k + 1, i, acc, h, hi => by
    unfold lp72_8 tr72_8
    rw [sb_size]
    by_cases hii : i < d.length
    · have e := rs71 (K := K) hK d[i]
      rw [decide_eq_true (show (i : Int) < (d.length : Int) by omega)]
      simp only []
      rw [if_pos (show (0 : Int) ≤ (i : Int) by omega), sb_get, Int.toNat_natCast, List.getElem?_eq_getElem hii]
      simp only []
      rw [e]
      simp only [castB_B, all_get ha hii]
      cases decide (acc > 115292150460684697) with
      | true => exact ⟨0, false, rfl⟩
      | false =>
        show ∃ n b, (if (0 : Int) ≤ (i : Int) then _ else none) = _
        rw [if_pos (by omega)]
        rw [wrapN (by omega)]
        exact l72x K hK d ha hd k (i + 1) _ (by omega) (by omega)
    · rw [decide_eq_false (show ¬ (i : Int) < (d.length : Int) by omega)]
      simp only []
      cases decide (acc > 1152921504606846976) with
      | true => exact ⟨0, false, rfl⟩
      | false => exact ⟨acc, true, rfl⟩
theorem l72d (K : Nat) (hK : 1 ≤ K) (d : List UInt8) (ha : d.all dgt = true) (hd : d.length ≤ 4) : ∀ (k i acc : Nat), d.length - i < k → i ≤ d.length → acc < 10 ^ i → lp72_8 K k (sb d) false (acc : Int) (i : Int) = some (.tup [I ((valF acc (d.drop i) : Nat) : Int), B true])
  | 0, i, acc, h, _, _ => by omega
  | k + 1, i, acc, h, hi, hacc => by
    have hpow : 10 ^ i ≤ 10 ^ 4 := Nat.pow_le_pow_right (by omega) (by omega)
    have hacc' : acc < 10000 := Nat.lt_of_lt_of_le hacc hpow
    unfold lp72_8 tr72_8
    rw [sb_size]
    by_cases hii : i < d.length
    · have e := rs71 (K := K) hK d[i]
      have hdg := (dgt_iff _).1 (all_get ha hii)
      have ih := l72d K hK d ha hd k (i + 1) (10 * acc + (d[i].toNat - 48)) (by omega) (by omega) (by rw [Nat.pow_succ]; omega)
      rw [decide_eq_true (show (i : Int) < (d.length : Int) by omega)]
      simp only []
      rw [if_pos (show (0 : Int) ≤ (i : Int) by omega), sb_get, Int.toNat_natCast, List.getElem?_eq_getElem hii]
      simp only []
      rw [e]
      simp only [castB_B, all_get ha hii]
      rw [decide_eq_false (show ¬ ((acc : Int) > 115292150460684697) by omega)]
      simp only [Bool.not_true]
      rw [if_pos (show (0 : Int) ≤ (i : Int) by omega)]
      rw [wrapN (by omega), wrapI (n := 10 * (acc : Int)) ⟨by omega, by omega⟩]
      rw [show IntKind.u8.wrap ((d[i].toNat : Int) - 48) = ((d[i].toNat - 48 : Nat) : Int) by rw [IntKind.wrap_u8]; omega]
      rw [wrapI (n := ((d[i].toNat - 48 : Nat) : Int)) ⟨by omega, by omega⟩, wrapI (n := 10 * (acc : Int) + ((d[i].toNat - 48 : Nat) : Int)) ⟨by omega, by omega⟩]
      rw [show 10 * (acc : Int) + ((d[i].toNat - 48 : Nat) : Int) = ((10 * acc + (d[i].toNat - 48) : Nat) : Int) by omega, ih, List.drop_eq_getElem_cons hii]
      rfl
    · rw [decide_eq_false (show ¬ (i : Int) < (d.length : Int) by omega)]
      simp only []
      rw [decide_eq_false (show ¬ ((acc : Int) > 1152921504606846976) by omega), List.drop_eq_nil_of_le (by omega)]
      rfl
theorem r72h {K : Nat} (d : List UInt8) (ha : d.all dgt = true) : run tab (K + 1) 72 [St (sb d)] = if 1 ≤ d.length ∧ d.length ≤ 19 ∧ (d.length ≤ 1 ∨ d.head? ≠ some 48) then lp72_8 K K (sb d) false 0 0 else some (.tup [I 0, B false]) := by
  rw [eq72]; unfold sh72 tr72
  rw [sb_size]
  match d, ha with
  | [], _ => rfl
  | b :: r, ha =>
    have hb := (dgt_iff b).1 (by simp only [List.all_cons, Bool.and_eq_true] at ha; exact ha.1)
    have h0 : (sb (b :: r))[(0 : Int).toNat]? = some b := by rw [sb_get]; rfl
    have h45 : ((b.toNat : Int) == 45) = false := by simp; omega
    have hz : (((b :: r).length : Int) == 0) = false := by simp; omega
    have hp : (0 : Int) ≤ 0 := by omega
    rw [hz]
    by_cases h1 : 1 < (b :: r).length
    · rw [decide_eq_true (show ((b :: r).length : Int) > 1 by omega)]
      simp only [if_pos hp, h0, h45]
      by_cases h19 : (b :: r).length ≤ 19
      · rw [decide_eq_false (show ¬ (((b :: r).length : Int) > 19) by omega)]
        simp only []
        by_cases h48 : b = 48
        · subst h48
          rw [if_neg (fun h => by rcases h.2.2 with h | h; · omega
                                  · exact h rfl)]
          rfl
        · have hbn : b.toNat ≠ 48 := fun e => h48 (UInt8.toNat.inj e)
          rw [show ((b.toNat : Int) == 48) = false by simp; omega, if_pos ⟨by omega, h19, .inr (by simpa using h48)⟩]
      · rw [decide_eq_true (show (((b :: r).length : Int) > 19) by omega), if_neg (by omega)]
    · rw [decide_eq_false (show ¬ (((b :: r).length : Int) > 1) by omega)]
      simp only [if_pos hp, h0]
      rw [decide_eq_false (show ¬ (((b :: r).length : Int) > 19) by omega)]
      simp only []
      rw [if_pos ⟨by simp, by omega, .inl (by omega)⟩]
      cases ((b.toNat : Int) == 48) <;> rfl
theorem r72d {K : Nat} (h : 10 ≤ K) (d : List UInt8) (ha : d.all dgt = true) (h4 : d.length ≤ 4) : run tab K 72 [St (sb d)] = some (if numP d = true then .tup [I (val d), B true] else .tup [I 0, B false]) := by
  obtain ⟨K, rfl⟩ := succK (show 1 ≤ K by omega)
  rw [r72h d ha]
  unfold numP
  rw [ha, decide_eq_true h4]
  by_cases h1 : 1 ≤ d.length
  · by_cases h2 : d.length ≤ 1 ∨ d.head? ≠ some 48
    · rw [if_pos ⟨h1, by omega, h2⟩, decide_eq_true h1, if_pos (by simpa using h2)]
      exact l72d K (by omega) d ha h4 K 0 0 (by omega) (by omega) (by simp)
    · rw [if_neg (fun h => h2 h.2.2), if_neg (by simpa using fun _ => not_or.1 h2)]
  · rw [if_neg (fun h => h1 h.1), decide_eq_false h1]
    rfl
theorem r72x {K : Nat} (d : List UInt8) (ha : d.all dgt = true) (hd : d.length ≤ 100000) (h : d.length + 10 ≤ K) : ∃ n b, run tab K 72 [St (sb d)] = some (.tup [I n, B b]) := by
  obtain ⟨K, rfl⟩ := succK (show 1 ≤ K by omega)
  rw [r72h d ha]
  split
  · exact l72x K (by omega) d ha hd K 0 0 (by omega) (by omega)
  · exact ⟨0, false, rfl⟩
/-- What is done behind the digits. -/
noncomputable def tail44 (K : Nat) (q2 : ByteArray → Int → List AV → Option AV) (y1 : ByteArray) (y2 : Int) (y3 : List AV) (y4 : Int) : Option AV :=
  if 0 ≤ y4 ∧ y4 ≤ y2 ∧ y2 ≤ y1.size then (match run tab K 72 [St (y1.extract y4.toNat y2.toNat)] with | some r780 => (castI .i64 (compN r780 0) fun n781 => castB (compN r780 1) fun b782 => match (!b782) with | true => (some (.tup [.sl 3 [], I 0, B false])) | false => (match decide ((IntKind.i64.wrap (y2 - y4)) > (4 : Int)) with | true => (some (.tup [.sl 3 [], I 0, B false])) | false => (if (y3.length + ([I n781] : List AV).length) * 8 ≤ maxBytes then (match (((y3 ++ ([I n781] : List AV)).length : Int) == (4 : Int)) with | true => (match (y2 == (y1.size : Int)) with | true => (some (.tup [.sl 3 (y3 ++ ([I n781] : List AV)), I y2, B true])) | false => (if 0 ≤ y2 then (match y1[y2.toNat]? with | some c783 => (some (.tup [.sl 3 (y3 ++ ([I n781] : List AV)), I y2, B ((c783.toNat : Int) == (59 : Int))])) | none => none) else none)) | false => (match (y2 == (y1.size : Int)) with | true => (some (.tup [.sl 3 [], I 0, B false])) | false => (if 0 ≤ y2 then (match y1[y2.toNat]? with | some c784 => (match ((c784.toNat : Int) != (32 : Int)) with | true => (some (.tup [.sl 3 [], I 0, B false])) | false => (q2 y1 (IntKind.i64.wrap (y2 + 1)) (y3 ++ ([I n781] : List AV)))) | none => none) else none))) else none))) | none => none) else none
theorem tr44_eq (K : Nat) (q2 : ByteArray → Int → List AV → Option AV) (q3 : ByteArray → Int → List AV → Int → Option AV) (y1 : ByteArray) (y2 : Int) (y3 : List AV) (y4 : Int) : tr44_3 K q2 q3 y1 y2 y3 y4 = match decide (y2 < (y1.size : Int)) with
    | true => (if 0 ≤ y2 then (match y1[y2.toNat]? with
      | some c => (match run tab K 71 [.sc (.int .u8 (c.toNat : Int))] with
        | some r => (castB r fun b => match b with
          | true => (q3 y1 (IntKind.i64.wrap (y2 + 1)) y3 y4)
          | false => tail44 K q2 y1 y2 y3 y4)
        | none => none)
      | none => none) else none)
    | false => tail44 K q2 y1 y2 y3 y4 := rfl
theorem tr44_dig (K : Nat) (hK : 1 ≤ K) (q2 : ByteArray → Int → List AV → Option AV) (q3 : ByteArray → Int → List AV → Int → Option AV) (l : List UInt8) (at' : Nat) (y3 : List AV) (y4 : Int) (hat : at' ≤ 100000) :
    tr44_3 K q2 q3 (sb l) (at' : Int) y3 y4 = match l[at']? with
      | some c => if dgt c = true then q3 (sb l) ((at' + 1 : Nat) : Int) y3 y4 else tail44 K q2 (sb l) (at' : Int) y3 y4
      | none => tail44 K q2 (sb l) (at' : Int) y3 y4 := by
  rw [tr44_eq]
  by_cases hi : at' < l.length
  · have e := rs71 hK l[at']
    rw [sb_size, decide_eq_true (show (at' : Int) < (l.length : Int) by omega)]
    simp only []
    rw [if_pos (show (0 : Int) ≤ (at' : Int) by omega), sb_get, Int.toNat_natCast, List.getElem?_eq_getElem hi]
    simp only []
    rw [e]
    simp only [castB_B]
    rw [wrapN (by omega)]
    cases hd : dgt l[at'] <;> rfl
  · rw [sb_size, decide_eq_false (show ¬ (at' : Int) < (l.length : Int) by omega), List.getElem?_eq_none (by omega)]
/-- The digits are passed. -/
theorem l44_3 (K : Nat) (hK : 1 ≤ K) (q2 : ByteArray → Int → List AV → Option AV) (l : List UInt8) (hl : l.length ≤ 90000) (y3 : List AV) (y4 : Int) : ∀ (k at' : Nat), l.length - at' < k → at' ≤ l.length →
    lp44_3 K q2 k (sb l) (at' : Int) y3 y4 = tail44 K q2 (sb l) ((at' + ((l.drop at').takeWhile dgt).length : Nat) : Int) y3 y4
  | 0, at', h, _ => by omega
  | k + 1, at', h, hat => by
    show tr44_3 K q2 (lp44_3 K q2 k) _ _ _ _ = _
    rw [tr44_dig K hK q2 _ l at' y3 y4 (by omega)]
    by_cases hi : at' < l.length
    · rw [List.getElem?_eq_getElem hi, List.drop_eq_getElem_cons hi, List.takeWhile_cons]
      simp only []
      cases hd : dgt l[at'] with
      | true =>
        rw [if_pos rfl, if_pos rfl, l44_3 K hK q2 l hl y3 y4 k (at' + 1) (by omega) (by omega), List.length_cons]
        congr 2
        omega
      | false => rfl
    · rw [List.getElem?_eq_none (by omega), List.drop_eq_nil_of_le (by omega)]
      rfl
theorem tw_len (l : List UInt8) : (l.takeWhile dgt).length ≤ l.length := (List.takeWhile_sublist _).length_le
theorem tw_alld (l : List UInt8) : (l.takeWhile dgt).all dgt = true := List.all_eq_true.2 fun b hb => by
  have := List.all_takeWhile (l := l) (p := dgt)
  exact List.all_eq_true.1 this b hb
theorem tw_take (l : List UInt8) : l.take (l.takeWhile dgt).length = l.takeWhile dgt := by
  have := List.takeWhile_append_dropWhile (l := l) (p := dgt)
  conv => lhs; arg 2; rw [← this]
  rw [List.take_left]
/-- What the reference reads of a piece. -/
def Told44 (o : Option AV) (at' : Nat) (acc : List Int) (r : Option (List Int × Nat)) : Prop := match r with
  | some (vs, n) => o = some (.tup [.sl 3 (ints (acc ++ vs)), I ((at' + n : Nat) : Int), B true])
  | none => ∃ L n, o = some (.tup [.sl 3 L, I n, B false])
theorem l44_2 (K : Nat) (l : List UInt8) (hl : l.length ≤ 90000) (hK : l.length + 20 ≤ K) : ∀ (k m at' : Nat) (acc : List Int), acc.length + m = 3 → at' ≤ l.length → m < k → Told44 (lp44_2 K k (sb l) (at' : Int) (ints acc)) at' acc (scanN m (l.drop at'))
  | 0, m, at', acc, _, _, h => by omega
  | k + 1, m, at', acc, hm, hat, hk => by
    show Told44 (lp44_3 K (lp44_2 K k) K (sb l) (at' : Int) (ints acc) (at' : Int)) _ _ _
    rw [l44_3 K (by omega) _ l hl (ints acc) (at' : Int) K at' (by omega) hat]
    have hlen := tw_len (l.drop at')
    have hall := tw_alld (l.drop at')
    have htk := tw_take (l.drop at')
    rw [scanN.eq_def]
    simp only []
    generalize hd : (l.drop at').takeWhile dgt = d at *
    rw [List.length_drop] at hlen
    have hx : (sb l).extract at' (at' + d.length) = sb d := by
      rw [sb_extract, List.drop_take, show at' + d.length - at' = d.length by omega, htk]
    unfold tail44
    rw [sb_size, if_pos ⟨by omega, by omega, by omega⟩, Int.toNat_natCast, Int.toNat_natCast, hx]
    by_cases h4 : d.length ≤ 4
    · rw [r72d (by omega) d hall h4]
      by_cases hn : numP d = true
      · rw [if_pos hn, if_pos hn]
        simp only [cmpT, List.getD_cons_zero, List.getD_cons_succ, castI_I, castB_B, Bool.not_true]
        rw [wrapI (n := ((at' + d.length : Nat) : Int) - (at' : Int)) ⟨by omega, by omega⟩, decide_eq_false (show ¬ (((at' + d.length : Nat) : Int) - (at' : Int) > 4) by omega)]
        simp only []
        have hmx : ((ints acc).length + ([I (val d)] : List AV).length) * 8 ≤ maxBytes := by
          have : (2000 : Nat) * 8 ≤ maxBytes := by decide
          simp only [ints_len, List.length_cons, List.length_nil]; omega
        rw [if_pos hmx]
        have hacc : ints acc ++ [I (val d)] = ints (acc ++ [val d]) := by simp [ints]
        rw [hacc, ints_len]
        have hdd : (l.drop at').drop d.length = l.drop (at' + d.length) := by rw [List.drop_drop]
        rw [hdd]
        match m, hm with
        | 0, hm =>
          rw [show (((acc ++ [val d]).length : Int) == 4) = true by simp; omega]
          simp only []
          by_cases he : at' + d.length = l.length
          · rw [show (((at' + d.length : Nat) : Int) == (l.length : Int)) = true by simp; omega, List.drop_eq_nil_of_le (by omega)]
            rfl
          · rw [show (((at' + d.length : Nat) : Int) == (l.length : Int)) = false by simp; omega]
            simp only []
            rw [if_pos (by omega), sb_get, List.getElem?_eq_getElem (show at' + d.length < l.length by omega), List.drop_eq_getElem_cons (show at' + d.length < l.length by omega)]
            simp only []
            by_cases h59 : l[at' + d.length] = 59
            · rw [if_pos h59, h59]
              rfl
            · have : l[at' + d.length].toNat ≠ 59 := fun e => h59 (UInt8.toNat.inj e)
              rw [if_neg h59, show ((l[at' + d.length].toNat : Int) == 59) = false by simp; omega]
              exact ⟨_, _, rfl⟩
        | m + 1, hm =>
          rw [show (((acc ++ [val d]).length : Int) == 4) = false by simp; omega]
          simp only []
          by_cases he : at' + d.length = l.length
          · rw [show (((at' + d.length : Nat) : Int) == (l.length : Int)) = true by simp; omega, List.drop_eq_nil_of_le (by omega)]
            exact ⟨_, _, rfl⟩
          · rw [show (((at' + d.length : Nat) : Int) == (l.length : Int)) = false by simp; omega]
            simp only []
            rw [if_pos (by omega), sb_get, List.getElem?_eq_getElem (show at' + d.length < l.length by omega), List.drop_eq_getElem_cons (show at' + d.length < l.length by omega)]
            simp only []
            by_cases h32 : l[at' + d.length] = 32
            · rw [if_pos h32, h32, wrapN (by omega)]
              have ih := l44_2 K l hl hK k m (at' + d.length + 1) (acc ++ [val d]) (by simp; omega) (by omega) (by omega)
              show Told44 (lp44_2 K k (sb l) ((at' + d.length + 1 : Nat) : Int) (ints (acc ++ [val d]))) _ _ _
              revert ih
              cases scanN m (l.drop (at' + d.length + 1)) with
              | none => exact fun h => h
              | some x =>
                intro h
                show _ = _
                have h' : lp44_2 K k (sb l) ((at' + d.length + 1 : Nat) : Int) (ints (acc ++ [val d])) = some (.tup [.sl 3 (ints (acc ++ [val d] ++ x.1)), I ((at' + d.length + 1 + x.2 : Nat) : Int), B true]) := h
                rw [h']
                rw [List.append_assoc, show at' + d.length + 1 + x.2 = at' + (d.length + (1 + x.2)) by omega]
                rfl
            · have : l[at' + d.length].toNat ≠ 32 := fun e => h32 (UInt8.toNat.inj e)
              rw [if_neg h32, show ((l[at' + d.length].toNat : Int) != 32) = true by simp; omega]
              exact ⟨_, _, rfl⟩
      · rw [if_neg hn, if_neg hn]
        exact ⟨_, _, rfl⟩
    · have hn : ¬ numP d = true := by
        unfold numP
        rw [decide_eq_false h4]
        simp
      rw [if_neg hn]
      obtain ⟨n, b, e⟩ := r72x (K := K) d hall (by omega) (by omega)
      rw [e]
      simp only [cmpT, List.getD_cons_zero, List.getD_cons_succ, castI_I, castB_B]
      cases b with
      | false => exact ⟨_, _, rfl⟩
      | true =>
        rw [wrapI (n := ((at' + d.length : Nat) : Int) - (at' : Int)) ⟨by omega, by omega⟩, decide_eq_true (show (((at' + d.length : Nat) : Int) - (at' : Int) > 4) by omega)]
        exact ⟨_, _, rfl⟩
theorem r44n {K : Nat} (l : List UInt8) (hl : l.length ≤ 90000) (hK : l.length + 30 ≤ K) (at' : Nat) (hat : at' ≤ l.length) : Told44 (run tab K 44 [St (sb l), I (at' : Int)]) at' [] (scanN 3 (l.drop at')) := by
  obtain ⟨K, rfl⟩ := succK (show 1 ≤ K by omega)
  rw [eq44]
  exact l44_2 K l hl (by omega) K 3 at' [] rfl hat (by omega)
end Go.Proofs.YtahifpeggdcamaaGreatDoor
