/- A part of an interpreter of the model's code that is proved sound, and of laws told by it: DamX14, DamX15. -/
import Derived.Test.YtdhbhedfbdckaaaGreatDoorPsE6
set_option linter.unusedVariables false
set_option linter.unusedSimpArgs false
/- Two tokens side by side; the exported functions. -/
namespace Go.Proofs.YtdhbhedfbdckaaaGreatDoor
open Go.Dam
set_option linter.unusedVariables false
set_option linter.unusedSimpArgs false
def opensL : List (List UInt8) := [[40], [91], [123], [91, 91], [46], [46, 46], [64], [38], [33]]
def shutsL : List (List UInt8) := [[44], [59], [41], [93], [125], [93, 93], [46], [46, 46], [58]]
def two (lang : Int) (a b : Tk) : Bool := match rdT lang (a.s ++ b.s) with
  | .ok [x, y] _ => decide (x.k = a.k) && (decide (x.s = a.s) && (decide (y.k = b.k) && decide (y.s = b.s)))
  | _ => false
def togT (lang : Int) (a b : Tk) : Bool := ((a.k == 6) && decide (a.s ∈ opensL) || (b.k == 6) && decide (b.s ∈ shutsL)) && two lang a b
theorem core41 {K : Nat} (lang : Int) (a b : Tk) (hl : a.s.length + b.s.length ≤ 99999) (hK : a.s.length + b.s.length + 1400 ≤ K) : (match Nat.ble ((sb a.s).size + (sb b.s).size) 9223372036854775807 with | true => (match run tab K 37 [I lang, St ((sb a.s) ++ (sb b.s))] with | some r240 => (castP (compN r240 0) fun q241 => castI .i64 (compN r240 1) fun n242 => castI .i64 (compN r240 2) fun n243 => match (n243 == (0 : Int)) with | true => (castRef q241 fun p244 => castRef (.ref p244) fun p245 => castL 35 (p245.getD 5 .undef) fun l246 => match ((l246.length : Int) == (2 : Int)) with | true => (castRef q241 fun p247 => castRef (.ref p247) fun p248 => castL 35 (p248.getD 5 .undef) fun l249 => match l249[0]? with | some x250 => (castI .i64 (cellN x250 0) fun n251 => match (n251 == a.k) with | true => (castRef q241 fun p252 => castRef (.ref p252) fun p253 => castL 35 (p253.getD 5 .undef) fun l254 => match l254[0]? with | some x255 => (castS (cellN x255 1) fun s256 => match (s256 == (sb a.s)) with | true => (castRef q241 fun p257 => castRef (.ref p257) fun p258 => castL 35 (p258.getD 5 .undef) fun l259 => match l259[1]? with | some x260 => (castI .i64 (cellN x260 0) fun n261 => match (n261 == b.k) with | true => (castRef q241 fun p262 => castRef (.ref p262) fun p263 => castL 35 (p263.getD 5 .undef) fun l264 => match l264[1]? with | some x265 => (castS (cellN x265 1) fun s266 => some (B (s266 == (sb b.s)))) | none => none) | false => (some (B false))) | none => none) | false => (some (B false))) | none => none) | false => (some (B false))) | none => none) | false => (some (B false))) | false => (some (B false))) | none => none) | false => none) = some (B (two lang a b)) := by
  rw [show Nat.ble ((sb a.s).size + (sb b.s).size) 9223372036854775807 = true by rw [sb_size, sb_size, Nat.ble_eq]; omega, sb_append, r37 lang (a.s ++ b.s) (by rw [List.length_append]; exact hl) (by rw [List.length_append]; omega)]
  unfold two
  cases h : rdT lang (a.s ++ b.s) with
  | bad x e =>
    have he := rd_err h
    simp only [rdP, compN, List.getD_cons_zero, List.getD_cons_succ, castP, castI_I]
    rw [show (e == 0) = false by simpa using he]
  | ok ts cs =>
    simp only [rdP, scnA, compN, List.getD_cons_zero, List.getD_cons_succ, castP, castI_I, castRef, castL_L, List.length_map]
    rw [show ((0 : Int) == 0) = true from rfl]
    match ts with
    | [] => rfl
    | [t] => rfl
    | [x, y] =>
      simp only [List.map_cons, List.map_nil, List.getElem?_cons_zero, List.getElem?_cons_succ, tokA, cellN, List.getD_cons_zero, List.getD_cons_succ, castI_I, castS_S, sb_beq, beqI]
      rw [show decide ((([x, y] : List Tok).length : Int) = 2) = true from rfl]
      cases decide (x.k = a.k) <;> cases decide (x.s = a.s) <;> cases decide (y.k = b.k) <;> rfl
    | t :: u :: v :: ts =>
      rw [show (((t :: u :: v :: ts).length : Int) == 2) = false by rw [beq_eq_false_iff_ne]; simp; omega]
theorem core46 {K : Nat} (lang : Int) (a b : Tk) (hl : a.s.length + b.s.length ≤ 99999) (hK : a.s.length + b.s.length + 1600 ≤ K) : (match Nat.ble ((sb a.s).size + (sb b.s).size) 9223372036854775807 with | true => (match run tab K 15 [I lang, St ((sb a.s) ++ (sb b.s))] with | some r354 => (castP r354 fun q355 => castRef q355 fun p356 => castRef (.ref p356) fun p357 => castI .i64 (p357.getD 3 .undef) fun n358 => match (n358 == (0 : Int)) with | true => (castRef q355 fun p359 => castRef (.ref p359) fun p360 => castL 40 (p360.getD 1 .undef) fun l361 => match ((l361.length : Int) == (0 : Int)) with | true => (castRef q355 fun p362 => castRef (.ref p362) fun p363 => castL 35 (p363.getD 0 .undef) fun l364 => match run tab K 16 [.sl 35 l364, .sl 35 [.agg [I a.k, St (sb a.s), I a.a], .agg [I b.k, St (sb b.s), I b.a]]] with | some r365 => (castB r365 fun b366 => some (B b366)) | none => none) | false => (some (B false))) | false => (some (B false))) | none => none) | false => none) = some (B (two lang a b)) := by
  rw [show Nat.ble ((sb a.s).size + (sb b.s).size) 9223372036854775807 = true by rw [sb_size, sb_size, Nat.ble_eq]; omega, sb_append, r15 lang (a.s ++ b.s) (by rw [List.length_append]; exact hl) (by rw [List.length_append]; omega)]
  unfold two
  cases h : rdT lang (a.s ++ b.s) with
  | bad x e =>
    have he := rd_err h
    simp only [rdR, castP, castRef, List.getD_cons_zero, List.getD_cons_succ, castI_I]
    rw [show (e == 0) = false by simpa using he]
  | ok ts cs =>
    have hts : ts.length ≤ 1500 := (rd_ok h).2.2.2.2
    have e16 := r16 (K := K) (ts.map Tok.tk) [a, b] (by rw [List.length_map]; omega) (by rw [List.length_map]; omega)
    rw [← map_tokA] at e16
    have e16 : run tab K 16 [.sl 35 (ts.map tokA), .sl 35 [AV.agg [I a.k, St (sb a.s), I a.a], AV.agg [I b.k, St (sb b.s), I b.a]]] = _ := e16
    simp only [rdR, castP, castRef, List.getD_cons_zero, List.getD_cons_succ, castI_I, castL_L, List.length_map, e16, castB_B]
    rw [show ((0 : Int) == 0) = true from rfl]
    cases cs with
    | cons c cs =>
      rw [show ((((c :: cs).length : Nat) : Int) == 0) = false by rw [beq_eq_false_iff_ne, List.length_cons]; omega]
      match ts, h with
      | [], _ => rfl
      | [u], _ => rfl
      | [x, y], h =>
        have : (decide (x.k = a.k) && (decide (x.s = a.s) && (decide (y.k = b.k) && decide (y.s = b.s)))) = false := by
          rw [Bool.eq_false_iff]
          intro hh
          rw [Bool.and_eq_true, Bool.and_eq_true, Bool.and_eq_true, decide_eq_true_iff, decide_eq_true_iff, decide_eq_true_iff, decide_eq_true_iff] at hh
          have := full_no_com h (by unfold lenT; simp [hh.2.1, hh.2.2.2])
          cases this
        show some (B false) = some (B (decide (x.k = a.k) && (decide (x.s = a.s) && (decide (y.k = b.k) && decide (y.s = b.s)))))
        rw [this]
      | _ :: _ :: _ :: _, _ => rfl
    | nil =>
      rw [show (((([] : List (Nat × Nat)).length : Nat) : Int) == 0) = true from rfl]
      simp only []
      congr 2
      match ts with
      | [] => rfl
      | [u] => rw [decide_eq_false (show ¬ List.map Tk.ks (List.map Tok.tk [u]) = List.map Tk.ks [a, b] by simp)]
      | [x, y] =>
        rw [Bool.eq_iff_iff, Bool.and_eq_true, Bool.and_eq_true, Bool.and_eq_true, decide_eq_true_iff, decide_eq_true_iff, decide_eq_true_iff, decide_eq_true_iff, decide_eq_true_iff]
        simp [Tk.ks, Tok.tk, and_assoc]
      | u :: v :: x :: ts => rw [decide_eq_false (show ¬ List.map Tk.ks (List.map Tok.tk (u :: v :: x :: ts)) = List.map Tk.ks [a, b] by simp)]
theorem r41 {K : Nat} (lang : Int) (a b : Tk) (hl : a.s.length + b.s.length ≤ 99999) (hK : a.s.length + b.s.length + 1500 ≤ K) : run tab K 41 [I lang, tkA a, tkA b] = some (B (togT lang a b)) := by
  obtain ⟨K, rfl⟩ := succK (show 1 ≤ K by omega)
  have c := core41 (K := K) lang a b hl (by omega)
  have e1 := r66 (K := K) opensL a.s (by decide) (by omega)
  have e2 := r66 (K := K) shutsL b.s (by decide) (by omega)
  unfold tkA
  rw [eq41]; unfold sh41 tr41
  rw [show ([St (⟨#[40]⟩ : ByteArray), St (⟨#[91]⟩ : ByteArray), St (⟨#[123]⟩ : ByteArray), St (⟨#[91, 91]⟩ : ByteArray), St (⟨#[46]⟩ : ByteArray), St (⟨#[46, 46]⟩ : ByteArray), St (⟨#[64]⟩ : ByteArray), St (⟨#[38]⟩ : ByteArray), St (⟨#[33]⟩ : ByteArray)] : LA) = strsA opensL from rfl, show ([St (⟨#[44]⟩ : ByteArray), St (⟨#[59]⟩ : ByteArray), St (⟨#[41]⟩ : ByteArray), St (⟨#[93]⟩ : ByteArray), St (⟨#[125]⟩ : ByteArray), St (⟨#[93, 93]⟩ : ByteArray), St (⟨#[46]⟩ : ByteArray), St (⟨#[46, 46]⟩ : ByteArray), St (⟨#[58]⟩ : ByteArray)] : LA) = strsA shutsL from rfl, e1, e2]
  simp only [castB_B]
  unfold togT
  generalize (a.k == 6) = b1
  generalize (b.k == 6) = b2
  generalize decide (a.s ∈ opensL) = b3
  generalize decide (b.s ∈ shutsL) = b4
  cases b1 <;> cases b2 <;> cases b3 <;> cases b4 <;> first | exact c | rfl
theorem r46 {K : Nat} (lang : Int) (a b : Tk) (hl : a.s.length + b.s.length ≤ 99999) (hK : a.s.length + b.s.length + 1700 ≤ K) : run tab K 46 [I lang, tkA a, tkA b] = some (B (togT lang a b)) := by
  obtain ⟨K, rfl⟩ := succK (show 1 ≤ K by omega)
  have c := core46 (K := K) lang a b hl (by omega)
  have e1 := r53 (K := K) opensL a.s (by decide) (by omega)
  have e2 := r53 (K := K) shutsL b.s (by decide) (by omega)
  unfold tkA
  rw [eq46]; unfold sh46 tr46
  rw [show ([St (⟨#[40]⟩ : ByteArray), St (⟨#[91]⟩ : ByteArray), St (⟨#[123]⟩ : ByteArray), St (⟨#[91, 91]⟩ : ByteArray), St (⟨#[46]⟩ : ByteArray), St (⟨#[46, 46]⟩ : ByteArray), St (⟨#[64]⟩ : ByteArray), St (⟨#[38]⟩ : ByteArray), St (⟨#[33]⟩ : ByteArray)] : LA) = strsA opensL from rfl, show ([St (⟨#[44]⟩ : ByteArray), St (⟨#[59]⟩ : ByteArray), St (⟨#[41]⟩ : ByteArray), St (⟨#[93]⟩ : ByteArray), St (⟨#[125]⟩ : ByteArray), St (⟨#[93, 93]⟩ : ByteArray), St (⟨#[46]⟩ : ByteArray), St (⟨#[46, 46]⟩ : ByteArray), St (⟨#[58]⟩ : ByteArray)] : LA) = strsA shutsL from rfl, e1, e2]
  simp only [castB_B]
  unfold togT
  generalize (a.k == 6) = b1
  generalize (b.k == 6) = b2
  generalize decide (a.s ∈ opensL) = b3
  generalize decide (b.s ∈ shutsL) = b4
  cases b1 <;> cases b2 <;> cases b3 <;> cases b4 <;> first | exact c | rfl
theorem r14 {K : Nat} (lang : Int) (l : List UInt8) (hl : l.length ≤ 99999) (hK : l.length + 1400 ≤ K) : run tab K 14 [I lang, St (sb l)] = some (match rdT lang l with
    | .bad a e => .tup [.sl 35 [], I a, I e]
    | .ok ts _ => .tup [.sl 35 (ts.map tokA), I 0, I 0]) := by
  obtain ⟨K, rfl⟩ := succK (show 1 ≤ K by omega)
  rw [eq14]; unfold sh14 tr14
  rw [r37 lang l hl (by omega)]
  cases h : rdT lang l with
  | bad a e =>
    have he := rd_err h
    simp only [rdP, compN, List.getD_cons_zero, List.getD_cons_succ, castP, castI_I]
    rw [show (e != 0) = true by simpa using he]
  | ok ts cs => rfl
theorem r17 {K : Nat} (lang : Int) (l : List UInt8) (hl : l.length ≤ 99999) (hK : l.length + 1400 ≤ K) : run tab K 17 [I lang, St (sb l)] = some (match rdT lang l with
    | .bad a e => .tup [.sl 40 [], I a, I e]
    | .ok _ cs => .tup [.sl 40 (cs.map comA), I 0, I 0]) := by
  obtain ⟨K, rfl⟩ := succK (show 1 ≤ K by omega)
  rw [eq17]; unfold sh17 tr17
  rw [r37 lang l hl (by omega)]
  cases h : rdT lang l with
  | bad a e =>
    have he := rd_err h
    simp only [rdP, compN, List.getD_cons_zero, List.getD_cons_succ, castP, castI_I]
    rw [show (e != 0) = true by simpa using he]
  | ok ts cs => rfl
end Go.Proofs.YtdhbhedfbdckaaaGreatDoor

/- Texts of tokens: plainly; the reference's Join. -/
namespace Go.Proofs.YtdhbhedfbdckaaaGreatDoor
open Go.Dam
set_option linter.unusedVariables false
set_option linter.unusedSimpArgs false
/-- Tokens with canonical spacing, behind a token. -/
def jnGo (lang : Int) : Option Tk → List Tk → List UInt8
  | _, [] => []
  | none, t :: ts => t.s ++ jnGo lang (some t) ts
  | some p, t :: ts => (if togT lang p t = true then [] else [32]) ++ (t.s ++ jnGo lang (some t) ts)
def fstErr (lang : Int) : List Tk → Int
  | [] => 0
  | t :: ts => if tkErr lang t = 0 then fstErr lang ts else tkErr lang t
def joinT (lang : Int) (ts : List Tk) : List UInt8 × Int :=
  if lang = 0 ∨ lang = 1 then (if 1500 < ts.length then ([], 2) else if fstErr lang ts = 0 then (if 8000 < (jnGo lang none ts).length then ([], 2) else (jnGo lang none ts, 0)) else ([], fstErr lang ts)) else ([], 4)
def prevT (ts : List Tk) (n : Nat) : Option Tk := if n = 0 then none else ts[n - 1]?
theorem prevT_succ (ts : List Tk) (n : Nat) (h : n < ts.length) : prevT ts (n + 1) = some ts[n] := by
  unfold prevT
  rw [if_neg (by omega), Nat.add_sub_cancel, List.getElem?_eq_getElem h]
theorem jn_step0 (lang : Int) (ts : List Tk) (h : 0 < ts.length) : jnGo lang (prevT ts 0) (ts.drop 0) = ts[0].s ++ jnGo lang (prevT ts 1) (ts.drop 1) := by
  rw [prevT_succ ts 0 h, List.drop_eq_getElem_cons h]
  rfl
theorem jn_step (lang : Int) (ts : List Tk) (n : Nat) (h0 : 0 < n) (h : n < ts.length) : jnGo lang (prevT ts n) (ts.drop n) = (if togT lang ts[n - 1] ts[n] = true then [] else [32]) ++ (ts[n].s ++ jnGo lang (prevT ts (n + 1)) (ts.drop (n + 1))) := by
  have hp : prevT ts n = some ts[n - 1] := by
    unfold prevT
    rw [if_neg (by omega), List.getElem?_eq_getElem (show n - 1 < ts.length by omega)]
  rw [hp, prevT_succ ts n h, List.drop_eq_getElem_cons h]
  rfl
theorem sizeOk {a b : List UInt8} (h : a.length + b.length ≤ 100000000) : Nat.ble ((sb a).size + (sb b).size) 9223372036854775807 = true := by
  rw [sb_size, sb_size, Nat.ble_eq]; omega
theorem tkA_get (ts : List Tk) (n : Nat) (h : n < ts.length) : (ts.map tkA)[(n : Int).toNat]? = some (tkA ts[n]) := by
  rw [Int.toNat_natCast, List.getElem?_map, List.getElem?_eq_getElem h]
  rfl
set_option maxRecDepth 100000 in
theorem l24_13 (K : Nat) (q6 : Int → LA → Int → OA) (lang : Int) (ts : List Tk) (hl : ts.length ≤ 1500) (hs : ∀ t ∈ ts, t.s.length ≤ 20000) (hK : 50000 ≤ K) : ∀ (k n : Nat) (acc : List UInt8), ts.length - n < k → n ≤ ts.length → acc.length ≤ n * 20001 →
    lp24_13 K q6 k lang (ts.map tkA) (sb acc) (n : Int) = some (if 8000 < (acc ++ jnGo lang (prevT ts n) (ts.drop n)).length then .tup [St (sb []), I 2] else .tup [St (sb (acc ++ jnGo lang (prevT ts n) (ts.drop n))), I 0])
  | 0, n, acc, h, _, _ => by omega
  | k + 1, n, acc, h, hn, ha => by
    unfold lp24_13 tr24_13
    rw [List.length_map]
    by_cases hi : n < ts.length
    · have w1 : IntKind.i64.wrap ((n : Int) + 1) = ((n + 1 : Nat) : Int) := wrapA (m := 1) (by omega) (by omega)
      have h1 := hs ts[n] (List.getElem_mem hi)
      have hb : n * 20001 ≤ 1500 * 20001 := Nat.mul_le_mul_right _ (by omega)
      have hsucc : (n + 1) * 20001 = n * 20001 + 20001 := by rw [Nat.succ_mul]
      rw [decide_eq_true (show (n : Int) < (ts.length : Int) by omega)]
      have hs2 : Nat.ble ((sb acc).size + (sb ts[n].s).size) 9223372036854775807 = true := sizeOk (by omega)
      by_cases h0 : n = 0
      · subst h0
        have ih := l24_13 K q6 lang ts hl hs hK k 1 (acc ++ ts[0].s) (by omega) (by omega) (by rw [List.length_append]; omega)
        have g := tkA_get ts 0 hi
        rw [decide_eq_false (show ¬ ((0 : Nat) : Int) > 0 by omega)]
        simp only [if_pos (Int.natCast_nonneg 0), g, tkA, cellN, List.getD_cons_zero, List.getD_cons_succ, castS_S, hs2, w1]
        rw [jn_step0 lang ts hi, ← List.append_assoc, sb_append]
        exact ih
      · have hm : n - 1 < ts.length := by omega
        have w2 : IntKind.i64.wrap ((n : Int) - 1) = ((n - 1 : Nat) : Int) := wrapS (m := 1) (by omega) (by omega)
        have g := tkA_get ts n hi
        have g' := tkA_get ts (n - 1) hm
        have h2 := hs ts[n - 1] (List.getElem_mem hm)
        have e46 := r46 (K := K) lang ts[n - 1] ts[n] (by omega) (by omega)
        unfold tkA at e46
        have hs3 : Nat.ble ((sb acc).size + (⟨#[32]⟩ : ByteArray).size) 9223372036854775807 = true := sizeOk (b := [32]) (by simp; omega)
        have hs4 : Nat.ble ((sb acc ++ (⟨#[32]⟩ : ByteArray)).size + (sb ts[n].s).size) 9223372036854775807 = true := by
          rw [show (⟨#[32]⟩ : ByteArray) = sb [32] from rfl, sb_append]
          exact sizeOk (by rw [List.length_append]; simp; omega)
        rw [decide_eq_true (show (n : Int) > 0 by omega)]
        simp only [w2, if_pos (Int.natCast_nonneg n), if_pos (Int.natCast_nonneg (n - 1)), g, g', tkA, cellN, List.getD_cons_zero, List.getD_cons_succ, castS_S, castI_I, e46, castB_B, hs2, hs3, hs4, w1]
        rw [jn_step lang ts n (by omega) hi]
        cases togT lang ts[n - 1] ts[n] with
        | true =>
          have ih := l24_13 K q6 lang ts hl hs hK k (n + 1) (acc ++ ts[n].s) (by omega) (by omega) (by rw [List.length_append]; omega)
          rw [if_pos rfl, List.nil_append, ← List.append_assoc, sb_append]
          exact ih
        | false =>
          have ih := l24_13 K q6 lang ts hl hs hK k (n + 1) (acc ++ [32] ++ ts[n].s) (by omega) (by omega) (by rw [List.length_append, List.length_append]; simp; omega)
          simp only [Bool.false_eq_true, if_false, Bool.not_false]
          rw [show (⟨#[32]⟩ : ByteArray) = sb [32] from rfl, sb_append, sb_append, ← List.append_assoc, ← List.append_assoc]
          exact ih
    · have hnil : ∀ p, jnGo lang p [] = [] := fun p => by cases p <;> rfl
      rw [decide_eq_false (show ¬ (n : Int) < (ts.length : Int) by omega), List.drop_eq_nil_of_le (by omega), hnil, List.append_nil]
      simp only []
      rw [sb_size]
      by_cases h8 : 8000 < acc.length
      · rw [decide_eq_true (show (acc.length : Int) > 8000 by omega), if_pos h8]
        rfl
      · rw [decide_eq_false (show ¬ (acc.length : Int) > 8000 by omega), if_neg h8]
theorem l24_6 (K : Nat) (lang : Int) (hlang : lang = 0 ∨ lang = 1) (ts : List Tk) (hl : ts.length ≤ 1500) (hs : ∀ t ∈ ts, t.s.length ≤ 20000) (hK : 50000 ≤ K) : ∀ (k n : Nat), ts.length - n < k → n ≤ ts.length →
    lp24_6 K k lang (ts.map tkA) (n : Int) = some (if fstErr lang (ts.drop n) = 0 then (if 8000 < (jnGo lang none ts).length then .tup [St (sb []), I 2] else .tup [St (sb (jnGo lang none ts)), I 0]) else .tup [St (sb []), I (fstErr lang (ts.drop n))])
  | 0, n, h, _ => by omega
  | k + 1, n, h, hn => by
    unfold lp24_6 tr24_6
    rw [List.length_map]
    by_cases hi : n < ts.length
    · have w1 : IntKind.i64.wrap ((n : Int) + 1) = ((n + 1 : Nat) : Int) := wrapA (m := 1) (by omega) (by omega)
      have h1 := hs ts[n] (List.getElem_mem hi)
      have g := tkA_get ts n hi
      have e20 := r20 (K := K) lang hlang ts[n] (by omega) (by omega)
      unfold tkA at e20
      rw [decide_eq_true (show (n : Int) < (ts.length : Int) by omega)]
      simp only [if_pos (Int.natCast_nonneg n), g, tkA, cellN, List.getD_cons_zero, List.getD_cons_succ, castS_S, castI_I, e20, w1]
      rw [List.drop_eq_getElem_cons hi]
      unfold fstErr
      by_cases he : tkErr lang ts[n] = 0
      · rw [if_pos he, show (tkErr lang ts[n] != 0) = false by simpa using he]
        exact l24_6 K lang hlang ts hl hs hK k (n + 1) (by omega) (by omega)
      · rw [if_neg he, show (tkErr lang ts[n] != 0) = true by simpa using he, if_neg he]
        rfl
    · rw [decide_eq_false (show ¬ (n : Int) < (ts.length : Int) by omega), List.drop_eq_nil_of_le (by omega)]
      have main := l24_13 K (lp24_6 K k) lang ts hl hs hK K 0 [] (by omega) (by omega) (by simp)
      rw [List.drop_zero, List.nil_append] at main
      exact main
theorem r24 {K : Nat} (lang : Int) (ts : List Tk) (hs : ts.length ≤ 1500 → ∀ t ∈ ts, t.s.length ≤ 20000) (hK : 50001 ≤ K) : run tab K 24 [I lang, .sl 35 (ts.map tkA)] = some (.tup [St (sb (joinT lang ts).1), I (joinT lang ts).2]) := by
  obtain ⟨K, rfl⟩ := succK (show 1 ≤ K by omega)
  rw [eq24]; unfold sh24 tr24
  rw [r19 (by omega), List.length_map]
  unfold joinT
  by_cases hlang : lang = 0 ∨ lang = 1
  · rw [decide_eq_true hlang, if_pos hlang]
    by_cases h15 : 1500 < ts.length
    · rw [decide_eq_true (show (ts.length : Int) > 1500 by omega), if_pos h15]
      rfl
    · rw [decide_eq_false (show ¬ (ts.length : Int) > 1500 by omega), if_neg h15]
      refine (l24_6 K lang hlang ts (by omega) (hs (by omega)) (by omega) K 0 (by omega) (by omega)).trans ?_
      rw [List.drop_zero]
      split
      · split <;> rfl
      · rfl
  · rw [decide_eq_false hlang, if_neg hlang]
    rfl
end Go.Proofs.YtdhbhedfbdckaaaGreatDoor
