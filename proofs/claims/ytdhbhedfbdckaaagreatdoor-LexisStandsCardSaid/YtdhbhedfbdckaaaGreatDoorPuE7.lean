/- A part of an interpreter of the model's code that is proved sound, and of laws told by it: DamX14, DamX15. -/
import Derived.Test.YtdhbhedfbdckaaaGreatDoorPuE6
set_option linter.unusedVariables false
set_option linter.unusedSimpArgs false
/- Two tokens side by side; the exported functions. -/
namespace Go.Proofs.YtdhbhedfbdckaaaGreatDoor
open Go.Dam
set_option linter.unusedVariables false
set_option linter.unusedSimpArgs false
def opensL : List (List UInt8) := [[40], [91], [123], [91, 91], [46], [46, 46], [64], [38], [33]]
def shutsL : List (List UInt8) := [[44], [59], [41], [93], [125], [93, 93], [46], [46, 46], [58]]
def two (lang : Int) (a b : Tk) : Bool := match rdT lang (a.s ++ b.s) with
  | .ok [x, y] _ => decide (x.k = a.k) && (decide (x.s = a.s) && (decide (y.k = b.k) && decide (y.s = b.s)))
  | _ => false
def togT (lang : Int) (a b : Tk) : Bool := ((a.k == 6) && decide (a.s ∈ opensL) || (b.k == 6) && decide (b.s ∈ shutsL)) && two lang a b
theorem core41 {K : Nat} (lang : Int) (a b : Tk) (hl : a.s.length + b.s.length ≤ 99999) (hK : a.s.length + b.s.length + 1400 ≤ K) : (match Nat.ble ((sb a.s).size + (sb b.s).size) 9223372036854775807 with | true => (match run tab K 37 [I lang, St ((sb a.s) ++ (sb b.s))] with | some r240 => (castP (compN r240 0) fun q241 => castI .i64 (compN r240 1) fun n242 => castI .i64 (compN r240 2) fun n243 => match (n243 == (0 : Int)) with | true => (castRef q241 fun p244 => castRef (.ref p244) fun p245 => castL 35 (p245.getD 5 .undef) fun l246 => match ((l246.length : Int) == (2 : Int)) with | true => (castRef q241 fun p247 => castRef (.ref p247) fun p248 => castL 35 (p248.getD 5 .undef) fun l249 => match l249[0]? with | some x250 => (castI .i64 (cellN x250 0) fun n251 => match (n251 == a.k) with | true => (castRef q241 fun p252 => castRef (.ref p252) fun p253 => castL 35 (p253.getD 5 .undef) fun l254 => match l254[0]? with | some x255 => (castS (cellN x255 1) fun s256 => match (s256 == (sb a.s)) with | true => (castRef q241 fun p257 => castRef (.ref p257) fun p258 => castL 35 (p258.getD 5 .undef) fun l259 => match l259[1]? with | some x260 => (castI .i64 (cellN x260 0) fun n261 => match (n261 == b.k) with | true => (castRef q241 fun p262 => castRef (.ref p262) fun p263 => castL 35 (p263.getD 5 .undef) fun l264 => match l264[1]? with | some x265 => (castS (cellN x265 1) fun s266 => some (B (s266 == (sb b.s)))) | none => none) | false => (some (B false))) | none => none) | false => (some (B false))) | none => none) | false => (some (B false))) | none => none) | false => (some (B false))) | false => (some (B false))) | none => none) | false => none) = some (B (two lang a b)) := by
  rw [show Nat.ble ((sb a.s).size + (sb b.s).size) 9223372036854775807 = true by rw [sb_size, sb_size, Nat.ble_eq]; omega, sb_append, r37 lang (a.s ++ b.s) (by rw [List.length_append]; exact hl) (by rw [List.length_append]; omega)]
  unfold two
  cases h : rdT lang (a.s ++ b.s) with
  | bad x e =>
    have he := rd_err h
    simp only [rdP, compN, List.getD_cons_zero, List.getD_cons_succ, castP, castI_I]
    rw [show (e == 0) = false by simpa using he]
  | ok ts cs =>
    simp only [rdP, scnA, compN, List.getD_cons_zero, List.getD_cons_succ, castP, castI_I, castRef, castL_L, List.length_map]
    rw [show ((0 : Int) == 0) = true from rfl]
    match ts with
    | [] => rfl
    | [t] => rfl
    | [x, y] =>
      simp only [List.map_cons, List.map_nil, List.getElem?_cons_zero, List.getElem?_cons_succ, tokA, cellN, List.getD_cons_zero, List.getD_cons_succ, castI_I, castS_S, sb_beq, beqI]
      rw [show decide ((([x, y] : List Tok).length : Int) = 2) = true from rfl]
      cases decide (x.k = a.k) <;> cases decide (x.s = a.s) <;> cases decide (y.k = b.k) <;> rfl
    | t :: u :: v :: ts =>
      rw [show (((t :: u :: v :: ts).length : Int) == 2) = false by rw [beq_eq_false_iff_ne]; simp; omega]
theorem r41 {K : Nat} (lang : Int) (a b : Tk) (hl : a.s.length + b.s.length ≤ 99999) (hK : a.s.length + b.s.length + 1500 ≤ K) : run tab K 41 [I lang, tkA a, tkA b] = some (B (togT lang a b)) := by
  obtain ⟨K, rfl⟩ := succK (show 1 ≤ K by omega)
  have c := core41 (K := K) lang a b hl (by omega)
  have e1 := r66 (K := K) opensL a.s (by decide) (by omega)
  have e2 := r66 (K := K) shutsL b.s (by decide) (by omega)
  unfold tkA
  rw [eq41]; unfold sh41 tr41
  rw [show ([St (⟨#[40]⟩ : ByteArray), St (⟨#[91]⟩ : ByteArray), St (⟨#[123]⟩ : ByteArray), St (⟨#[91, 91]⟩ : ByteArray), St (⟨#[46]⟩ : ByteArray), St (⟨#[46, 46]⟩ : ByteArray), St (⟨#[64]⟩ : ByteArray), St (⟨#[38]⟩ : ByteArray), St (⟨#[33]⟩ : ByteArray)] : LA) = strsA opensL from rfl, show ([St (⟨#[44]⟩ : ByteArray), St (⟨#[59]⟩ : ByteArray), St (⟨#[41]⟩ : ByteArray), St (⟨#[93]⟩ : ByteArray), St (⟨#[125]⟩ : ByteArray), St (⟨#[93, 93]⟩ : ByteArray), St (⟨#[46]⟩ : ByteArray), St (⟨#[46, 46]⟩ : ByteArray), St (⟨#[58]⟩ : ByteArray)] : LA) = strsA shutsL from rfl, e1, e2]
  simp only [castB_B]
  unfold togT
  generalize (a.k == 6) = b1
  generalize (b.k == 6) = b2
  generalize decide (a.s ∈ opensL) = b3
  generalize decide (b.s ∈ shutsL) = b4
  cases b1 <;> cases b2 <;> cases b3 <;> cases b4 <;> first | exact c | rfl
theorem r14 {K : Nat} (lang : Int) (l : List UInt8) (hl : l.length ≤ 99999) (hK : l.length + 1400 ≤ K) : run tab K 14 [I lang, St (sb l)] = some (match rdT lang l with
    | .bad a e => .tup [.sl 35 [], I a, I e]
    | .ok ts _ => .tup [.sl 35 (ts.map tokA), I 0, I 0]) := by
  obtain ⟨K, rfl⟩ := succK (show 1 ≤ K by omega)
  rw [eq14]; unfold sh14 tr14
  rw [r37 lang l hl (by omega)]
  cases h : rdT lang l with
  | bad a e =>
    have he := rd_err h
    simp only [rdP, compN, List.getD_cons_zero, List.getD_cons_succ, castP, castI_I]
    rw [show (e != 0) = true by simpa using he]
  | ok ts cs => rfl
theorem r17 {K : Nat} (lang : Int) (l : List UInt8) (hl : l.length ≤ 99999) (hK : l.length + 1400 ≤ K) : run tab K 17 [I lang, St (sb l)] = some (match rdT lang l with
    | .bad a e => .tup [.sl 40 [], I a, I e]
    | .ok _ cs => .tup [.sl 40 (cs.map comA), I 0, I 0]) := by
  obtain ⟨K, rfl⟩ := succK (show 1 ≤ K by omega)
  rw [eq17]; unfold sh17 tr17
  rw [r37 lang l hl (by omega)]
  cases h : rdT lang l with
  | bad a e =>
    have he := rd_err h
    simp only [rdP, compN, List.getD_cons_zero, List.getD_cons_succ, castP, castI_I]
    rw [show (e != 0) = true by simpa using he]
  | ok ts cs => rfl
end Go.Proofs.YtdhbhedfbdckaaaGreatDoor

/- Texts of tokens: plainly; the reference's Join. -/
namespace Go.Proofs.YtdhbhedfbdckaaaGreatDoor
open Go.Dam
set_option linter.unusedVariables false
set_option linter.unusedSimpArgs false
/-- Tokens with canonical spacing, behind a token. -/
def jnGo (lang : Int) : Option Tk → List Tk → List UInt8
  | _, [] => []
  | none, t :: ts => t.s ++ jnGo lang (some t) ts
  | some p, t :: ts => (if togT lang p t = true then [] else [32]) ++ (t.s ++ jnGo lang (some t) ts)
def fstErr (lang : Int) : List Tk → Int
  | [] => 0
  | t :: ts => if tkErr lang t = 0 then fstErr lang ts else tkErr lang t
def joinT (lang : Int) (ts : List Tk) : List UInt8 × Int :=
  if lang = 0 ∨ lang = 1 then (if 1500 < ts.length then ([], 2) else if fstErr lang ts = 0 then (if 8000 < (jnGo lang none ts).length then ([], 2) else (jnGo lang none ts, 0)) else ([], fstErr lang ts)) else ([], 4)
def prevT (ts : List Tk) (n : Nat) : Option Tk := if n = 0 then none else ts[n - 1]?
theorem prevT_succ (ts : List Tk) (n : Nat) (h : n < ts.length) : prevT ts (n + 1) = some ts[n] := by
  unfold prevT
  rw [if_neg (by omega), Nat.add_sub_cancel, List.getElem?_eq_getElem h]
theorem jn_step0 (lang : Int) (ts : List Tk) (h : 0 < ts.length) : jnGo lang (prevT ts 0) (ts.drop 0) = ts[0].s ++ jnGo lang (prevT ts 1) (ts.drop 1) := by
  rw [prevT_succ ts 0 h, List.drop_eq_getElem_cons h]
  rfl
theorem jn_step (lang : Int) (ts : List Tk) (n : Nat) (h0 : 0 < n) (h : n < ts.length) : jnGo lang (prevT ts n) (ts.drop n) = (if togT lang ts[n - 1] ts[n] = true then [] else [32]) ++ (ts[n].s ++ jnGo lang (prevT ts (n + 1)) (ts.drop (n + 1))) := by
  have hp : prevT ts n = some ts[n - 1] := by
    unfold prevT
    rw [if_neg (by omega), List.getElem?_eq_getElem (show n - 1 < ts.length by omega)]
  rw [hp, prevT_succ ts n h, List.drop_eq_getElem_cons h]
  rfl
end Go.Proofs.YtdhbhedfbdckaaaGreatDoor
