/- A part of an interpreter of the model's code that is proved sound, and of laws told by it: DamX23, DamLaw1. -/
import Derived.Test.YtdhbhedfbdckaaaGreatDoorPsG1
import Derived.Test.YtdhbhedfbdckaaaGreatDoorPsR1
set_option linter.unusedVariables false
set_option linter.unusedSimpArgs false
/- The chapter is awake; the laws of tokens, comments and right tokens. -/
namespace Go.Proofs.YtdhbhedfbdckaaaGreatDoor
open Go.Dam
set_option linter.unusedVariables false
set_option linter.unusedSimpArgs false
theorem kb : KB = 1000000 := rfl
theorem r13 {K : Nat} (h : 1 ≤ K) (l : List UInt8) : run tab K 13 [St (sb l)] = some (B (decide (l.length ≤ 400) || (decide (8000 < l.length) && decide (l.length < 8050)))) := by
  obtain ⟨K, rfl⟩ := succK h
  rw [eq13]; unfold sh13 tr13
  rw [sb_size]
  have e1 : decide ((l.length : Int) ≤ 400) = decide (l.length ≤ 400) := by rw [Bool.eq_iff_iff, decide_eq_true_iff, decide_eq_true_iff]; omega
  have e2 : decide ((l.length : Int) > 8000) = decide (8000 < l.length) := by rw [Bool.eq_iff_iff, decide_eq_true_iff, decide_eq_true_iff]; omega
  have e3 : decide ((l.length : Int) < 8050) = decide (l.length < 8050) := by rw [Bool.eq_iff_iff, decide_eq_true_iff, decide_eq_true_iff]; omega
  rw [e1, e2, e3]
  cases decide (l.length ≤ 400) <;> cases decide (8000 < l.length) <;> rfl
theorem short_le {l : List UInt8} (h : (decide (l.length ≤ 400) || (decide (8000 < l.length) && decide (l.length < 8050))) = true) : l.length ≤ 8050 := by
  rw [Bool.or_eq_true, Bool.and_eq_true, decide_eq_true_iff, decide_eq_true_iff, decide_eq_true_iff] at h
  omega
def exL : List UInt8 := [84, 32, 58, 58, 61, 32, 73, 78, 84, 69, 71, 69, 82, 32, 40, 48, 46, 46, 55, 41, 32, 45, 45, 32, 115, 109, 97, 108, 108]
def rdLen : Rd → Option (Nat × Nat)
  | .bad _ _ => none
  | .ok ts cs => some (ts.length, cs.length)
theorem ex36 : run tab KB 36 [] = some (St (sb exL)) := by kernel_rfl
theorem exL_len : exL.length ≤ 99999 ∧ exL.length + 1400 ≤ KB := by
  rw [kb, show exL.length = 29 from rfl]
  omega
theorem exRd : rdLen (rdT 0 exL) = some (8, 1) := by kernel_rfl
theorem exJoin : joinT 0 [⟨0, [97], 0⟩, ⟨6, [46], 0⟩, ⟨0, [98], 0⟩] = ([97, 46, 98], 0) := by kernel_rfl
theorem run22 (K : Nat) (lang : Int) (ts : List Tk) (hs : smallT ts = true) : run tab2 (K + 1) 22 [I lang, .sl 35 (ts.map tkA)] = some (.tup [St (sb (joinT lang ts).1), I (joinT lang ts).2]) := by
  have h : tab2.ext 22 = some extJoin := rfl
  have e : run tab2 (K + 1) 22 [I lang, .sl 35 (ts.map tkA)] = extJoin [I lang, .sl 35 (ts.map tkA)] := by
    conv => lhs; unfold run
    rw [h]
  rw [e]
  show (match tksOf (ts.map tkA) with
    | some ts => if smallT ts then some (AV.tup [.sc (.string (sb (joinT lang ts).1)), .sc (.int .i64 (joinT lang ts).2)]) else none
    | none => none) = _
  rw [tksOf_map]
  simp only []
  rw [if_pos hs]
theorem aw36 (K : Nat) : run tab2 (K + 1) 36 [] = some (St (sb exL)) := (run2 K 36 [] rfl).trans ex36
def awF (o36 : OA) (f14 f17 : ByteArray → OA) (o22 : OA) : OA :=
  match o36 with | some r135 => (castS r135 fun s136 => match f14 s136 with | some r137 => (castL 35 (compN r137 0) fun l138 => castI .i64 (compN r137 1) fun n139 => castI .i64 (compN r137 2) fun n140 => match o36 with | some r141 => (castS r141 fun s142 => match f17 s142 with | some r143 => (castL 40 (compN r143 0) fun l144 => castI .i64 (compN r143 1) fun n145 => castI .i64 (compN r143 2) fun n146 => match o22 with | some r147 => (castS (compN r147 0) fun s148 => castI .i64 (compN r147 1) fun n149 => match (n140 == (0 : Int)) with | true => (match ((l138.length : Int) == (8 : Int)) with | true => (match (n146 == (0 : Int)) with | true => (match ((l144.length : Int) == (1 : Int)) with | true => (match (n149 == (0 : Int)) with | true => (some (B (s148 == (⟨#[97, 46, 98]⟩ : ByteArray)))) | false => (some (B false))) | false => (some (B false))) | false => (some (B false))) | false => (some (B false))) | false => (some (B false))) | none => none) | none => none) | none => none) | none => none) | none => none
theorem awF_ok {o36 : OA} {f14 f17 : ByteArray → OA} {o22 : OA} {ex s3 : ByteArray} {l m : LA} (h36 : o36 = some (St ex)) (h14 : f14 ex = some (.tup [.sl 35 l, I 0, I 0])) (h17 : f17 ex = some (.tup [.sl 40 m, I 0, I 0])) (h22 : o22 = some (.tup [St s3, I 0])) (hl : l.length = 8) (hm : m.length = 1) (hs : (s3 == (⟨#[97, 46, 98]⟩ : ByteArray)) = true) : awF o36 f14 f17 o22 = some (B true) := by
  unfold awF
  subst h36 h22
  simp only [castS_S, h14, h17, compN, List.getD_cons_zero, List.getD_cons_succ, castL_L, castI_I, hl, hm, hs]
  rfl
theorem tr12_awF (K : Nat) : tr12 K = awF (run tab2 K 36 []) (fun s => run tab2 K 14 [I 0, St s]) (fun s => run tab2 K 17 [I 0, St s]) (run tab2 K 22 [I 0, .sl 35 [.agg [I 0, St (⟨#[97]⟩ : ByteArray), I 0], .agg [I 6, St (⟨#[46]⟩ : ByteArray), I 0], .agg [I 0, St (⟨#[98]⟩ : ByteArray), I 0]]]) := rfl
theorem awake2 {K : Nat} (h : 2 ≤ K) : run tab2 K 12 [] = some (B true) := by
  obtain ⟨K, rfl⟩ : ∃ k, K = k + 2 := ⟨K - 2, by omega⟩
  have e36 := aw36 K
  have e14 := run2 K 14 [I 0, St (sb exL)] rfl
  have e17 := run2 K 17 [I 0, St (sb exL)] rfl
  have e22 := run22 K 0 [⟨0, [97], 0⟩, ⟨6, [46], 0⟩, ⟨0, [98], 0⟩] rfl
  rw [exJoin] at e22
  rw [r14 0 exL exL_len.1 exL_len.2] at e14
  rw [r17 0 exL exL_len.1 exL_len.2] at e17
  have hrd := exRd
  generalize rdT 0 exL = d at e14 e17 hrd
  rw [show K + 2 = K + 1 + 1 from rfl]
  refine (eq12 (K + 1)).trans ?_
  unfold sh12
  rw [tr12_awF]
  cases d with
  | bad a e => cases hrd
  | ok ts cs =>
    have hrd : some (ts.length, cs.length) = some (8, 1) := hrd
    simp only [Option.some.injEq, Prod.mk.injEq] at hrd
    exact awF_ok e36 e14 e17 e22 (by rw [List.length_map]; exact hrd.1) (by rw [List.length_map]; exact hrd.2) (sb_refl _)
theorem l3 (K : Nat) (ts : List Tok) (cs : LA) (a e : Int) (hl : ts.length ≤ 100000) : ∀ (k n : Nat), ts.length - n < k → n ≤ ts.length → lp3_10 K k (ts.map tokA) (.ref [.sl 35 (ts.map tokA), .sl 40 cs, I a, I e]) (n : Int) = some (B true)
  | 0, n, h, _ => by omega
  | k + 1, n, h, hn => by
    unfold lp3_10 tr3_10
    rw [List.length_map]
    by_cases hi : n < ts.length
    · have w1 : IntKind.i64.wrap ((n : Int) + 1) = ((n + 1 : Nat) : Int) := wrapA (m := 1) (by omega) (by omega)
      have g : (ts.map tokA)[(n : Int).toNat]? = some (tokA ts[n]) := by rw [Int.toNat_natCast, List.getElem?_map, List.getElem?_eq_getElem hi]; rfl
      rw [decide_eq_true (show (n : Int) < (ts.length : Int) by omega)]
      simp only [if_pos (Int.natCast_nonneg n), g, tokA, cellN, List.getD_cons_zero, List.getD_cons_succ, castI_I, castRef, castL_L, w1]
      rw [show ((ts[n].at' : Int) != (ts[n].at' : Int)) = false by simp]
      exact l3 K ts cs a e hl k (n + 1) (by omega) (by omega)
    · rw [decide_eq_false (show ¬ (n : Int) < (ts.length : Int) by omega)]
theorem law3 (K : Nat) (hK : 100000 ≤ K) (lang : Int) (l : List UInt8) : run tab2 (K + 1 + 1) 3 [I lang, St (sb l)] = some (B true) := by
  have e13 := run2 K 13 [St (sb l)] rfl
  rw [r13 (by decide)] at e13
  rw [eq3]; unfold sh3 tr3
  rw [awake2 (by omega), e13]
  simp only [castB_B, Bool.not_true]
  cases hs : (decide (l.length ≤ 400) || (decide (8000 < l.length) && decide (l.length < 8050))) with
  | false => rfl
  | true =>
    have hle := short_le hs
    have e14 := run2 K 14 [I lang, St (sb l)] rfl
    have e15 := run2 K 15 [I lang, St (sb l)] rfl
    rw [r14 lang l (by omega) (by rw [kb]; omega)] at e14
    rw [r15 lang l (by omega) (by rw [kb]; omega)] at e15
    simp only [Bool.not_true, e14, e15]
    cases hx : rdT lang l with
    | bad a e =>
      have e16 := run2 K 16 [.sl 35 [], .sl 35 []] rfl
      have r := r16 (K := KB) [] [] (by simp) (by rw [kb]; simp)
      have r : run tab KB 16 [.sl 35 [], .sl 35 []] = some (B true) := r
      rw [r] at e16
      simp only [rdR, compN, List.getD_cons_zero, List.getD_cons_succ, castL_L, castI_I, castP, castRef, e16, castB_B]
      rw [show (e != e) = false by simp, show (a != a) = false by simp]
      exact l3 _ [] [] a e (by simp) (K + 1) 0 (by simp) (by simp)
    | ok ts cs =>
      have hts : ts.length ≤ 1500 := (rd_ok hx).2.2.2.2
      have e16 := run2 K 16 [.sl 35 (ts.map tokA), .sl 35 (ts.map tokA)] rfl
      have r := r16 (K := KB) (ts.map Tok.tk) (ts.map Tok.tk) (by rw [List.length_map]; omega) (by rw [kb, List.length_map]; omega)
      rw [← map_tokA, decide_eq_true rfl] at r
      rw [r] at e16
      simp only [rdR, compN, List.getD_cons_zero, List.getD_cons_succ, castL_L, castI_I, castP, castRef, e16, castB_B]
      exact l3 _ ts _ 0 0 (by omega) (K + 1) 0 (by omega) (by omega)
theorem l4 (K : Nat) (ts : LA) (cs : List (Nat × Nat)) (a e : Int) (hl : cs.length ≤ 100000) : ∀ (k n : Nat), cs.length - n < k → n ≤ cs.length → lp4_10 K k (cs.map comA) (.ref [.sl 35 ts, .sl 40 (cs.map comA), I a, I e]) (n : Int) = some (B true)
  | 0, n, h, _ => by omega
  | k + 1, n, h, hn => by
    unfold lp4_10 tr4_10
    rw [List.length_map]
    by_cases hi : n < cs.length
    · have w1 : IntKind.i64.wrap ((n : Int) + 1) = ((n + 1 : Nat) : Int) := wrapA (m := 1) (by omega) (by omega)
      have g : (cs.map comA)[(n : Int).toNat]? = some (comA cs[n]) := by rw [Int.toNat_natCast, List.getElem?_map, List.getElem?_eq_getElem hi]; rfl
      rw [decide_eq_true (show (n : Int) < (cs.length : Int) by omega)]
      simp only [if_pos (Int.natCast_nonneg n), g, comA, cellN, List.getD_cons_zero, List.getD_cons_succ, castI_I, castRef, castL_L, w1]
      rw [show ((cs[n].1 : Int) == (cs[n].1 : Int)) = true by simp, show ((cs[n].2 : Int) == (cs[n].2 : Int)) = true by simp]
      exact l4 K ts cs a e hl k (n + 1) (by omega) (by omega)
    · rw [decide_eq_false (show ¬ (n : Int) < (cs.length : Int) by omega)]
theorem law4 (K : Nat) (hK : 100000 ≤ K) (lang : Int) (l : List UInt8) : run tab2 (K + 1 + 1) 4 [I lang, St (sb l)] = some (B true) := by
  have e13 := run2 K 13 [St (sb l)] rfl
  rw [r13 (by decide)] at e13
  rw [eq4]; unfold sh4 tr4
  rw [awake2 (by omega), e13]
  simp only [castB_B, Bool.not_true]
  cases hs : (decide (l.length ≤ 400) || (decide (8000 < l.length) && decide (l.length < 8050))) with
  | false => rfl
  | true =>
    have hle := short_le hs
    have e17 := run2 K 17 [I lang, St (sb l)] rfl
    have e15 := run2 K 15 [I lang, St (sb l)] rfl
    rw [r17 lang l (by omega) (by rw [kb]; omega)] at e17
    rw [r15 lang l (by omega) (by rw [kb]; omega)] at e15
    simp only [Bool.not_true, e17, e15]
    cases hx : rdT lang l with
    | bad a e =>
      simp only [rdR, compN, List.getD_cons_zero, List.getD_cons_succ, castL_L, castI_I, castP, castRef]
      rw [show (e != e) = false by simp, show (a != a) = false by simp]
      exact l4 _ [] [] a e (by simp) (K + 1) 0 (by simp) (by simp)
    | ok ts cs =>
      have hcs : cs.length ≤ 100000 := by
        obtain ⟨_, h8, _, hsc, _⟩ := rd_ok hx
        have h1 := scE_len lang _ _ _ _ _ hsc
        have : ∀ c : List (Nat × Nat), (∀ x ∈ c, 2 ≤ x.2 - x.1) → 2 * c.length ≤ lenC c := fun c => by
          induction c with
          | nil => intro _; exact Nat.le_refl _
          | cons x c ih =>
            intro h
            have h2 := h x (by simp)
            have h3 := ih (fun y hy => h y (by simp [hy]))
            have : lenC (x :: c) = x.2 - x.1 + lenC c := by
              unfold lenC
              rw [List.map_cons, List.sum_cons]
            rw [List.length_cons]
            omega
        have := this cs h1.2.1
        omega
      simp only [rdR, compN, List.getD_cons_zero, List.getD_cons_succ, castL_L, castI_I, castP, castRef]
      rw [show (((cs.map comA).length : Int) != ((cs.map comA).length : Int)) = false by simp]
      exact l4 _ _ cs 0 0 hcs (K + 1) 0 (by omega) (by omega)
theorem law5 (K : Nat) (hK : 100000 ≤ K) (lang : Int) (t : Tk) : run tab2 (K + 1 + 1) 5 [I lang, tkA t] = some (B true) := by
  have e := eq5 (K + 1) lang t.k (sb t.s) t.a
  refine Eq.trans e ?_
  unfold sh5 tr5
  rw [awake2 (by omega)]
  simp only [castB_B, Bool.not_true]
  rw [sb_size]
  by_cases h3 : 300 < t.s.length
  · rw [decide_eq_true (show (t.s.length : Int) > 300 by omega)]
  · rw [decide_eq_false (show ¬ (t.s.length : Int) > 300 by omega)]
    have e18 := run2 K 18 [I lang, tkA t] rfl
    have e19 := run2 K 19 [I lang] rfl
    have e20 := run2 K 20 [I lang, tkA t] rfl
    rw [r18 lang t (by omega) (by rw [kb]; omega)] at e18
    rw [r19 (by decide)] at e19
    unfold tkA at e18 e20
    simp only [e18, e19, castI_I, castB_B]
    by_cases hlang : lang = 0 ∨ lang = 1
    · have r := r20 (K := KB) lang hlang t (by omega) (by rw [kb]; omega)
      unfold tkA at r
      rw [r] at e20
      rw [decide_eq_true hlang, if_pos hlang]
      simp only [Bool.not_true, e20, castI_I]
      rw [show (tkErr lang t == tkErr lang t) = true by simp]
    · rw [decide_eq_false hlang, if_neg hlang]
      rfl
end Go.Proofs.YtdhbhedfbdckaaaGreatDoor

/- The laws of tokens, comments and right tokens, of whatever arguments. -/
namespace Go.Proofs.YtdhbhedfbdckaaaGreatDoor
open Go.Dam
theorem two_list {av : List AV} {n : Nat} (hl : av.length = n) (hn : n = 2) : ∃ a b, av = [a, b] := by
  subst hn
  match av, hl with
  | [a, b], _ => exact ⟨a, b, rfl⟩
theorem lawv3 (av : List AV) (hl : av.length = [3, 9].length) (h : ∀ j t, [3, 9][j]? = some t → WfA tab2 t (av.getD j .undef)) : ∃ k, run tab2 k 3 av = some (.sc (.bool true)) := by
  obtain ⟨a, b, rfl⟩ := two_list hl rfl
  obtain ⟨n, hn⟩ := dec3 (h 0 3 rfl)
  obtain ⟨l, hb⟩ := dec9 (h 1 9 rfl)
  have hn : a = I n := hn
  have hb : b = St (sb l) := hb
  subst hn hb
  exact ⟨_, law3 100000 (Nat.le_refl _) n l⟩
theorem lawv4 (av : List AV) (hl : av.length = [3, 9].length) (h : ∀ j t, [3, 9][j]? = some t → WfA tab2 t (av.getD j .undef)) : ∃ k, run tab2 k 4 av = some (.sc (.bool true)) := by
  obtain ⟨a, b, rfl⟩ := two_list hl rfl
  obtain ⟨n, hn⟩ := dec3 (h 0 3 rfl)
  obtain ⟨l, hb⟩ := dec9 (h 1 9 rfl)
  have hn : a = I n := hn
  have hb : b = St (sb l) := hb
  subst hn hb
  exact ⟨_, law4 100000 (Nat.le_refl _) n l⟩
theorem lawv5 (av : List AV) (hl : av.length = [3, 35].length) (h : ∀ j t, [3, 35][j]? = some t → WfA tab2 t (av.getD j .undef)) : ∃ k, run tab2 k 5 av = some (.sc (.bool true)) := by
  obtain ⟨a, b, rfl⟩ := two_list hl rfl
  obtain ⟨n, hn⟩ := dec3 (h 0 3 rfl)
  obtain ⟨t, hb⟩ := dec35 (h 1 35 rfl)
  have hn : a = I n := hn
  have hb : b = tkA t := hb
  subst hn hb
  exact ⟨_, law5 100000 (Nat.le_refl _) n t⟩
end Go.Proofs.YtdhbhedfbdckaaaGreatDoor
