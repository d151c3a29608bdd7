/- A part of an interpreter of the model's code that is proved sound, and of laws told by it: DamX32, DamX33. -/
import Derived.Test.YtdhbhedfbdckaaaGreatDoorPuY6
import Derived.Test.YtdhbhedfbdckaaaGreatDoorPuH1
import Derived.Test.YtdhbhedfbdckaaaGreatDoorPuG1
import Derived.Test.YtdhbhedfbdckaaaGreatDoorPuR1
import Derived.Test.YtdhbhedfbdckaaaGreatDoorPuY3
set_option linter.unusedVariables false
set_option linter.unusedSimpArgs false
/- LexisBare. -/
namespace Go.Proofs.YtdhbhedfbdckaaaGreatDoor
open Go.Dam
set_option linter.unusedVariables false
set_option linter.unusedSimpArgs false
theorem bytesK_u8 {R : Type} : ∀ (l : List UInt8) (F : List UInt8 → Option R), bytesK (l.map u8) F = F l
  | [], F => rfl
  | c :: l, F => by
    show (castI .u8 (u8 c) fun n => bytesK (l.map u8) fun r => F (UInt8.ofNat n.toNat :: r)) = _
    have : castI .u8 (u8 c) (fun n => bytesK (l.map u8) fun r => F (UInt8.ofNat n.toNat :: r)) = bytesK (l.map u8) fun r => F (UInt8.ofNat ((c.toNat : Int)).toNat :: r) := by
      simp [castI, u8]
    rw [this, bytesK_u8 l]
    simp
theorem castI_u8 {R : Type} (c : UInt8) (F : Int → Option R) : castI .u8 (u8 c) F = F (c.toNat : Int) := by simp [castI, u8]
theorem map_u8 (l : List UInt8) : ((sb l).data.toList.map fun c => AV.sc (.int .u8 (c.toNat : Int))) = l.map u8 := rfl
theorem u8_set (l : List UInt8) (n : Nat) : (l.map u8).set n (.sc (.int .u8 32)) = (l.set n 32).map u8 := by
  rw [List.map_set]
  rfl
theorem u8_get {l : List UInt8} {n : Nat} (h : n < l.length) : (l.map u8)[((n : Int)).toNat]? = some (u8 l[n]) := by
  rw [Int.toNat_natCast, List.getElem?_map, List.getElem?_eq_getElem h]
  rfl
theorem u8_10 (c : UInt8) : ((c.toNat : Int) != 10) = !decide (c = 10) := chrN c 10 (by omega)
theorem bcell_bcell (c : UInt8) : bcell (bcell c) = bcell c := by
  unfold bcell
  by_cases h : c = 10
  · rw [if_pos h, if_pos rfl]
  · rw [if_neg h, if_neg (by decide)]
theorem inC_snoc (ds : List (Nat × Nat)) (a p q : Nat) : inC (ds ++ [(a, p)]) q ↔ inC ds q ∨ (a ≤ q ∧ q < p) := by
  constructor
  · rintro ⟨c, hc, h1, h2⟩
    rcases List.mem_append.1 hc with hc | hc
    · exact .inl ⟨c, hc, h1, h2⟩
    · rw [List.mem_singleton] at hc
      subst hc
      exact .inr ⟨h1, h2⟩
  · rintro (⟨c, hc, h⟩ | ⟨h1, h2⟩)
    · exact ⟨c, List.mem_append_left _ hc, h⟩
    · exact ⟨(a, p), by simp, h1, h2⟩
/-- One character more. -/
theorem bare_put (ds : List (Nat × Nat)) (l : List UInt8) (a p : Nat) (ha : a ≤ p) (hp : p < l.length) (hp' : p < (bare (ds ++ [(a, p)]) 0 l).length) :
    bare (ds ++ [(a, p + 1)]) 0 l = (bare (ds ++ [(a, p)]) 0 l).set p (bcell (bare (ds ++ [(a, p)]) 0 l)[p]) := by
  apply List.ext_getElem?
  intro j
  have hgp : (bare (ds ++ [(a, p)]) 0 l)[p]? = some (bare (ds ++ [(a, p)]) 0 l)[p] := List.getElem?_eq_getElem hp'
  rw [List.getElem?_set]
  by_cases hj : p = j
  · subst hj
    rw [if_pos rfl, if_pos hp']
    rw [bare_get, List.getElem?_eq_getElem hp] at hgp
    simp only [Nat.zero_add, Option.map_some, Option.some.injEq] at hgp
    rw [bare_get, List.getElem?_eq_getElem hp]
    simp only [Nat.zero_add, Option.map_some, Option.some.injEq]
    rw [if_pos ((inC_snoc ds a (p + 1) p).2 (.inr ⟨ha, by omega⟩)), ← hgp]
    split
    · rw [bcell_bcell]
    · rfl
  · rw [if_neg hj, bare_get, bare_get]
    have : inC (ds ++ [(a, p + 1)]) (0 + j) ↔ inC (ds ++ [(a, p)]) (0 + j) := by
      rw [inC_snoc, inC_snoc]
      constructor
      · rintro (h | ⟨h1, h2⟩)
        · exact .inl h
        · exact .inr ⟨h1, by omega⟩
      · rintro (h | ⟨h1, h2⟩)
        · exact .inl h
        · exact .inr ⟨h1, by omega⟩
    by_cases hc : inC (ds ++ [(a, p)]) (0 + j)
    · simp only [if_pos hc, if_pos (this.2 hc)]
    · simp only [if_neg hc, if_neg (fun h => hc (this.1 h))]
theorem comA_get {cs : List (Nat × Nat)} {i : Nat} (h : i < cs.length) : (cs.map comA)[((i : Int)).toNat]? = some (.agg [I (cs[i].1 : Int), I (cs[i].2 : Int)]) := by
  rw [Int.toNat_natCast, List.getElem?_map, List.getElem?_eq_getElem h]
  rfl
theorem take_snoc {α : Type} (l : List α) {i : Nat} (h : i < l.length) : l.take i ++ [l[i]] = l.take (i + 1) := by
  rw [List.take_add_one, List.getElem?_eq_getElem h]
  rfl
theorem l8_17 (K : Nat) (q12 : Int → ByteArray → LA → LA → LA → Int → Int → OA) (lang : Int) (s : ByteArray) (l : List UInt8) (tsA : LA) (cs : List (Nat × Nat)) (hl : l.length ≤ 100000) (hcl : cs.length ≤ 100000) {i : Nat} (hi : i < cs.length) (h2 : cs[i].2 ≤ l.length) :
    ∀ (k p : Nat), cs[i].2 - p < k → cs[i].1 ≤ p → p ≤ cs[i].2 →
    lp8_17 K q12 k lang s tsA (cs.map comA) ((bare (cs.take i ++ [(cs[i].1, p)]) 0 l).map u8) (i : Int) (p : Int) = q12 lang s tsA (cs.map comA) ((bare (cs.take (i + 1)) 0 l).map u8) (cs[i].2 : Int) ((i + 1 : Nat) : Int)
  | 0, p, h, _, _ => by omega
  | k + 1, p, h, h1, hp => by
    unfold lp8_17 tr8_17
    rw [if_pos (Int.natCast_nonneg i), comA_get hi]
    have w1 : IntKind.i64.wrap ((i : Int) + 1) = ((i + 1 : Nat) : Int) := wrapA (m := 1) (by omega) (by omega)
    simp only [cellN, List.getD_cons_zero, List.getD_cons_succ, castI_I]
    by_cases hlt : p < cs[i].2
    · have w2 : IntKind.i64.wrap ((p : Int) + 1) = ((p + 1 : Nat) : Int) := wrapA (m := 1) (by omega) (by omega)
      have hp' : p < (bare (cs.take i ++ [(cs[i].1, p)]) 0 l).length := by rw [bare_len]; omega
      have hput := bare_put (cs.take i) l cs[i].1 p h1 (by omega) hp'
      have ih := l8_17 K q12 lang s l tsA cs hl hcl hi h2 k (p + 1) (by omega) (by omega) (by omega)
      rw [hput] at ih
      rw [decide_eq_true (show (p : Int) < (cs[i].2 : Int) by omega)]
      simp only [if_pos (Int.natCast_nonneg p), u8_get hp', castI_u8, u8_10]
      by_cases h10 : (bare (cs.take i ++ [(cs[i].1, p)]) 0 l)[p] = 10
      · rw [decide_eq_true h10]
        simp only [Bool.not_true, w2]
        have e : (bare (cs.take i ++ [(cs[i].1, p)]) 0 l).set p (bcell (bare (cs.take i ++ [(cs[i].1, p)]) 0 l)[p]) = bare (cs.take i ++ [(cs[i].1, p)]) 0 l := by
          have : bcell (bare (cs.take i ++ [(cs[i].1, p)]) 0 l)[p] = (bare (cs.take i ++ [(cs[i].1, p)]) 0 l)[p] := by
            rw [h10]; rfl
          rw [this, List.set_getElem_self]
        rw [e] at ih
        exact ih
      · rw [decide_eq_false h10]
        simp only [Bool.not_false]
        rw [if_pos (by rw [Int.toNat_natCast, List.length_map]; exact hp'), w2, Int.toNat_natCast, u8_set]
        have : bcell (bare (cs.take i ++ [(cs[i].1, p)]) 0 l)[p] = 32 := by unfold bcell; rw [if_neg h10]
        rw [this] at ih
        exact ih
    · have hpe : p = cs[i].2 := by omega
      subst hpe
      rw [decide_eq_false (show ¬ ((cs[i].2 : Int) < (cs[i].2 : Int)) by omega)]
      simp only [w1, if_pos (Int.natCast_nonneg i)]
      rw [show cs.take i ++ [(cs[i].1, cs[i].2)] = cs.take (i + 1) from take_snoc cs hi]
theorem l8_27 (K : Nat) (q12 : Int → ByteArray → LA → LA → LA → Int → Int → OA) (ts : List Tok) (hl : ts.length ≤ 100000) : ∀ (k n : Nat), ts.length - n < k → n ≤ ts.length → lp8_27 K q12 k (ts.map tokA) (ts.map tokA) (n : Int) = some (B true)
  | 0, n, h, _ => by omega
  | k + 1, n, h, hn => by
    unfold lp8_27 tr8_27
    rw [List.length_map]
    by_cases hi : n < ts.length
    · have w1 : IntKind.i64.wrap ((n : Int) + 1) = ((n + 1 : Nat) : Int) := wrapA (m := 1) (by omega) (by omega)
      have g : (ts.map tokA)[(n : Int).toNat]? = some (tokA ts[n]) := by rw [Int.toNat_natCast, List.getElem?_map, List.getElem?_eq_getElem hi]; rfl
      rw [decide_eq_true (show (n : Int) < (ts.length : Int) by omega)]
      simp only [if_pos (Int.natCast_nonneg n), g, tokA, cellN, List.getD_cons_zero, List.getD_cons_succ, castI_I, castS_S, w1, sb_refl]
      rw [show (ts[n].k == ts[n].k) = true by simp, show ((ts[n].at' : Int) == (ts[n].at' : Int)) = true by simp]
      exact l8_27 K q12 ts hl k (n + 1) (by omega) (by omega)
    · rw [decide_eq_false (show ¬ (n : Int) < (ts.length : Int) by omega)]
theorem bare_okC (cs : List (Nat × Nat)) {l : List UInt8} (h : ∀ c ∈ l, okC c = true) : ∀ c ∈ bare cs 0 l, okC c = true := by
  intro c hc
  obtain ⟨j, hj⟩ := List.mem_iff_getElem?.1 hc
  rw [bare_get] at hj
  cases hd : l[j]? with
  | none => rw [hd] at hj; cases hj
  | some d =>
    rw [hd] at hj
    simp only [Option.map_some, Option.some.injEq] at hj
    rw [← hj]
    split
    · unfold bcell
      split <;> decide
    · exact h d (List.mem_of_getElem? hd)
theorem rd_bare {lang : Int} {l : List UInt8} {ts : List Tok} {cs : List (Nat × Nat)} (h : rdT lang l = .ok ts cs) : rdT lang (bare cs 0 l) = .ok ts [] := by
  obtain ⟨hlang, hl, hbad, hsc, hts⟩ := rd_ok h
  have hck : chkT (bare cs 0 l) = ((((bare cs 0 l).count 10 + 1 : Nat) : Int), (0 : Int)) := by
    unfold chkT
    rw [if_neg (by rw [bare_len]; omega), badAt_of (bare_okC cs (badAt_none hbad))]
  rw [rdT_go hlang hck, bare_len, sc_bare lang _ _ _ _ _ (by omega) hsc]
  simp only []
  rw [if_neg (by omega)]
theorem l8_12 (K : Nat) (hK : 100000 ≤ K) (lang : Int) (l : List UInt8) (ts : List Tok) (cs : List (Nat × Nat)) (hrd : rdT lang l = .ok ts cs) (hcl : cs.length ≤ 100000) : ∀ (k n last : Nat), cs.length - n < k → n ≤ cs.length → chC last l.length (cs.drop n) →
    lp8_12 (K + 1) k lang (sb l) (ts.map tokA) (cs.map comA) ((bare (cs.take n) 0 l).map u8) (last : Int) (n : Int) = some (B true)
  | 0, n, last, h, _, _ => by omega
  | k + 1, n, last, h, hn, hch => by
    have hl : l.length ≤ 8000 := (rd_ok hrd).2.1
    unfold lp8_12 tr8_12
    rw [List.length_map]
    by_cases hi : n < cs.length
    · rw [List.drop_eq_getElem_cons hi] at hch
      obtain ⟨c1, c2, c3, c4⟩ := hch
      have w1 : IntKind.i64.wrap ((cs[n].1 : Int) + 2) = ((cs[n].1 + 2 : Nat) : Int) := wrapA (m := 2) (by omega) (by omega)
      have e1 := run2 K 25 [I (cs[n].1 : Int), I (last : Int), I (l.length : Int)] rfl
      rw [r25 (by decide), decide_eq_true (show (last : Int) ≤ (cs[n].1 : Int) by omega), decide_eq_true (show (cs[n].1 : Int) ≤ (l.length : Int) by omega)] at e1
      have e2 := run2 K 25 [I (cs[n].2 : Int), I ((cs[n].1 + 2 : Nat) : Int), I (l.length : Int)] rfl
      rw [r25 (by decide), decide_eq_true (show ((cs[n].1 + 2 : Nat) : Int) ≤ (cs[n].2 : Int) by omega), decide_eq_true (show (cs[n].2 : Int) ≤ (l.length : Int) by omega)] at e2
      rw [decide_eq_true (show (n : Int) < (cs.length : Int) by omega)]
      simp only [if_pos (Int.natCast_nonneg n), comA_get hi, cellN, List.getD_cons_zero, List.getD_cons_succ, castI_I, sb_size, e1, castB_B, Bool.and_self, Bool.not_true, w1, e2]
      have hb0 : bare (cs.take n) 0 l = bare (cs.take n ++ [(cs[n].1, cs[n].1)]) 0 l := bare_congr _ _ fun p _ => by
        rw [inC_snoc]
        exact ⟨.inl, fun h => h.elim id fun h => by omega⟩
      rw [hb0, l8_17 (K + 1) _ lang (sb l) l _ cs (by omega) hcl hi c3 (K + 1) cs[n].1 (by omega) (Nat.le_refl _) (by omega)]
      exact l8_12 K hK lang l ts cs hrd hcl k (n + 1) cs[n].2 (by omega) (by omega) c4
    · have hne : n = cs.length := by omega
      subst hne
      have hts : ts.length ≤ 1500 := (rd_ok hrd).2.2.2.2
      have hrb := rd_bare hrd
      have e14 := run2 K 14 [I lang, St (sb (bare cs 0 l))] rfl
      have e17 := run2 K 17 [I lang, St (sb (bare cs 0 l))] rfl
      rw [r14 lang _ (by rw [bare_len]; omega) (by rw [bare_len, kb]; omega), hrb] at e14
      rw [r17 lang _ (by rw [bare_len]; omega) (by rw [bare_len, kb]; omega), hrb] at e17
      simp only [] at e14 e17
      rw [decide_eq_false (show ¬ ((cs.length : Int) < (cs.length : Int)) by omega), List.take_length]
      simp only [bytesK_u8]
      rw [show (⟨(bare cs 0 l).toArray⟩ : ByteArray) = sb (bare cs 0 l) from rfl]
      simp only [e14, e17, compN, List.getD_cons_zero, List.getD_cons_succ, castL_L, castI_I]
      rw [show ((0 : Int) != 0) = false from rfl]
      simp only [List.length_map, List.length_nil]
      rw [show decide (((0 : Nat) : Int) > 0) = false from rfl, show ((ts.length : Int) != (ts.length : Int)) = false by simp]
      exact l8_27 (K + 1) _ ts (by omega) (K + 1) 0 (by omega) (by omega)
theorem chC_len : ∀ {cs : List (Nat × Nat)} {a e : Nat}, chC a e cs → a ≤ e → a + 2 * cs.length ≤ e
  | [], a, e, _, h => by simpa using h
  | c :: cs, a, e, h, _ => by
    have h1 := h.1
    have h2 := h.2.1
    have := chC_len h.2.2.2 h.2.2.1
    rw [List.length_cons]
    omega
theorem com_count {lang : Int} {l : List UInt8} {ts : List Tok} {cs : List (Nat × Nat)} (h : rdT lang l = .ok ts cs) : cs.length ≤ l.length := by
  obtain ⟨_, _, _, hsc, _⟩ := rd_ok h
  have h1 := chC_len (sc_stands lang _ _ _ _ _ hsc).chc (by omega)
  omega
theorem law8 (K : Nat) (hK : 100000 ≤ K) (lang : Int) (l : List UInt8) : run tab2 (K + 1 + 1) 8 [I lang, St (sb l)] = some (B true) := by
  have e13 := run2 K 13 [St (sb l)] rfl
  rw [r13 (by decide)] at e13
  rw [eq8]; unfold sh8 tr8
  rw [awake2 (by omega), e13]
  simp only [castB_B, Bool.not_true]
  cases hs : (decide (l.length ≤ 400) || (decide (8000 < l.length) && decide (l.length < 8050))) with
  | false => rfl
  | true =>
    have hle := short_le hs
    have e14 := run2 K 14 [I lang, St (sb l)] rfl
    have e17 := run2 K 17 [I lang, St (sb l)] rfl
    rw [r14 lang l (by omega) (by rw [kb]; omega)] at e14
    rw [r17 lang l (by omega) (by rw [kb]; omega)] at e17
    simp only [Bool.not_true, e14, e17]
    cases hx : rdT lang l with
    | bad a e =>
      have he : (e != 0) = true := by simpa using rd_err hx
      simp only [compN, List.getD_cons_zero, List.getD_cons_succ, castL_L, castI_I, he]
      rw [show (e == e) = true by simp]
      rfl
    | ok ts cs =>
      have hcc := com_count hx
      simp only [compN, List.getD_cons_zero, List.getD_cons_succ, castL_L, castI_I]
      rw [show ((0 : Int) != 0) = false from rfl]
      simp only []
      rw [show Nat.ble (sb l).size 9223372036854775807 = true by rw [sb_size, Nat.ble_eq]; omega]
      simp only [map_u8]
      have hb : bare (cs.take 0) 0 l = l := by
        apply List.ext_getElem?
        intro j
        rw [bare_get]
        have : ¬ inC (cs.take 0) (0 + j) := by rintro ⟨c, hc, _⟩; simp at hc
        cases l[j]? with
        | none => rfl
        | some d => simp only [Option.map_some, if_neg this]
      have := l8_12 K hK lang l ts cs hx (by omega) (K + 1) 0 0 (by omega) (by omega) (by
        have := (sc_stands lang _ _ _ _ _ (rd_ok hx).2.2.2.1).chc
        rw [Nat.zero_add] at this
        exact this)
      rw [hb] at this
      exact this
theorem lawv8 (av : List AV) (hl : av.length = [3, 9].length) (h : ∀ j t, [3, 9][j]? = some t → WfA tab2 t (av.getD j .undef)) : ∃ k, run tab2 k 8 av = some (.sc (.bool true)) := by
  match av, hl with
  | [a, b], _ =>
    obtain ⟨n, hn⟩ := dec3 (h 0 3 rfl)
    obtain ⟨l, hb⟩ := dec9 (h 1 9 rfl)
    have hn : a = I n := hn
    have hb : b = St (sb l) := hb
    subst hn hb
    exact ⟨_, law8 100000 (Nat.le_refl _) n l⟩
end Go.Proofs.YtdhbhedfbdckaaaGreatDoor

/- LexisStands. -/
namespace Go.Proofs.YtdhbhedfbdckaaaGreatDoor
open Go.Dam
set_option linter.unusedVariables false
set_option linter.unusedSimpArgs false
def paint (P : Nat → Bool) : Nat → List UInt8 → List UInt8
  | _, [] => []
  | a, c :: r => (if P a = true then 32 else c) :: paint P (a + 1) r
theorem paint_len (P : Nat → Bool) : ∀ (r : List UInt8) (a : Nat), (paint P a r).length = r.length
  | [], _ => rfl
  | c :: r, a => by
    unfold paint
    rw [List.length_cons, List.length_cons, paint_len P r]
theorem paint_get (P : Nat → Bool) : ∀ (r : List UInt8) (a j : Nat), (paint P a r)[j]? = r[j]?.map fun c => if P (a + j) = true then 32 else c
  | [], _, _ => by simp [paint]
  | c :: r, a, 0 => by simp [paint]
  | c :: r, a, j + 1 => by
    unfold paint
    rw [List.getElem?_cons_succ, List.getElem?_cons_succ, paint_get P r (a + 1) j, show a + 1 + j = a + (j + 1) by omega]
theorem paint_at (P : Nat → Bool) (l : List UInt8) {p : Nat} (hp : p < l.length) (hp' : p < (paint P 0 l).length) : (paint P 0 l)[p] = if P p = true then 32 else l[p] := by
  have h := paint_get P l 0 p
  rw [List.getElem?_eq_getElem hp', List.getElem?_eq_getElem hp] at h
  simpa using h
def rngB (a p q : Nat) : Bool := decide (a ≤ q) && decide (q < p)
theorem paint_put (P : Nat → Bool) (l : List UInt8) (a p : Nat) (ha : a ≤ p) : paint (fun q => P q || rngB a (p + 1) q) 0 l = (paint (fun q => P q || rngB a p q) 0 l).set p 32 := by
  apply List.ext_getElem?
  intro j
  rw [List.getElem?_set, paint_get, paint_len]
  by_cases hj : p = j
  · subst hj
    rw [if_pos rfl]
    have : rngB a (p + 1) (0 + p) = true := by unfold rngB; rw [Bool.and_eq_true, decide_eq_true_iff, decide_eq_true_iff]; omega
    rw [this, Bool.or_true]
    by_cases hp : p < l.length
    · rw [List.getElem?_eq_getElem hp, if_pos hp]; rfl
    · rw [List.getElem?_eq_none (by omega), if_neg hp]; rfl
  · rw [if_neg hj, paint_get]
    have : rngB a (p + 1) (0 + j) = rngB a p (0 + j) := by
      unfold rngB
      rw [Bool.eq_iff_iff, Bool.and_eq_true, Bool.and_eq_true, decide_eq_true_iff, decide_eq_true_iff, decide_eq_true_iff]
      omega
    rw [this]
theorem paint_fun {P Q : Nat → Bool} (l : List UInt8) (h : ∀ q, P q = Q q) : paint P 0 l = paint Q 0 l := by rw [show P = Q from funext h]
def inTB (ts : List Tok) (q : Nat) : Bool := ts.any fun t => rngB t.at' (t.at' + t.s.length) q
def inCB (cs : List (Nat × Nat)) (q : Nat) : Bool := cs.any fun c => rngB c.1 c.2 q
theorem inTB_snoc (ts : List Tok) (t : Tok) (q : Nat) : inTB (ts ++ [t]) q = (inTB ts q || rngB t.at' (t.at' + t.s.length) q) := by
  unfold inTB
  rw [List.any_append, List.any_cons, List.any_nil, Bool.or_false]
theorem inCB_snoc (cs : List (Nat × Nat)) (c : Nat × Nat) (q : Nat) : inCB (cs ++ [c]) q = (inCB cs q || rngB c.1 c.2 q) := by
  unfold inCB
  rw [List.any_append, List.any_cons, List.any_nil, Bool.or_false]
theorem inTB_iff (ts : List Tok) (q : Nat) : inTB ts q = true ↔ inT ts q := by
  unfold inTB inT rngB
  rw [List.any_eq_true]
  constructor
  · rintro ⟨t, ht, h⟩
    rw [Bool.and_eq_true, decide_eq_true_iff, decide_eq_true_iff] at h
    exact ⟨t, ht, h⟩
  · rintro ⟨t, ht, h⟩
    exact ⟨t, ht, by rw [Bool.and_eq_true, decide_eq_true_iff, decide_eq_true_iff]; exact h⟩
theorem inCB_iff (cs : List (Nat × Nat)) (q : Nat) : inCB cs q = true ↔ inC cs q := by
  unfold inCB inC rngB
  rw [List.any_eq_true]
  constructor
  · rintro ⟨t, ht, h⟩
    rw [Bool.and_eq_true, decide_eq_true_iff, decide_eq_true_iff] at h
    exact ⟨t, ht, h⟩
  · rintro ⟨t, ht, h⟩
    exact ⟨t, ht, by rw [Bool.and_eq_true, decide_eq_true_iff, decide_eq_true_iff]; exact h⟩
theorem rngB_nil (a q : Nat) : rngB a a q = false := by
  unfold rngB
  rw [Bool.eq_false_iff]
  intro h
  rw [Bool.and_eq_true, decide_eq_true_iff, decide_eq_true_iff] at h
  omega
theorem l9_19 (K : Nat) (q12 : Int → ByteArray → LA → LA → LA → Int → Int → OA) (lang : Int) (s : ByteArray) (l : List UInt8) (tsA csA : LA) (P : Nat → Bool) (a e n : Nat) (hl : l.length ≤ 100000) (hn : n ≤ 100000) (he : e ≤ l.length) :
    ∀ (k p : Nat), e - p < k → a ≤ p → p ≤ e →
    lp9_19 K q12 k lang s tsA csA ((paint (fun q => P q || rngB a p q) 0 l).map u8) (e : Int) (n : Int) (p : Int) = q12 lang s tsA csA ((paint (fun q => P q || rngB a e q) 0 l).map u8) (e : Int) ((n + 1 : Nat) : Int)
  | 0, p, h, _, _ => by omega
  | k + 1, p, h, h1, hp => by
    unfold lp9_19 tr9_19
    have w1 : IntKind.i64.wrap ((n : Int) + 1) = ((n + 1 : Nat) : Int) := wrapA (m := 1) (by omega) (by omega)
    by_cases hlt : p < e
    · have w2 : IntKind.i64.wrap ((p : Int) + 1) = ((p + 1 : Nat) : Int) := wrapA (m := 1) (by omega) (by omega)
      have hp' : p < (paint (fun q => P q || rngB a p q) 0 l).length := by rw [paint_len]; omega
      have ih := l9_19 K q12 lang s l tsA csA P a e n hl hn he k (p + 1) (by omega) (by omega) (by omega)
      rw [paint_put P l a p h1] at ih
      rw [decide_eq_true (show (p : Int) < (e : Int) by omega)]
      simp only [if_pos (Int.natCast_nonneg p), u8_get hp']
      rw [if_pos (by rw [Int.toNat_natCast, List.length_map]; exact hp'), w2, Int.toNat_natCast, u8_set]
      exact ih
    · have hpe : p = e := by omega
      subst hpe
      rw [decide_eq_false (show ¬ ((p : Int) < (p : Int)) by omega)]
      simp only [w1]
theorem u8_eq (c : UInt8) (n : Nat) (hn : n < 256) : ((c.toNat : Int) == (n : Int)) = decide (c = UInt8.ofNat n) := chr_eq c n hn
theorem l9_28 (K : Nat) (q12 : Int → ByteArray → LA → LA → LA → Int → Int → OA) (q23 : ByteArray → LA → LA → Int → OA) (l : List UInt8) (cs : List (Nat × Nat)) (P : Nat → Bool) (hl : l.length ≤ 100000) (hcl : cs.length ≤ 100000) {i : Nat} (hi : i < cs.length) (h2 : cs[i].2 ≤ l.length)
    (hP : ∀ q, cs[i].1 ≤ q → q < cs[i].2 → P q = false) : ∀ (k p : Nat), cs[i].2 - p < k → cs[i].1 ≤ p → p ≤ cs[i].2 →
    lp9_28 K q12 q23 k (sb l) (cs.map comA) ((paint (fun q => P q || rngB cs[i].1 p q) 0 l).map u8) (i : Int) (p : Int) = q23 (sb l) (cs.map comA) ((paint (fun q => P q || rngB cs[i].1 cs[i].2 q) 0 l).map u8) ((i + 1 : Nat) : Int)
  | 0, p, h, _, _ => by omega
  | k + 1, p, h, h1, hp => by
    unfold lp9_28 tr9_28
    rw [if_pos (Int.natCast_nonneg i), comA_get hi]
    have w1 : IntKind.i64.wrap ((i : Int) + 1) = ((i + 1 : Nat) : Int) := wrapA (m := 1) (by omega) (by omega)
    simp only [cellN, List.getD_cons_zero, List.getD_cons_succ, castI_I]
    by_cases hlt : p < cs[i].2
    · have w2 : IntKind.i64.wrap ((p : Int) + 1) = ((p + 1 : Nat) : Int) := wrapA (m := 1) (by omega) (by omega)
      have hp' : p < (paint (fun q => P q || rngB cs[i].1 p q) 0 l).length := by rw [paint_len]; omega
      have hpl : p < l.length := by omega
      have hat : (paint (fun q => P q || rngB cs[i].1 p q) 0 l)[p] = l[p] := by
        rw [paint_at _ l hpl hp', hP p h1 hlt, Bool.false_or, if_neg]
        unfold rngB
        rw [Bool.and_eq_true, decide_eq_true_iff, decide_eq_true_iff]
        omega
      have ih := l9_28 K q12 q23 l cs P hl hcl hi h2 hP k (p + 1) (by omega) (by omega) (by omega)
      rw [paint_put P l cs[i].1 p h1] at ih
      rw [decide_eq_true (show (p : Int) < (cs[i].2 : Int) by omega)]
      have hset : (if ((p : Int)).toNat < ((paint (fun q => P q || rngB cs[i].1 p q) 0 l).map u8).length then lp9_28 K q12 q23 k (sb l) (cs.map comA) (((paint (fun q => P q || rngB cs[i].1 p q) 0 l).map u8).set ((p : Int)).toNat (.sc (.int .u8 32))) (i : Int) (IntKind.i64.wrap ((p : Int) + 1)) else none) =
          q23 (sb l) (cs.map comA) ((paint (fun q => P q || rngB cs[i].1 cs[i].2 q) 0 l).map u8) ((i + 1 : Nat) : Int) := by
        rw [if_pos (by rw [Int.toNat_natCast, List.length_map]; exact hp'), w2, Int.toNat_natCast, u8_set]
        exact ih
      simp only [if_pos (Int.natCast_nonneg p), u8_get hp', castI_u8, hat]
      rw [show (((l[p]).toNat : Int) == 32) = decide (l[p] = 32) from u8_eq _ 32 (by omega)]
      by_cases h32 : l[p] = 32
      · rw [decide_eq_true h32]
        simp only [getL hpl]
        rw [show (((l[p]).toNat : Int) != 32) = !decide (l[p] = 32) from chrN _ 32 (by omega), decide_eq_true h32]
        exact hset
      · rw [decide_eq_false h32]
        exact hset
    · have hpe : p = cs[i].2 := by omega
      subst hpe
      rw [decide_eq_false (show ¬ ((cs[i].2 : Int) < (cs[i].2 : Int)) by omega)]
      simp only [w1, if_pos (Int.natCast_nonneg i)]
theorem l9_34 (K : Nat) (q12 : Int → ByteArray → LA → LA → LA → Int → Int → OA) (q23 : ByteArray → LA → LA → Int → OA) (m : List UInt8) (hl : m.length ≤ 100000) (hm : ∀ c ∈ m, blank c = true) : ∀ (k n : Nat), m.length - n < k → n ≤ m.length → lp9_34 K q12 q23 k (m.map u8) (n : Int) = some (B true)
  | 0, n, h, _ => by omega
  | k + 1, n, h, hn => by
    unfold lp9_34 tr9_34
    rw [List.length_map]
    by_cases hi : n < m.length
    · have w1 : IntKind.i64.wrap ((n : Int) + 1) = ((n + 1 : Nat) : Int) := wrapA (m := 1) (by omega) (by omega)
      have ih := l9_34 K q12 q23 m hl hm k (n + 1) (by omega) (by omega)
      have hb := hm m[n] (List.getElem_mem hi)
      unfold blank at hb
      rw [decide_eq_true (show (n : Int) < (m.length : Int) by omega)]
      simp only [if_pos (Int.natCast_nonneg n), u8_get hi, castI_u8, w1]
      rw [show (((m[n]).toNat : Int) != 32) = !decide (m[n] = 32) from chrN _ 32 (by omega), show (((m[n]).toNat : Int) != 10) = !decide (m[n] = 10) from chrN _ 10 (by omega), show (((m[n]).toNat : Int) != 9) = !decide (m[n] = 9) from chrN _ 9 (by omega)]
      change (decide (m[n] = 32) || decide (m[n] = 9) || decide (m[n] = 10)) = true at hb
      generalize decide (m[n] = 32) = b1 at *
      generalize decide (m[n] = 9) = b2 at *
      generalize decide (m[n] = 10) = b3 at *
      cases b1 <;> cases b2 <;> cases b3 <;> first | exact ih | cases hb
    · rw [decide_eq_false (show ¬ (n : Int) < (m.length : Int) by omega)]
theorem l9_23 (K : Nat) (hK : 100000 ≤ K) (q12 : Int → ByteArray → LA → LA → LA → Int → Int → OA) (lang : Int) (l : List UInt8) (ts : List Tok) (cs : List (Nat × Nat)) (hl : l.length ≤ 8000) (hcl : cs.length ≤ 100000) (hst : Stands lang 0 l ts cs) : ∀ (k n last : Nat), cs.length - n < k → n ≤ cs.length → chC last l.length (cs.drop n) →
    (∀ q, last ≤ q → inCB (cs.take n) q = false) → lp9_23 (K + 1) q12 k (sb l) (cs.map comA) ((paint (fun q => inTB ts q || inCB (cs.take n) q) 0 l).map u8) (n : Int) = some (B true)
  | 0, n, last, h, _, _, _ => by omega
  | k + 1, n, last, h, hn, hch, hlast => by
    unfold lp9_23 tr9_23
    rw [List.length_map]
    by_cases hi : n < cs.length
    · rw [List.drop_eq_getElem_cons hi] at hch
      obtain ⟨c1, c2, c3, c4⟩ := hch
      have e1 := run2 K 25 [I (cs[n].1 : Int), I 0, I (l.length : Int)] rfl
      rw [r25 (by decide), decide_eq_true (show (0 : Int) ≤ (cs[n].1 : Int) by omega), decide_eq_true (show (cs[n].1 : Int) ≤ (l.length : Int) by omega)] at e1
      have e2 := run2 K 25 [I (cs[n].2 : Int), I (cs[n].1 : Int), I (l.length : Int)] rfl
      rw [r25 (by decide), decide_eq_true (show (cs[n].1 : Int) ≤ (cs[n].2 : Int) by omega), decide_eq_true (show (cs[n].2 : Int) ≤ (l.length : Int) by omega)] at e2
      rw [decide_eq_true (show (n : Int) < (cs.length : Int) by omega)]
      simp only [if_pos (Int.natCast_nonneg n), comA_get hi, cellN, List.getD_cons_zero, List.getD_cons_succ, castI_I, sb_size, e1, castB_B, Bool.and_self, Bool.not_true, e2]
      have hP0 : paint (fun q => inTB ts q || inCB (cs.take n) q) 0 l = paint (fun q => (inTB ts q || inCB (cs.take n) q) || rngB cs[n].1 cs[n].1 q) 0 l := paint_fun l fun q => by rw [rngB_nil, Bool.or_false]
      have hP : ∀ q, cs[n].1 ≤ q → q < cs[n].2 → (inTB ts q || inCB (cs.take n) q) = false := fun q h1 h2 => by
        rw [Bool.or_eq_false_iff]
        refine ⟨?_, hlast q (by omega)⟩
        rw [Bool.eq_false_iff]
        intro ht
        obtain ⟨t, ht, h3, h4⟩ := (inTB_iff ts q).1 ht
        rcases hst.apart t ht cs[n] (List.getElem_mem hi) with h5 | h5 <;> omega
      rw [hP0, l9_28 (K + 1) q12 _ l cs _ (by omega) hcl hi c3 hP (K + 1) cs[n].1 (by omega) (Nat.le_refl _) (by omega)]
      have hP1 : paint (fun q => (inTB ts q || inCB (cs.take n) q) || rngB cs[n].1 cs[n].2 q) 0 l = paint (fun q => inTB ts q || inCB (cs.take (n + 1)) q) 0 l := paint_fun l fun q => by
        rw [← take_snoc cs hi, inCB_snoc, Bool.or_assoc]
      rw [hP1]
      refine l9_23 K hK q12 lang l ts cs hl hcl hst k (n + 1) cs[n].2 (by omega) (by omega) c4 fun q hq => ?_
      rw [← take_snoc cs hi, inCB_snoc, hlast q (by omega), Bool.false_or]
      unfold rngB
      rw [Bool.eq_false_iff]
      intro hb
      rw [Bool.and_eq_true, decide_eq_true_iff, decide_eq_true_iff] at hb
      omega
    · have hne : n = cs.length := by omega
      subst hne
      rw [decide_eq_false (show ¬ ((cs.length : Int) < (cs.length : Int)) by omega), List.take_length]
      refine l9_34 (K + 1) q12 _ _ (by rw [paint_len]; omega) (fun c hc => ?_) (K + 1) 0 (by rw [paint_len]; omega) (by omega)
      obtain ⟨j, hj⟩ := List.mem_iff_getElem?.1 hc
      rw [paint_get] at hj
      cases hd : l[j]? with
      | none => rw [hd] at hj; cases hj
      | some d =>
        rw [hd] at hj
        simp only [Option.map_some, Option.some.injEq] at hj
        rw [← hj]
        split
        · rfl
        · rename_i hno
          rcases hst.rest j d hd with h | h | h
          · exact h
          · exact absurd (by rw [(inTB_iff ts _).2 h]; rfl) hno
          · exact absurd (by rw [(inCB_iff cs _).2 h, Bool.or_true]) hno
theorem one_of {lang k : Int} {s : List UInt8} {c : UInt8} {x : List UInt8} (hlang : lang = 0 ∨ lang = 1) (hs : s = c :: x) (hb : blank c = false) (hp : pcT lang s = .tok k s.length) (hok : ∀ c ∈ s, okC c = true) (hl : s.length ≤ 8000) : oneT lang k s = true := by
  have hck : chkT s = (((s.count 10 + 1 : Nat) : Int), (0 : Int)) := by
    unfold chkT
    rw [if_neg (by omega), badAt_of hok]
  have hsc : scE lang (s.length + 1) 0 s = .ok [⟨k, s, 0⟩] [] := by
    conv => lhs; rw [hs]
    rw [scE_cons, hb, if_neg (by decide), ← hs, hp]
    simp only [List.drop_length, List.take_length]
    rw [show s.length = x.length + 1 by rw [hs]; rfl, scE_nil]
    rfl
  unfold oneT
  rw [rdT_go hlang hck, hsc]
  simp
theorem tokA_get {ts : List Tok} {i : Nat} (h : i < ts.length) : (ts.map tokA)[((i : Int)).toNat]? = some (.agg [I ts[i].k, St (sb ts[i].s), I (ts[i].at' : Int)]) := by
  rw [Int.toNat_natCast, List.getElem?_map, List.getElem?_eq_getElem h]
  rfl
theorem l9_12 (K : Nat) (hK : 100000 ≤ K) (lang : Int) (hlang : lang = 0 ∨ lang = 1) (l : List UInt8) (ts : List Tok) (cs : List (Nat × Nat)) (hl : l.length ≤ 8000) (hok : ∀ c ∈ l, okC c = true) (htl : ts.length ≤ 1500) (hcl : cs.length ≤ 100000) (hst : Stands lang 0 l ts cs) : ∀ (k n last : Nat), ts.length - n < k → n ≤ ts.length → chT last l.length (ts.drop n) →
    lp9_12 (K + 1) k lang (sb l) (ts.map tokA) (cs.map comA) ((paint (inTB (ts.take n)) 0 l).map u8) (last : Int) (n : Int) = some (B true)
  | 0, n, last, h, _, _ => by omega
  | k + 1, n, last, h, hn, hch => by
    unfold lp9_12 tr9_12
    rw [List.length_map]
    by_cases hi : n < ts.length
    · rw [List.drop_eq_getElem_cons hi] at hch
      obtain ⟨c1, c2, c3, c4⟩ := hch
      obtain ⟨s1, s2, s3, s4, c, x, s5, s6⟩ := hst.at_ ts[n] (List.getElem_mem hi)
      have w1 : IntKind.i64.wrap ((ts[n].at' : Int) + (ts[n].s.length : Int)) = ((ts[n].at' + ts[n].s.length : Nat) : Int) := by
        rw [wrapI ⟨by omega, by omega⟩]; omega
      have e1 := run2 K 25 [I (ts[n].at' : Int), I (last : Int), I (l.length : Int)] rfl
      rw [r25 (by decide), decide_eq_true (show (last : Int) ≤ (ts[n].at' : Int) by omega), decide_eq_true (show (ts[n].at' : Int) ≤ (l.length : Int) by omega)] at e1
      have hsub : ∀ c ∈ ts[n].s, c ∈ l := fun c hc => by
        rw [← s1] at hc
        exact List.mem_of_mem_drop (List.mem_of_mem_take hc)
      have hone : oneT lang ts[n].k ts[n].s = true := one_of hlang s5 s6 s2 (fun c hc => hok c (hsub c hc)) (by omega)
      have herr : tkErr lang ts[n].tk = 0 := tk_zero.2 ⟨by show ¬ (ts[n].k < 0 ∨ 6 < ts[n].k); omega, hone, by show 0 ≤ (ts[n].at' : Int) ∧ (ts[n].at' : Int) ≤ 8000; omega⟩
      have e18 := run2 K 18 [I lang, .agg [I ts[n].k, St (sb ts[n].s), I (ts[n].at' : Int)]] rfl
      have r := r18 (K := KB) lang ts[n].tk (by show ts[n].s.length ≤ 99999; omega) (by show ts[n].s.length + 1500 ≤ KB; rw [kb]; omega)
      rw [if_pos hlang, herr] at r
      have r : run tab KB 18 [I lang, .agg [I ts[n].k, St (sb ts[n].s), I (ts[n].at' : Int)]] = some (I 0) := r
      rw [r] at e18
      rw [decide_eq_true (show (n : Int) < (ts.length : Int) by omega)]
      simp only [if_pos (Int.natCast_nonneg n), tokA_get hi, cellN, List.getD_cons_zero, List.getD_cons_succ, castI_I, castS_S, sb_size, e1, castB_B, Bool.and_self, Bool.not_true, w1]
      rw [show ((ts[n].s.length : Int) == 0) = false by rw [beq_eq_false_iff_ne]; omega]
      simp only []
      rw [decide_eq_false (show ¬ (((ts[n].at' + ts[n].s.length : Nat) : Int) > (l.length : Int)) by omega)]
      simp only []
      rw [if_pos ⟨by omega, by omega, by omega⟩]
      rw [Int.toNat_natCast, Int.toNat_natCast, sb_extract, List.drop_take]
      rw [show ts[n].at' + ts[n].s.length - ts[n].at' = ts[n].s.length by omega]
      rw [Nat.sub_zero] at s1
      rw [s1, sb_refl]
      simp only [Bool.not_true, e18, castI_I]
      rw [show ((0 : Int) != 0) = false from rfl]
      simp only []
      have hP0 : paint (inTB (ts.take n)) 0 l = paint (fun q => inTB (ts.take n) q || rngB ts[n].at' ts[n].at' q) 0 l := paint_fun l fun q => by rw [rngB_nil, Bool.or_false]
      rw [hP0, l9_19 (K + 1) _ lang (sb l) l _ _ _ ts[n].at' (ts[n].at' + ts[n].s.length) n (by omega) (by omega) (by omega) (K + 1) ts[n].at' (by omega) (Nat.le_refl _) (by omega)]
      have hP1 : paint (fun q => inTB (ts.take n) q || rngB ts[n].at' (ts[n].at' + ts[n].s.length) q) 0 l = paint (inTB (ts.take (n + 1))) 0 l := paint_fun l fun q => by
        rw [← take_snoc ts hi, inTB_snoc]
      rw [hP1]
      exact l9_12 K hK lang hlang l ts cs hl hok htl hcl hst k (n + 1) _ (by omega) (by omega) c4
    · have hne : n = ts.length := by omega
      subst hne
      rw [decide_eq_false (show ¬ ((ts.length : Int) < (ts.length : Int)) by omega), List.take_length]
      simp only []
      have hP0 : paint (inTB ts) 0 l = paint (fun q => inTB ts q || inCB (cs.take 0) q) 0 l := paint_fun l fun q => by
        rw [show inCB (cs.take 0) q = false from rfl, Bool.or_false]
      rw [hP0]
      have hc := hst.chc
      rw [Nat.zero_add] at hc
      exact l9_23 K hK _ lang l ts cs hl hcl hst (K + 1) 0 0 (by omega) (by omega) hc (fun q _ => rfl)
theorem law9 (K : Nat) (hK : 100000 ≤ K) (lang : Int) (l : List UInt8) : run tab2 (K + 1 + 1) 9 [I lang, St (sb l)] = some (B true) := by
  have e13 := run2 K 13 [St (sb l)] rfl
  rw [r13 (by decide)] at e13
  rw [eq9]; unfold sh9 tr9
  rw [awake2 (by omega), e13]
  simp only [castB_B, Bool.not_true]
  cases hs : (decide (l.length ≤ 400) || (decide (8000 < l.length) && decide (l.length < 8050))) with
  | false => rfl
  | true =>
    have hle := short_le hs
    have e14 := run2 K 14 [I lang, St (sb l)] rfl
    have e17 := run2 K 17 [I lang, St (sb l)] rfl
    rw [r14 lang l (by omega) (by rw [kb]; omega)] at e14
    rw [r17 lang l (by omega) (by rw [kb]; omega)] at e17
    simp only [Bool.not_true, e14, e17]
    cases hx : rdT lang l with
    | bad a e =>
      have he : (e != 0) = true := by simpa using rd_err hx
      simp only [compN, List.getD_cons_zero, List.getD_cons_succ, castL_L, castI_I, he]
      rw [show (e == e) = true by simp]
    | ok ts cs =>
      have hcc := com_count hx
      obtain ⟨hlang, hl, hbad, hsc, hts⟩ := rd_ok hx
      have hst := sc_stands lang _ _ _ _ _ hsc
      simp only [compN, List.getD_cons_zero, List.getD_cons_succ, castL_L, castI_I]
      rw [show ((0 : Int) != 0) = false from rfl]
      simp only []
      rw [show Nat.ble (sb l).size 9223372036854775807 = true by rw [sb_size, Nat.ble_eq]; omega]
      simp only [map_u8]
      have hb : paint (inTB (ts.take 0)) 0 l = l := by
        apply List.ext_getElem?
        intro j
        rw [paint_get]
        cases l[j]? <;> rfl
      have hc := hst.cht
      rw [Nat.zero_add] at hc
      have := l9_12 K hK lang hlang l ts cs hl (badAt_none hbad) hts (by omega) hst (K + 1) 0 0 (by omega) (by omega) hc
      rw [hb] at this
      exact this
theorem lawv9 (av : List AV) (hl : av.length = [3, 9].length) (h : ∀ j t, [3, 9][j]? = some t → WfA tab2 t (av.getD j .undef)) : ∃ k, run tab2 k 9 av = some (.sc (.bool true)) := by
  match av, hl with
  | [a, b], _ =>
    obtain ⟨n, hn⟩ := dec3 (h 0 3 rfl)
    obtain ⟨l, hb⟩ := dec9 (h 1 9 rfl)
    have hn : a = I n := hn
    have hb : b = St (sb l) := hb
    subst hn hb
    exact ⟨_, law9 100000 (Nat.le_refl _) n l⟩
end Go.Proofs.YtdhbhedfbdckaaaGreatDoor
