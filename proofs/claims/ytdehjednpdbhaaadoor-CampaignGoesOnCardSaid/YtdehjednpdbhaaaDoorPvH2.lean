/- A part of an interpreter of the model's code that is proved sound, and of laws told by it: DamX7, DamX8, DamX9. -/
import Derived.Test.YtdehjednpdbhaaaDoorPvF5
import Derived.Test.YtdehjednpdbhaaaDoorPvG1
import Derived.Test.YtdehjednpdbhaaaDoorPvH1
set_option linter.unusedVariables false
set_option linter.unusedSimpArgs false
/- What functions 7, 8, 13 and the others yield over the second table; the program is awake. -/
namespace Go.Proofs.YtdehjednpdbhaaaDoor
open Go.Dam
set_option linter.unusedVariables false
set_option linter.unusedSimpArgs false
theorem kb : KB = 1000000 := rfl
theorem enOf_enA (e : En) : enOf (enA e) = some e := rfl
theorem wrOf_wA (w : Wr) : wrOf (wA w) = some w := rfl
theorem nOf_I (n : Nat) : nOf (I (n : Int)) = some n := rfl
theorem all_nI (l : List Nat) : allOf nOf (nI l) = some l := allOf_map (g := fun n : Nat => I (n : Int)) nOf_I l
theorem flat_mod {Bs : List (List UInt8)} (h : W32 Bs) (hl : Bs.length ≤ 48) : Bs.flatten.length ≤ 1536 ∧ Bs.flatten.length % 32 = 0 := by
  rw [flat_len h]
  omega
theorem run7 (K : Nat) {Bs : List (List UInt8)} (h : W32 Bs) (hl : Bs.length ≤ 48) {ws : List Wr} {ks : List Nat} (hw : ws.length ≤ 96) (hk : ks.length = ws.length) (h1 : ∀ w ∈ ws, w.1 < 48 ∧ w.2.length = 32) (h2 : ∀ k ∈ ks, k ≤ 32) :
    run tab2 (K + 1) 7 [St (sb Bs.flatten), .sl 57 (ws.map wA), .sl 3 (nI ks)] = some (.tup [St (sb (wrF Bs.flatten ws ks)), I 0]) := by
  have e : tab2.ext 7 = some extWr := rfl
  have e2 : run tab2 (K + 1) 7 [St (sb Bs.flatten), .sl 57 (ws.map wA), .sl 3 (nI ks)] = extWr [St (sb Bs.flatten), .sl 57 (ws.map wA), .sl 3 (nI ks)] := by
    conv => lhs; unfold run
    rw [e]
  rw [e2]
  show (match allOf wrOf (ws.map wA), allOf nOf (nI ks) with
    | some ws, some ks => if (bl (sb Bs.flatten)).length ≤ 1536 ∧ (bl (sb Bs.flatten)).length % 32 = 0 ∧ ws.length ≤ 96 ∧ ks.length = ws.length ∧ ws.all okWr = true ∧ (ks.all fun k => decide (k ≤ 32)) = true then some (AV.tup [.sc (.string (sb (wrF (bl (sb Bs.flatten)) ws ks))), .sc (.int .i64 0)]) else none
    | _, _ => none) = _
  rw [allOf_map wrOf_wA, all_nI, bl_sb]
  simp only []
  obtain ⟨f1, f2⟩ := flat_mod h hl
  rw [if_pos ⟨f1, f2, hw, hk, List.all_eq_true.mpr fun w hx => by
    unfold okWr
    rw [Bool.and_eq_true, decide_eq_true_iff, decide_eq_true_iff]
    exact h1 w hx, List.all_eq_true.mpr fun k hx => decide_eq_true (h2 k hx)⟩]
theorem run8 (K : Nat) {Bs : List (List UInt8)} (h : W32 Bs) (hl : Bs.length ≤ 48) :
    run tab2 (K + 1) 8 [St (sb Bs.flatten)] = some (.tup [.sl 46 ((entB Bs).map enA), .sl 57 ((rcN (entB Bs).length Bs Bs.length).map wA), I 0]) := by
  have e : tab2.ext 8 = some extRc := rfl
  have e2 : run tab2 (K + 1) 8 [St (sb Bs.flatten)] = extRc [St (sb Bs.flatten)] := by
    conv => lhs; unfold run
    rw [e]
  rw [e2]
  obtain ⟨f1, f2⟩ := flat_mod h hl
  show (if (bl (sb Bs.flatten)).length ≤ 1536 ∧ (bl (sb Bs.flatten)).length % 32 = 0 then some (AV.tup [.sl 46 ((entB (blocksL (bl (sb Bs.flatten)))).map enA), .sl 57 ((rcN (entB (blocksL (bl (sb Bs.flatten)))).length (blocksL (bl (sb Bs.flatten))) (blocksL (bl (sb Bs.flatten))).length).map wA), .sc (.int .i64 0)]) else none) = _
  rw [bl_sb, if_pos ⟨f1, f2⟩, blocks_flat h]
theorem run13 (K : Nat) {es : List En} (hl : es.length ≤ 48) (he : errL es = 0) : run tab2 (K + 1) 13 [.sl 46 (es.map enA)] = some (.tup [St (sb (jrn es).flatten), I 0]) := by
  have e : tab2.ext 13 = some extJn := rfl
  have e2 : run tab2 (K + 1) 13 [.sl 46 (es.map enA)] = extJn [.sl 46 (es.map enA)] := by
    conv => lhs; unfold run
    rw [e]
  rw [e2]
  show (match allOf enOf (es.map enA) with
    | some es => if es.length ≤ 48 ∧ errL es = 0 then some (AV.tup [.sc (.string (sb (jrn es).flatten)), .sc (.int .i64 0)]) else none
    | none => none) = _
  rw [allOf_map enOf_enA]
  simp only []
  rw [if_pos ⟨hl, he⟩]
theorem jrn_ok {es : List En} (h : ∀ e ∈ es, eErr e = 0) : W32 (jrn es) := jrn32 (fun e he => by have := nm_len (h e he); omega)
theorem jrn_len (es : List En) : (jrn es).length = es.length := by unfold jrn; rw [List.length_map]
theorem run12 (K : Nat) {Bs : List (List UInt8)} (h : W32 Bs) (hl : Bs.length ≤ 48) : run tab2 (K + 1) 12 [St (sb Bs.flatten)] = some (.tup [.sl 46 ((entB Bs).map enA), I ((entB Bs).length : Int), I 0]) := by
  rw [run2 K 12 _ rfl]
  exact r12 (by rw [kb]; omega) h hl
theorem run9 (K : Nat) (a b : List En) (ha : a.length ≤ 1000) : run tab2 (K + 1) 9 [.sl 46 (a.map enA), .sl 46 (b.map enA)] = some (B (decide (a = b))) := by
  rw [run2 K 9 _ rfl]
  exact r9 (by rw [kb]; omega) a b ha
def exE : En := ⟨[84], 0, 1, 0⟩
theorem exE_ok : errL [exE] = 0 := by decide
theorem awake2 (K : Nat) : run tab2 (K + 2) 4 [] = some (B true) := by
  have e13 := run13 K (es := [exE]) (by decide) exE_ok
  have hok : ∀ e ∈ [exE], eErr e = 0 := (errL_zero _).mp exE_ok
  have e12 := run12 K (Bs := jrn [exE]) (jrn_ok hok) (by decide)
  rw [entB_jrn0 hok] at e12
  have e9 := run9 K [exE] [exE] (by decide)
  rw [show K + 2 = K + 1 + 1 from rfl]
  refine (eq4 (K + 1)).trans ?_
  unfold sh4 tr4
  have hx : ([.agg [St (⟨#[84]⟩ : ByteArray), I 0, I 1, I 0]] : LA) = [exE].map enA := rfl
  rw [hx, e13]
  simp only [compN, List.getD_cons_zero, List.getD_cons_succ, castS_S, castI_I]
  rw [e12]
  simp only [compN, List.getD_cons_zero, List.getD_cons_succ, castL_L, castI_I]
  rw [e9]
  simp only [castB_B]
  rfl
end Go.Proofs.YtdehjednpdbhaaaDoor

/- The law: a session. -/
namespace Go.Proofs.YtdehjednpdbhaaaDoor
open Go.Dam
set_option linter.unusedVariables false
set_option linter.unusedSimpArgs false
theorem nI_rep (n : Nat) : List.replicate n (I 32) = nI (List.replicate n 32) := by
  unfold nI
  rw [List.map_replicate]
  rfl
theorem mem_rep32 (n : Nat) : ∀ k ∈ List.replicate n 32, k ≤ 32 := fun k hk => by rw [List.eq_of_mem_replicate hk]; omega
theorem rcN_at (E : Nat) (Bs : List (List UInt8)) : ∀ m, ∀ w ∈ rcN E Bs m, w.1 < m ∧ w.2.length = 32
  | 0, w, hw => by cases hw
  | m + 1, w, hw => by
    rw [rcN_succ] at hw
    split at hw
    · rcases List.mem_append.mp hw with hw | hw
      · have := rcN_at E Bs m w hw
        exact ⟨by omega, this.2⟩
      · rcases List.mem_cons.mp hw with rfl | hw
        · exact ⟨by show m < m + 1; omega, rfl⟩
        · cases hw
    · have := rcN_at E Bs m w hw
      exact ⟨by omega, this.2⟩
theorem wsL_ok {es : List En} (h : ∀ e ∈ es, eErr e = 0) {n : Nat} (hn : n + es.length ≤ 48) : ∀ w ∈ wsL n es, w.1 < 48 ∧ w.2.length = 32 := fun w hw => by
  obtain ⟨h1, e, he, h2⟩ := wsL_at es n w hw
  have := nm_len (h e he)
  exact ⟨by omega, by rw [h2]; exact blk_len (by omega)⟩
set_option maxRecDepth 100000 in
theorem ses_end (K : Nat) (q8 : LA → ByteArray → LA → Int → OA) (y1 : LA) (K0 es : List En) (ks : List Nat) (kp : LA) (i : Int) (hK : ∀ e ∈ K0, eErr e = 0) (he : ∀ e ∈ es, eErr e = 0) (hp : K0.length ≤ 30) (h6 : es.length ≤ 6) (hks : ks.length = es.length) (hk : ∀ k ∈ ks, k ≤ 32) :
    ∃ m, lp3_18 (K + 1) q8 1 y1 (sb (jrn K0).flatten) (K0.map enA) i ((wsL K0.length es).map wA) (nI ks) (es.length : Int) (es.map enA) kp = q8 y1 (sb (jrn (K0 ++ es.take m)).flatten) ((K0 ++ es.take m).map enA) (IntKind.i64.wrap (i + 1)) := by
  have hen : ∀ e ∈ es, e.nm.length ≤ 22 := fun e hx => by have := nm_len (he e hx); omega
  have hW0 := jrn_ok hK
  have hl0 := jrn_len K0
  -- what is left
  obtain ⟨T, hT⟩ : ∃ T, T = tnB [] 0 es ks := ⟨_, rfl⟩
  have hTk : okT T es := by
    rw [hT]
    exact tn_ok es ks [] [] 0 rfl (Nat.le_refl _) trivial hk
  have hTl := okT_len hTk
  have hT32 := okT_32 hTk he
  obtain ⟨m, hm, hme, hmt⟩ := okT_ent hTk he
  have hw7 := tn_eq es ks (jrn K0) [] 0 hks (by rw [List.append_nil]; exact hW0) (Nat.le_refl _) hen hk
  rw [List.append_nil, ← hT, hl0, Nat.add_zero] at hw7
  obtain ⟨Bs, hBs⟩ : ∃ Bs, Bs = jrn K0 ++ T := ⟨_, rfl⟩
  have hB32 : W32 Bs := by rw [hBs]; exact hW0.append hT32
  have hBl : Bs.length = K0.length + T.length := by rw [hBs, List.length_append, hl0]
  rw [← hBs] at hw7
  have hBe : entB Bs = K0 ++ es.take m := by rw [hBs, entB_jrn T hK, hme]
  obtain ⟨H, hH⟩ : ∃ H, H = K0 ++ es.take m := ⟨_, rfl⟩
  rw [← hH] at hBe
  have hmes : m ≤ es.length := by omega
  have hHl : H.length = K0.length + m := by rw [hH, List.length_append, List.length_take, Nat.min_eq_left hmes]
  have hHok : ∀ e ∈ H, eErr e = 0 := fun e hx => by
    rw [hH] at hx
    rcases List.mem_append.mp hx with hx | hx
    · exact hK e hx
    · exact he e (List.mem_of_mem_take hx)
  have hjl := jrn_len H
  -- the recovery
  obtain ⟨c, hc⟩ : ∃ c, c = rcN H.length Bs Bs.length := ⟨_, rfl⟩
  have hcl : c.length ≤ Bs.length := by rw [hc]; exact rcN_len _ _ _
  have hcw : ∀ w ∈ c, w.1 < 48 ∧ w.2.length = 32 := fun w hw => by
    rw [hc] at hw
    have := rcN_at _ _ _ w hw
    exact ⟨by omega, this.2⟩
  have hrc := rc_eq H.length Bs hB32 (by omega) Bs.length (Nat.le_refl _)
  rw [← hc, show max Bs.length H.length = Bs.length by omega, List.drop_length, List.append_nil] at hrc
  have htk : Bs.take H.length = jrn H := by
    rw [hBs, hHl, ← hl0, List.take_append, List.take_of_length_le (by omega), Nat.add_sub_cancel_left, hmt, hH]
    unfold jrn
    rw [List.map_append]
  rw [htk] at hrc
  obtain ⟨r, hr⟩ : ∃ r, r = Bs.length - H.length := ⟨_, rfl⟩
  rw [← hr] at hrc
  have hjW := jrn_ok hHok
  have hjf : (jrn H).flatten.length = 32 * H.length := by rw [flat_len hjW, hjl]
  have hRl : ((jrn H ++ List.replicate r Z32).flatten).length = 32 * H.length + 32 * r := by
    rw [List.flatten_append, List.length_append, hjf, flat_rep, List.length_replicate]
  -- what was lost
  have hdl : (es.drop m).length = es.length - m := List.length_drop
  have hdok : ∀ e ∈ es.drop m, eErr e = 0 := fun e hx => he e (List.mem_of_mem_drop hx)
  have hden : ∀ e ∈ es.drop m, e.nm.length ≤ 22 := fun e hx => hen e (List.mem_of_mem_drop hx)
  have hap := ap_eq (es.drop m) (jrn H) hjW hden
  rw [hjl] at hap
  have hall : H ++ es.drop m = K0 ++ es := by rw [hH, List.append_assoc, List.take_append_drop]
  have hj2 : jrn H ++ jrn (es.drop m) = jrn (K0 ++ es) := by
    rw [← hall]
    unfold jrn
    rw [List.map_append]
  rw [hj2] at hap
  have haok : ∀ e ∈ K0 ++ es, eErr e = 0 := fun e hx => (List.mem_append.mp hx).elim (hK e) (he e)
  have haW := jrn_ok haok
  -- calls
  have e7 := run7 K hW0 (by omega) (ws := wsL K0.length es) (ks := ks) (by rw [wsL_len]; omega) (by rw [wsL_len]; exact hks) (wsL_ok he (by omega)) hk
  rw [hw7] at e7
  have e8 := run8 K hB32 (by omega)
  rw [hBe, ← hc] at e8
  have e9 := run9 K H (K0 ++ es.take m) (by omega)
  rw [← hH] at e9
  have e10 := run2 K 10 [I (c.length : Int)] rfl
  rw [r10 (by rw [kb]; omega) c.length (by omega), nI_rep] at e10
  have e7b := run7 K hB32 (by omega) (ws := c) (ks := List.replicate c.length 32) (by omega) (by rw [List.length_replicate]) hcw (mem_rep32 _)
  rw [hrc] at e7b
  have e11 := run2 K 11 [I ((32 * r : Nat) : Int)] rfl
  rw [r11 (by rw [kb]; omega) (32 * r) (by omega)] at e11
  have e6 := run2 K 6 [St (sb (jrn H).flatten), .sl 46 ((es.drop m).map enA)] rfl
  rw [r6 (by rw [kb]; omega) hjW (by rw [entB_jrn0 hHok, hjl]) (es.drop m) ((errL_zero _).mpr hdok) (by omega), hjl] at e6
  have hwl : (wsL H.length (es.drop m)).length = es.length - m := by rw [wsL_len, hdl]
  have e10b := run2 K 10 [I ((wsL H.length (es.drop m)).length : Int)] rfl
  rw [r10 (by rw [kb]; omega) (wsL H.length (es.drop m)).length (by omega), nI_rep, wsL_len] at e10b
  have e7c := run7 K hjW (by omega) (ws := wsL H.length (es.drop m)) (ks := List.replicate (es.drop m).length 32) (by omega) (by rw [List.length_replicate, wsL_len]) (wsL_ok hdok (by omega)) (mem_rep32 _)
  rw [hap] at e7c
  have e12 := run12 K haW (by rw [jrn_len, List.length_append]; omega)
  rw [entB_jrn0 haok] at e12
  have e9b := run9 K (K0 ++ es) (K0 ++ es) (by rw [List.length_append]; omega)
  -- numbers
  have wl : IntKind.i64.wrap ((H.length : Int) - (K0.length : Int)) = (m : Int) := by rw [wrapI ⟨by omega, by omega⟩]; omega
  have wsum : IntKind.i64.wrap ((K0.length : Int) + (es.length : Int)) = ((K0.length + es.length : Nat) : Int) := by rw [wrapI ⟨by omega, by omega⟩]; omega
  have w32 : IntKind.i64.wrap ((H.length : Int) * 32) = ((32 * H.length : Nat) : Int) := by rw [wrapI ⟨by omega, by omega⟩]; omega
  have hRs : (sb (jrn H ++ List.replicate r Z32).flatten).size = 32 * H.length + 32 * r := by rw [sb_size]; exact hRl
  have wrest : IntKind.i64.wrap (((32 * H.length + 32 * r : Nat) : Int) - ((32 * H.length : Nat) : Int)) = ((32 * r : Nat) : Int) := by rw [wrapI ⟨by omega, by omega⟩]; omega
  have hz : ((0 : Int) != 0) = false := rfl
  have hd1 : decide ((c.length : Int) > 48) = false := decide_eq_false (by omega)
  have hd2 : decide ((H.length : Int) < (K0.length : Int)) = false := decide_eq_false (by omega)
  have hd3 : decide ((H.length : Int) > ((K0.length + es.length : Nat) : Int)) = false := decide_eq_false (by omega)
  have hd4 : decide (((32 * H.length + 32 * r : Nat) : Int) < ((32 * H.length : Nat) : Int)) = false := decide_eq_false (by omega)
  have hd5 : decide (((es.length - m : Nat) : Int) > 48) = false := decide_eq_false (by omega)
  have m40 : ∀ n : Nat, n ≤ 1000 → n * 40 ≤ maxBytes := fun n hn => by simp only [maxBytes]; omega
  have m24 : ∀ n : Nat, n ≤ 1000 → n * 24 ≤ maxBytes := fun n hn => by simp only [maxBytes]; omega
  have c1 : (0 : Int) ≤ 0 ∧ (0 : Int) ≤ (m : Int) ∧ (m : Int) ≤ (es.length : Int) := ⟨by omega, by omega, by omega⟩
  have c2 : (0 : Int) ≤ ((32 * H.length : Nat) : Int) ∧ ((32 * H.length : Nat) : Int) ≤ ((32 * H.length + 32 * r : Nat) : Int) ∧ ((32 * H.length + 32 * r : Nat) : Int) ≤ ((32 * H.length + 32 * r : Nat) : Int) := ⟨by omega, by omega, by omega⟩
  have c3 : (0 : Int) ≤ 0 ∧ (0 : Int) ≤ ((32 * H.length : Nat) : Int) ∧ ((32 * H.length : Nat) : Int) ≤ ((32 * H.length + 32 * r : Nat) : Int) := ⟨by omega, by omega, by omega⟩
  have c4 : (0 : Int) ≤ (m : Int) ∧ (m : Int) ≤ (es.length : Int) ∧ (es.length : Int) ≤ (es.length : Int) := ⟨by omega, by omega, by omega⟩
  have x1 : ((es.map enA).take (m : Int).toNat).drop (0 : Int).toNat = (es.take m).map enA := by
    rw [Int.toNat_natCast, ← List.map_take]
    rfl
  have x2 : ((es.map enA).take (es.length : Int).toNat).drop (m : Int).toNat = (es.drop m).map enA := by
    rw [Int.toNat_natCast, Int.toNat_natCast, ← List.map_take, List.take_length, List.map_drop]
  have x3 : (sb (jrn H ++ List.replicate r Z32).flatten).extract ((32 * H.length : Nat) : Int).toNat ((32 * H.length + 32 * r : Nat) : Int).toNat = sb (List.replicate (32 * r) 0) := by
    rw [Int.toNat_natCast, Int.toNat_natCast, sb_extract, List.take_of_length_le (Nat.le_of_eq hRl), List.flatten_append, ← hjf, List.drop_left, flat_rep]
  have x4 : (sb (jrn H ++ List.replicate r Z32).flatten).extract (0 : Int).toNat ((32 * H.length : Nat) : Int).toNat = sb (jrn H).flatten := by
    rw [Int.toNat_natCast, sb_extract, List.flatten_append, ← hjf, List.take_left]
    rfl
  refine ⟨m, ?_⟩
  rw [← hH]
  rw [lp3_18]; unfold tr3_18
  rw [List.length_map, wsL_len, decide_eq_false (by omega)]
  simp only []
  rw [e7]
  simp only [compN, List.getD_cons_zero, List.getD_cons_succ, castS_S, castI_I]
  rw [e8]
  simp only [compN, List.getD_cons_zero, List.getD_cons_succ, castS_S, castI_I, castL_L, List.length_map, wl, wsum, w32, hz, hd1, hd2, hd3]
  rw [if_pos c1, if_pos (m40 _ ?g1)]
  case g1 => simp; omega
  rw [if_pos (m40 _ ?g2)]
  case g2 => rw [x1]; simp; omega
  simp only [x1, List.nil_append]
  rw [← List.map_append, ← hH, e9]
  simp only [castB_B, decide_true, Bool.not_true]
  rw [if_pos (m24 _ ?g3)]
  case g3 => simp; omega
  rw [e10]
  simp only [castL_L]
  rw [e7b]
  simp only [List.getD_cons_zero, List.getD_cons_succ, castS_S, castI_I, hz, hRs, hd4]
  rw [if_pos c2, wrest, e11]
  simp only [castS_S, x3, sb_beq, decide_true, Bool.not_true]
  rw [if_pos c3, if_pos c4, if_pos (m40 _ ?g4)]
  case g4 => rw [x2]; simp; omega
  simp only [x2, x4]
  rw [e6]
  simp only [List.getD_cons_zero, List.getD_cons_succ, castL_L, castI_I, hz]
  rw [hdl] at e10b e7c
  simp only [List.length_map, wsL_len, hdl, hd5]
  rw [if_pos c3, if_pos (m24 _ ?g5)]
  case g5 => simp; omega
  rw [e10b]
  simp only [castL_L]
  rw [e7c]
  simp only [List.getD_cons_zero, List.getD_cons_succ, castS_S, castI_I]
  rw [e12]
  simp only [List.getD_cons_zero, List.getD_cons_succ, castL_L, castI_I, hz]
  rw [if_pos (m40 _ ?g6), if_pos (m40 _ ?g7)]
  case g6 => simp; omega
  case g7 => omega
  rw [← List.map_append, e9b]
  simp only [castB_B, decide_true, Bool.not_true]
  rw [if_pos (m40 _ ?g8), if_pos c3]
  case g8 => simp; omega
end Go.Proofs.YtdehjednpdbhaaaDoor

/- The law: session after session. -/
namespace Go.Proofs.YtdehjednpdbhaaaDoor
open Go.Dam
set_option linter.unusedVariables false
set_option linter.unusedSimpArgs false
def kA (n : Nat) : AV := .sc (.int .u8 (n : Int))
structure Ses where
  es : List En
  kp : List Nat
def sesA (s : Ses) : AV := .agg [.sl 46 (s.es.map enA), .sl 5 (s.kp.map kA)]
def kL (kp : List Nat) (j : Nat) : Nat := if j < kp.length then kp.getD j 0 % 33 else 32
def kF (kp : List Nat) : Nat → List Nat
  | 0 => []
  | n + 1 => kF kp n ++ [kL kp n]
theorem kF_len (kp : List Nat) : ∀ n, (kF kp n).length = n
  | 0 => rfl
  | n + 1 => by
    unfold kF
    rw [List.length_append, kF_len kp n]
    rfl
theorem kF_le (kp : List Nat) : ∀ n, ∀ k ∈ kF kp n, k ≤ 32
  | 0, k, hk => by cases hk
  | n + 1, k, hk => by
    unfold kF at hk
    rcases List.mem_append.mp hk with hk | hk
    · exact kF_le kp n k hk
    · rcases List.mem_cons.mp hk with rfl | hk
      · unfold kL
        split <;> omega
      · cases hk
theorem nI_app (a b : List Nat) : nI (a ++ b) = nI a ++ nI b := by
  unfold nI
  rw [List.map_append]
theorem nI_len (l : List Nat) : (nI l).length = l.length := by
  unfold nI
  rw [List.length_map]
set_option maxRecDepth 100000 in
theorem end18 (K k : Nat) (q8 : LA → ByteArray → LA → Int → OA) (y1 : LA) (s : ByteArray) (K0 : LA) (i : Int) (ws : List Wr) (ks : LA) (es kp : LA) : lp3_18 K q8 (k + 1) y1 s K0 i (ws.map wA) ks (ws.length : Int) es kp = lp3_18 K q8 1 y1 s K0 i (ws.map wA) ks (ws.length : Int) es kp := by
  rw [lp3_18, lp3_18]
  unfold tr3_18
  rw [List.length_map, decide_eq_false (by omega)]
set_option maxRecDepth 100000 in
theorem l18s (K : Nat) (q8 : LA → ByteArray → LA → Int → OA) (y1 : LA) (s : ByteArray) (K0 : LA) (i : Int) (ws : List Wr) (es : LA) (kp : List Nat) (hk : ∀ n ∈ kp, n < 256) (hw : ws.length ≤ 1000) : ∀ (k n : Nat), ws.length - n < k → n ≤ ws.length →
    lp3_18 K q8 k y1 s K0 i (ws.map wA) (nI (kF kp n)) (n : Int) es (kp.map kA) = lp3_18 K q8 1 y1 s K0 i (ws.map wA) (nI (kF kp ws.length)) (ws.length : Int) es (kp.map kA)
  | 0, n, h, _ => by omega
  | k + 1, n, h, hn => by
    by_cases hi : n < ws.length
    · have ih := l18s K q8 y1 s K0 i ws es kp hk hw k (n + 1) (by omega) (by omega)
      have hf : nI (kF kp (n + 1)) = nI (kF kp n) ++ [I (kL kp n : Int)] := by
        rw [kF, nI_app]
        rfl
      rw [hf] at ih
      have hmb : ∀ x : AV, ((nI (kF kp n)).length + ([x] : LA).length) * 8 ≤ maxBytes := fun x => by
        rw [nI_len, kF_len]
        simp only [maxBytes, List.length_cons, List.length_nil]
        omega
      rw [lp3_18]
      unfold tr3_18
      rw [List.length_map, decide_eq_true (show (n : Int) < (ws.length : Int) by omega), List.length_map, wrapN (by omega)]
      simp only []
      by_cases hl : n < kp.length
      · have hn2 := hk kp[n] (List.getElem_mem hl)
        rw [decide_eq_true (show (n : Int) < (kp.length : Int) by omega)]
        simp only []
        rw [if_pos (by omega), Int.toNat_natCast, List.getElem?_map, List.getElem?_eq_getElem hl]
        have hc : ∀ F : Int → OA, castI .u8 (kA kp[n]) F = F (kp[n] : Int) := fun F => by simp [castI, kA]
        simp only [Option.map_some, hc]
        have ht : Int.tmod (IntKind.i64.wrap (kp[n] : Int)) 33 = (kL kp n : Int) := by
          rw [wrapI ⟨by omega, by omega⟩]
          unfold kL
          rw [if_pos hl, List.getD_eq_getElem?_getD, List.getElem?_eq_getElem hl]
          rfl
        rw [ht, if_pos (hmb _)]
        exact ih
      · have ht : (kL kp n : Int) = 32 := by
          unfold kL
          rw [if_neg hl]
          rfl
        rw [decide_eq_false (show ¬ (n : Int) < (kp.length : Int) by omega)]
        simp only []
        rw [ht] at ih
        rw [if_pos (hmb _)]
        exact ih
    · have : n = ws.length := by omega
      subst this
      exact end18 K k q8 y1 s K0 i ws _ es _
theorem cell_ses (s : Ses) : cellN (sesA s) 0 = .sl 46 (s.es.map enA) ∧ cellN (sesA s) 1 = .sl 5 (s.kp.map kA) := ⟨rfl, rfl⟩
set_option maxRecDepth 100000 in
theorem l8s (K : Nat) (hK : 100 ≤ K) (ss : List Ses) (h6 : ss.length ≤ 6) (hs : ∀ s ∈ ss, ∀ n ∈ s.kp, n < 256) : ∀ (k n : Nat) (K0 : List En), ss.length - n < k → n ≤ ss.length → K0.length ≤ 6 * n → (∀ e ∈ K0, eErr e = 0) →
    lp3_8 (K + 1) k (ss.map sesA) (sb (jrn K0).flatten) (K0.map enA) (n : Int) = some (B true)
  | 0, n, K0, h, _, _, _ => by omega
  | k + 1, n, K0, h, hn, hl, hok => by
    have hW := jrn_ok hok
    have hjl := jrn_len K0
    rw [lp3_8]
    unfold tr3_8
    rw [List.length_map]
    have m40 : ∀ n : Nat, n ≤ 1000 → n * 40 ≤ maxBytes := fun n hn => by simp only [maxBytes]; omega
    by_cases hi : n < ss.length
    · rw [decide_eq_true (show (n : Int) < (ss.length : Int) by omega)]
      simp only []
      rw [if_pos (by omega), Int.toNat_natCast, List.getElem?_map, List.getElem?_eq_getElem hi]
      have hkp := hs ss[n] (List.getElem_mem hi)
      generalize ss[n] = x at hkp
      simp only [Option.map_some, (cell_ses x).1, (cell_ses x).2, castL_L]
      by_cases hx : x.es.length ≤ 6
      · rw [List.length_map, decide_eq_false (show ¬ (x.es.length : Int) > 6 by omega)]
        simp only []
        have e5 := run2 K 5 [.sl 46 (x.es.map enA)] rfl
        rw [r5 (by rw [kb]; omega) x.es (by omega)] at e5
        rw [e5]
        simp only [castI_I]
        by_cases h0 : errL x.es = 0
        · rw [h0]
          have hz : ((0 : Int) != 0) = false := rfl
          have hes := (errL_zero x.es).mp h0
          rw [hz]
          simp only [List.nil_append]
          rw [if_pos (m40 _ ?g1)]
          case g1 => simp; omega
          have e6 := run2 K 6 [St (sb (jrn K0).flatten), .sl 46 (x.es.map enA)] rfl
          rw [r6 (by rw [kb]; omega) hW (by rw [entB_jrn0 hok, hjl]) x.es h0 (by omega), hjl] at e6
          rw [e6]
          simp only [compN, List.getD_cons_zero, List.getD_cons_succ, castL_L, castI_I, hz, List.length_map, wsL_len]
          rw [decide_eq_false (by omega)]
          simp only []
          have e18 := l18s (K + 1) (lp3_8 (K + 1) k) (ss.map sesA) (sb (jrn K0).flatten) (K0.map enA) (n : Int) (wsL K0.length x.es) (x.es.map enA) x.kp hkp (by rw [wsL_len]; omega) (K + 1) 0 (by rw [wsL_len]; omega) (by omega)
          have e18 : lp3_18 (K + 1) (lp3_8 (K + 1) k) (K + 1) (ss.map sesA) (sb (jrn K0).flatten) (K0.map enA) (n : Int) ((wsL K0.length x.es).map wA) [] 0 (x.es.map enA) (x.kp.map kA) = _ := e18
          rw [e18, wsL_len]
          obtain ⟨m, hm⟩ := ses_end K (lp3_8 (K + 1) k) (ss.map sesA) K0 x.es (kF x.kp x.es.length) (x.kp.map kA) (n : Int) hok hes (by omega) hx (kF_len _ _) (kF_le _ _)
          rw [hm, wrapN (by omega)]
          refine l8s K hK ss h6 hs k (n + 1) (K0 ++ x.es.take m) (by omega) (by omega) ?_ ?_
          · rw [List.length_append, List.length_take]
            omega
          · intro e he
            rcases List.mem_append.mp he with he | he
            · exact hok e he
            · exact hes e (List.mem_of_mem_take he)
        · rw [neI h0]
      · rw [List.length_map, decide_eq_true (show (x.es.length : Int) > 6 by omega)]
    · rw [decide_eq_false (by omega)]
      simp only [List.nil_append]
      rw [if_pos (m40 _ ?g2)]
      case g2 => simp; omega
      have e13 := run13 K (es := K0) (by omega) ((errL_zero K0).mpr hok)
      rw [e13]
      simp only [compN, List.getD_cons_zero, List.getD_cons_succ, castS_S, castI_I]
      rw [show ((0 : Int) == 0) = true from rfl, sb_beq]
      simp
set_option maxRecDepth 100000 in
theorem law3 (ss : List Ses) (hs : ∀ s ∈ ss, ∀ n ∈ s.kp, n < 256) : run tab2 1003 3 [.sl 27 (ss.map sesA)] = some (B true) := by
  rw [show (1003 : Nat) = 1002 + 1 from rfl, eq3]
  unfold sh3 tr3
  rw [awake2 1000]
  simp only [castB_B, Bool.not_true]
  rw [List.length_map]
  by_cases h6 : ss.length ≤ 6
  · rw [decide_eq_false (show ¬ (ss.length : Int) > 6 by omega)]
    exact l8s 1001 (by omega) ss h6 hs 1002 0 [] (by omega) (by omega) (by simp) (fun e he => by cases he)
  · rw [decide_eq_true (show (ss.length : Int) > 6 by omega)]
end Go.Proofs.YtdehjednpdbhaaaDoor
