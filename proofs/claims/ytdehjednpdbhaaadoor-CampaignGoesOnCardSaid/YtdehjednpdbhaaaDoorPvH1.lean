/- A part of an interpreter of the model's code that is proved sound, and of laws told by it: DamX5, DamX6. -/
import Derived.Test.YtdehjednpdbhaaaDoorPvF3
set_option linter.unusedVariables false
set_option linter.unusedSimpArgs false
/- Plainly: blocks, their entries, what is written, what is left of it. -/
namespace Go.Proofs.YtdehjednpdbhaaaDoor
open Go.Dam
set_option linter.unusedVariables false
set_option linter.unusedSimpArgs false
theorem byteZ_of (n : Int) (h : 0 ≤ n) : ((byteZ n).toNat : Int) = n % 256 := by
  unfold byteZ
  rw [UInt8.toNat_ofNat']
  omega
theorem blk_form (e : En) (h : e.nm.length ≤ 20) : ∃ z, blk e = 165 :: byteZ e.nm.length :: (e.nm ++ (byteZ (e.dg / 4294967296) :: byteZ (e.dg / 16777216) :: byteZ (e.dg / 65536) :: byteZ (e.dg / 256) :: byteZ e.dg :: byteZ e.vd :: byteZ e.tn :: 90 :: List.replicate z 0)) := by
  refine ⟨32 - (e.nm.length + 10), ?_⟩
  unfold blk padL
  rw [rec_len]
  unfold recL
  simp
theorem all_zero (z : Nat) : (List.replicate z (0 : UInt8)).all isZ = true := by
  rw [List.all_eq_true]
  intro x hx
  rw [List.eq_of_mem_replicate hx]
  rfl
theorem entO_blk {e : En} (h : eErr e = 0) : entO (blk e) = (e, true) := by
  obtain ⟨h1, h2, h3, h4⟩ := nm_len h
  obtain ⟨z, hb⟩ := blk_form e h3
  have hn : (byteZ e.nm.length).toNat = e.nm.length := by
    have := byteZ_of e.nm.length (by omega)
    omega
  have hnm : nmI (blk e) = (e.nm, byteZ (e.dg / 4294967296) :: byteZ (e.dg / 16777216) :: byteZ (e.dg / 65536) :: byteZ (e.dg / 256) :: byteZ e.dg :: byteZ e.vd :: byteZ e.tn :: 90 :: List.replicate z 0, true) := by
    unfold nmI
    rw [hb]
    simp only [List.getD_cons_zero, List.getD_cons_succ, hn, List.drop_succ_cons, List.drop_zero]
    rw [if_pos ⟨rfl, by omega⟩, List.take_left, List.drop_left]
  unfold rgE at h2
  simp only [Bool.and_eq_true, decide_eq_true_iff] at h2
  obtain ⟨⟨a1, a2⟩, ⟨a3, a4⟩, a5, a6⟩ := h2
  unfold entO
  rw [hnm]
  simp only [List.length_cons, List.length_replicate, true_and]
  rw [if_pos (by omega)]
  have hx : xOf e.nm (byteZ (e.dg / 4294967296) :: byteZ (e.dg / 16777216) :: byteZ (e.dg / 65536) :: byteZ (e.dg / 256) :: byteZ e.dg :: byteZ e.vd :: byteZ e.tn :: 90 :: List.replicate z 0) = e := by
    unfold xOf
    simp only [List.getD_cons_zero, List.getD_cons_succ, List.take_succ_cons, List.take_zero, dgF]
    rw [byteZ_of _ (by omega), byteZ_of _ (by omega), byteZ_of _ (by omega), byteZ_of _ (by omega), byteZ_of _ (by omega), byteZ_of _ (by omega), byteZ_of _ (by omega)]
    cases e
    simp only at *
    congr 1 <;> omega
  rw [hx, h]
  simp only [List.getD_cons_zero, List.getD_cons_succ, List.drop_succ_cons, List.drop_zero, all_zero]
  rfl
theorem entO_end {b : List UInt8} (h : (entO b).2 = true) : (b.getD 0 0).toNat = 165 ∧ (b.getD ((b.getD 1 0).toNat + 9) 0).toNat = 90 := by
  unfold entO at h
  split at h
  · rename_i hc
    obtain ⟨h1, h2⟩ := hc
    simp only [Bool.and_eq_true, decide_eq_true_iff] at h
    have h3 := h.1.1
    unfold nmI at h1 h3
    split at h1
    · rename_i hd
      rw [if_pos hd] at h3
      refine ⟨hd.1, ?_⟩
      simp only [List.getD_eq_getElem?_getD, List.getElem?_drop] at h3 ⊢
      have e : ∀ x : Nat, 2 + (x + 7) = x + 9 := fun x => by omega
      rw [e] at h3
      exact h3
    · cases h1
  · cases h
/-- What is left of a block, in zeros. -/
def tk (e : En) (k : Nat) : List UInt8 := (blk e).take k ++ List.replicate (32 - k) 0
theorem tk_len {e : En} (h : e.nm.length ≤ 22) {k : Nat} (hk : k ≤ 32) : (tk e k).length = 32 := by
  unfold tk
  rw [List.length_append, List.length_take, blk_len h, List.length_replicate]
  omega
theorem tk_whole {e : En} (h : e.nm.length ≤ 22) {k : Nat} (h1 : e.nm.length + 10 ≤ k) (hk : k ≤ 32) : tk e k = blk e := by
  unfold tk blk padL
  rw [rec_len, List.take_append, List.take_of_length_le (by rw [rec_len]; exact h1), rec_len, List.append_assoc, List.take_replicate, List.replicate_append_replicate]
  congr 2
  omega
theorem tk_zero {e : En} {k j : Nat} (hj : k ≤ j) : (tk e k).getD j 0 = 0 := by
  unfold tk
  rw [List.getD_eq_getElem?_getD, List.getElem?_append_right (by rw [List.length_take]; omega), List.getElem?_replicate]
  split <;> rfl
theorem tk_none {e : En} (h : e.nm.length ≤ 20) {k : Nat} (h1 : 1 ≤ k) (hk : k < e.nm.length + 10) : (entO (tk e k)).2 = false := by
  cases hb : (entO (tk e k)).2 with
  | false => rfl
  | true =>
    exfalso
    obtain ⟨_, h2⟩ := entO_end hb
    by_cases hk1 : k = 1
    · have : (tk e k).getD 1 0 = 0 := tk_zero (by omega)
      rw [this] at h2
      rw [tk_zero (by subst hk1; decide)] at h2
      cases h2
    · obtain ⟨z, hz⟩ := blk_form e h
      have hn : (byteZ e.nm.length).toNat = e.nm.length := by
        have := byteZ_of e.nm.length (by omega)
        omega
      have h3 : (tk e k).getD 1 0 = byteZ e.nm.length := by
        unfold tk
        rw [List.getD_eq_getElem?_getD, List.getElem?_append_left (by rw [List.length_take, blk_len (by omega)]; omega), List.getElem?_take, if_pos (by omega), hz]
        rfl
      rw [h3, hn, tk_zero (by omega)] at h2
      cases h2
theorem Z32_none : (entO Z32).2 = false := by
  cases hb : (entO Z32).2 with
  | false => rfl
  | true =>
    obtain ⟨h2, _⟩ := entO_end hb
    cases h2
theorem entB_jrn : ∀ {K : List En} (T : List (List UInt8)), (∀ e ∈ K, eErr e = 0) → entB (jrn K ++ T) = K ++ entB T
  | [], T, _ => rfl
  | e :: K, T, h => by
    have h0 := entO_blk (h e (List.mem_cons_self ..))
    have ih := entB_jrn T (K := K) (fun x hx => h x (List.mem_cons_of_mem _ hx))
    show entB (blk e :: (jrn K ++ T)) = e :: (K ++ entB T)
    rw [entB, h0, ih]
    rfl
theorem entB_jrn0 {K : List En} (h : ∀ e ∈ K, eErr e = 0) : entB (jrn K) = K := by
  have := entB_jrn [] h
  rw [List.append_nil] at this
  rw [this]
  exact List.append_nil K
/-- What a power failure leaves. -/
def okT : List (List UInt8) → List En → Prop
  | [], _ => True
  | b :: T, e :: es => (b = Z32 ∨ ∃ k, 1 ≤ k ∧ k ≤ 32 ∧ b = tk e k) ∧ okT T es
  | _ :: _, [] => False
theorem okT_len : ∀ {T : List (List UInt8)} {es : List En}, okT T es → T.length ≤ es.length
  | [], _, _ => Nat.zero_le _
  | b :: T, e :: es, h => by
    have := okT_len h.2
    simp only [List.length_cons]
    omega
  | _ :: _, [], h => h.elim
theorem okT_32 : ∀ {T : List (List UInt8)} {es : List En}, okT T es → (∀ e ∈ es, eErr e = 0) → W32 T
  | [], _, _, _ => fun b hb => by cases hb
  | b :: T, e :: es, h, he => fun x hx => by
    rcases List.mem_cons.mp hx with rfl | hx
    · rcases h.1 with rfl | ⟨k, _, hk, rfl⟩
      · rfl
      · exact tk_len (by have := nm_len (he e (List.mem_cons_self ..)); omega) hk
    · exact okT_32 h.2 (fun y hy => he y (List.mem_cons_of_mem _ hy)) x hx
  | _ :: _, [], h, _ => h.elim
theorem okT_ent : ∀ {T : List (List UInt8)} {es : List En}, okT T es → (∀ e ∈ es, eErr e = 0) → ∃ m, m ≤ T.length ∧ entB T = es.take m ∧ T.take m = jrn (es.take m)
  | [], es, _, _ => ⟨0, Nat.le_refl _, rfl, rfl⟩
  | b :: T, e :: es, h, he => by
    have h0 := he e (List.mem_cons_self ..)
    obtain ⟨h1, h2, h3, h4⟩ := nm_len h0
    by_cases hb : (entO b).2 = true
    · have hbe : b = blk e := by
        rcases h.1 with rfl | ⟨k, hk1, hk, rfl⟩
        · rw [Z32_none] at hb; cases hb
        · by_cases hw : e.nm.length + 10 ≤ k
          · exact tk_whole (by omega) hw hk
          · rw [tk_none h3 hk1 (by omega)] at hb; cases hb
      obtain ⟨m, g1, g2, g3⟩ := okT_ent h.2 (fun y hy => he y (List.mem_cons_of_mem _ hy))
      refine ⟨m + 1, by simp only [List.length_cons]; omega, ?_, ?_⟩
      · rw [entB, if_pos hb, hbe, entO_blk h0, g2]
        rfl
      · rw [List.take_succ_cons, List.take_succ_cons, g3, hbe]
        rfl
    · refine ⟨0, Nat.zero_le _, ?_, rfl⟩
      rw [entB, if_neg hb]
      rfl
  | _ :: _, [], h, _ => h.elim
theorem okT_zeros : ∀ (n : Nat) (es : List En), n ≤ es.length → ∀ (T : List (List UInt8)), okT T (es.drop n) → okT (List.replicate n Z32 ++ T) es
  | 0, es, _, T, h => h
  | n + 1, [], h, _, _ => by simp at h
  | n + 1, e :: es, h, T, hT => ⟨.inl rfl, okT_zeros n es (by simpa using h) T hT⟩
theorem okT_app : ∀ {T : List (List UInt8)} {es : List En} (U : List (List UInt8)), okT T es → okT U (es.drop T.length) → okT (T ++ U) es
  | [], _, U, _, h => h
  | b :: T, e :: es, U, h, hU => ⟨h.1, okT_app U h.2 hU⟩
  | _ :: _, [], _, h, _ => h.elim
end Go.Proofs.YtdehjednpdbhaaaDoor

/- Plainly: what is written, block by block. -/
namespace Go.Proofs.YtdehjednpdbhaaaDoor
open Go.Dam
set_option linter.unusedVariables false
set_option linter.unusedSimpArgs false
theorem flat_rep : ∀ r : Nat, (List.replicate r Z32).flatten = List.replicate (32 * r) 0
  | 0 => rfl
  | r + 1 => by
    rw [List.replicate_succ, List.flatten_cons, flat_rep r]
    unfold Z32
    rw [List.replicate_append_replicate]
    congr 1
    omega
theorem rep32 (r : Nat) : W32 (List.replicate r Z32) := fun b hb => by rw [List.eq_of_mem_replicate hb]; rfl
theorem one32 {b : List UInt8} (h : b.length = 32) : W32 [b] := fun x hx => by
  rcases List.mem_cons.mp hx with rfl | hx
  · exact h
  · cases hx
theorem wrU_new {Cs : List (List UInt8)} (hC : W32 Cs) {q : Nat} (hq : Cs.length ≤ q) {b : List UInt8} (hb : b.length = 32) {k : Nat} (hk : k ≤ 32) (h0 : k ≠ 0) :
    wrU Cs.flatten (q, b) k = (Cs ++ (List.replicate (q - Cs.length) Z32 ++ [b.take k ++ List.replicate (32 - k) 0])).flatten := by
  have hl := flat_len hC
  have hz : zTo Cs.flatten (32 * q + 32) = (Cs ++ List.replicate (q - Cs.length) Z32).flatten ++ List.replicate 32 0 := by
    unfold zTo
    rw [List.flatten_append, flat_rep, hl, List.append_assoc, List.replicate_append_replicate]
    congr 2
    omega
  have hD : (Cs ++ List.replicate (q - Cs.length) Z32).flatten.length = q * 32 := by
    rw [flat_len (hC.append (rep32 _)), List.length_append, List.length_replicate]
    omega
  have hbk : (b.take k).length = k := by rw [List.length_take]; omega
  unfold wrU
  rw [if_neg h0]
  simp only []
  rw [hz]
  unfold putB
  rw [List.take_left' hD, hbk, ← hD, List.drop_append]
  rw [← List.append_assoc Cs, List.flatten_append]
  rw [List.drop_of_length_le (by omega), List.nil_append, Nat.add_sub_cancel_left, List.drop_replicate]
  simp
theorem wrU_old {A B : List (List UInt8)} {c b : List UInt8} (hA : W32 A) (hc : c.length = 32) (hB : W32 B) (hb : b.length = 32) :
    wrU (A ++ c :: B).flatten (A.length, b) 32 = (A ++ b :: B).flatten := by
  have hW : W32 (A ++ c :: B) := hA.append (fun x hx => by
    rcases List.mem_cons.mp hx with rfl | hx
    · exact hc
    · exact hB x hx)
  have hl := flat_len hW
  rw [List.length_append, List.length_cons] at hl
  have hz : zTo (A ++ c :: B).flatten (32 * A.length + 32) = A.flatten ++ (c ++ B.flatten) := by
    unfold zTo
    rw [hl, show 32 * A.length + 32 - 32 * (A.length + (B.length + 1)) = 0 by omega]
    simp
  have hal : A.flatten.length = A.length * 32 := by rw [flat_len hA]; omega
  have hbt : b.take 32 = b := by rw [← hb, List.take_length]
  unfold wrU
  rw [if_neg (by decide)]
  simp only []
  rw [hz, hbt]
  unfold putB
  rw [List.take_left' hal, hb, ← hal, List.drop_append, List.drop_of_length_le (by omega), Nat.add_sub_cancel_left, List.nil_append]
  rw [show (c ++ B.flatten).drop 32 = B.flatten by rw [← hc, List.drop_left]]
  simp
theorem wrF_snoc : ∀ (ws : List Wr) (ks : List Nat) (s : List UInt8) (w : Wr) (k : Nat), ws.length = ks.length → wrF s (ws ++ [w]) (ks ++ [k]) = wrU (wrF s ws ks) w k
  | [], [], s, w, k, _ => rfl
  | w' :: ws, k' :: ks, s, w, k, h => wrF_snoc ws ks (wrU s w' k') w k (by simpa using h)
def tnB (acc : List (List UInt8)) : Nat → List En → List Nat → List (List UInt8)
  | n, e :: es, k :: ks => tnB (if k = 0 then acc else acc ++ (List.replicate (n - acc.length) Z32 ++ [tk e k])) (n + 1) es ks
  | _, _, _ => acc
theorem tn_eq : ∀ (es : List En) (ks : List Nat) (J acc : List (List UInt8)) (n : Nat), ks.length = es.length → W32 (J ++ acc) → acc.length ≤ n → (∀ e ∈ es, e.nm.length ≤ 22) → (∀ k ∈ ks, k ≤ 32) →
    wrF (J ++ acc).flatten (wsL (J.length + n) es) ks = (J ++ tnB acc n es ks).flatten
  | [], ks, J, acc, n, _, _, _, _, _ => by
    cases ks <;> rfl
  | e :: es, [], J, acc, n, h, _, _, _, _ => by simp at h
  | e :: es, k :: ks, J, acc, n, h, hW, hn, he, hk => by
    have hk0 := hk k (List.mem_cons_self ..)
    have hbl := blk_len (he e (List.mem_cons_self ..))
    rw [wsL_cons]
    show wrF (wrU (J ++ acc).flatten (J.length + n, blk e) k) (wsL (J.length + n + 1) es) ks = (J ++ tnB (if k = 0 then acc else acc ++ (List.replicate (n - acc.length) Z32 ++ [tk e k])) (n + 1) es ks).flatten
    by_cases h0 : k = 0
    · rw [if_pos h0]
      have : wrU (J ++ acc).flatten (J.length + n, blk e) k = (J ++ acc).flatten := by unfold wrU; rw [if_pos h0]
      rw [this]
      exact tn_eq es ks J acc (n + 1) (by simpa using h) hW (by omega) (fun x hx => he x (List.mem_cons_of_mem _ hx)) (fun x hx => hk x (List.mem_cons_of_mem _ hx))
    · rw [if_neg h0, wrU_new hW (by rw [List.length_append]; omega) hbl hk0 h0, List.append_assoc, List.length_append, show J.length + n - (J.length + acc.length) = n - acc.length by omega]
      refine tn_eq es ks J (acc ++ (List.replicate (n - acc.length) Z32 ++ [tk e k])) (n + 1) (by simpa using h) ?_ ?_ (fun x hx => he x (List.mem_cons_of_mem _ hx)) (fun x hx => hk x (List.mem_cons_of_mem _ hx))
      · rw [← List.append_assoc]
        exact hW.append ((rep32 _).append (one32 (tk_len (he e (List.mem_cons_self ..)) hk0)))
      · simp only [List.length_append, List.length_replicate, List.length_cons, List.length_nil]
        omega
theorem tn_ok : ∀ (es : List En) (ks : List Nat) (pre : List En) (acc : List (List UInt8)) (n : Nat), pre.length = n → acc.length ≤ n → okT acc (pre ++ es) → (∀ k ∈ ks, k ≤ 32) → okT (tnB acc n es ks) (pre ++ es)
  | [], ks, pre, acc, n, _, _, h, _ => by
    cases ks <;> exact h
  | e :: es, [], pre, acc, n, _, _, h, _ => h
  | e :: es, k :: ks, pre, acc, n, hp, hn, h, hk => by
    have hpe : pre ++ e :: es = (pre ++ [e]) ++ es := by simp
    show okT (tnB (if k = 0 then acc else acc ++ (List.replicate (n - acc.length) Z32 ++ [tk e k])) (n + 1) es ks) (pre ++ e :: es)
    rw [hpe] at h ⊢
    refine tn_ok es ks (pre ++ [e]) _ (n + 1) (by simp [hp]) ?_ ?_ (fun x hx => hk x (List.mem_cons_of_mem _ hx))
    · split
      · omega
      · simp only [List.length_append, List.length_replicate, List.length_cons, List.length_nil]
        omega
    · split
      · exact h
      · rename_i h0
        refine okT_app _ h (okT_zeros _ _ ?_ _ ?_)
        · rw [List.length_drop, List.length_append, List.length_append]
          omega
        · rw [List.drop_drop, show acc.length + (n - acc.length) = pre.length by omega, List.append_assoc, List.drop_left]
          exact ⟨.inr ⟨k, by omega, hk k (List.mem_cons_self ..), rfl⟩, trivial⟩
theorem ap_eq : ∀ (es : List En) (J : List (List UInt8)), W32 J → (∀ e ∈ es, e.nm.length ≤ 22) → wrF J.flatten (wsL J.length es) (List.replicate es.length 32) = (J ++ jrn es).flatten
  | [], J, _, _ => by
    show J.flatten = (J ++ []).flatten
    rw [List.append_nil]
  | e :: es, J, hJ, he => by
    have hbl := blk_len (he e (List.mem_cons_self ..))
    rw [wsL_cons, List.length_cons, List.replicate_succ]
    show wrF (wrU J.flatten (J.length, blk e) 32) (wsL (J.length + 1) es) (List.replicate es.length 32) = _
    have hu : wrU J.flatten (J.length, blk e) 32 = (J ++ [blk e]).flatten := by
      rw [wrU_new hJ (Nat.le_refl _) hbl (Nat.le_refl _) (by decide), Nat.sub_self, Nat.sub_self, ← hbl, List.take_length]
      simp
    have ih := ap_eq es (J ++ [blk e]) (hJ.append (one32 hbl)) (fun x hx => he x (List.mem_cons_of_mem _ hx))
    rw [hu]
    rw [List.length_append] at ih
    rw [show J.length + 1 = J.length + [blk e].length from rfl, ih, List.append_assoc]
    rfl
theorem rc_eq (E : Nat) (Bs : List (List UInt8)) (hB : W32 Bs) (hE : E ≤ Bs.length) : ∀ m, m ≤ Bs.length → wrF Bs.flatten (rcN E Bs m) (List.replicate (rcN E Bs m).length 32) = (Bs.take E ++ (List.replicate (m - E) Z32 ++ Bs.drop (max m E))).flatten
  | 0, _ => by
    show Bs.flatten = _
    rw [Nat.zero_sub, show max 0 E = E by omega]
    show Bs.flatten = (Bs.take E ++ ([] ++ Bs.drop E)).flatten
    rw [List.nil_append, List.take_append_drop]
  | m + 1, hm => by
    have ih := rc_eq E Bs hB hE m (by omega)
    rw [rcN_succ]
    by_cases hEm : E ≤ m
    · have hmax : max m E = m := by omega
      have hmax1 : max (m + 1) E = m + 1 := by omega
      rw [hmax, List.drop_eq_getElem_cons (show m < Bs.length by omega), ← bD_get Bs m (by omega)] at ih
      rw [hmax1, show m + 1 - E = (m - E) + 1 by omega, List.replicate_succ', List.append_assoc]
      have hA : W32 (Bs.take E ++ List.replicate (m - E) Z32) := W32.append (fun x hx => hB x (List.mem_of_mem_take hx)) (rep32 _)
      have hD : W32 (Bs.drop (m + 1)) := fun x hx => hB x (List.mem_of_mem_drop hx)
      by_cases hz : bD Bs m = Z32
      · rw [if_neg (fun h => h.2 hz), ih, hz]
        rfl
      · rw [if_pos ⟨hEm, hz⟩, List.length_append, show (rcN E Bs m).length + [((m, Z32) : Wr)].length = (rcN E Bs m).length + 1 from rfl, List.replicate_succ', wrF_snoc _ _ _ _ _ (by rw [List.length_replicate]), ih, ← List.append_assoc]
        have hAl : (Bs.take E ++ List.replicate (m - E) Z32).length = m := by
          rw [List.length_append, List.length_take, List.length_replicate]
          omega
        have hu := wrU_old (c := bD Bs m) (b := Z32) hA (hB _ (by rw [bD_get Bs m (by omega)]; exact List.getElem_mem _)) hD rfl
        rw [hAl] at hu
        rw [hu, List.append_assoc]
        rfl
    · rw [if_neg (fun h => hEm h.1), ih, show m + 1 - E = 0 by omega, show m - E = 0 by omega, show max (m + 1) E = E by omega, show max m E = E by omega]
end Go.Proofs.YtdehjednpdbhaaaDoor
