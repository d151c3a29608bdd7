/- A part of an interpreter of the model's code that is proved sound, and of laws told by it: DamQ2. -/
import Derived.Test.YtahifpeggdcamaaDoorPpJ1
set_option linter.unusedVariables false
set_option linter.unusedSimpArgs false
/- The blocks of states that answer alike: rounds of keys, until none is new. -/
namespace Go.Proofs.YtahifpeggdcamaaDoor
open Go.Dam
set_option linter.unusedVariables false
set_option linter.unusedSimpArgs false
theorem cover_len : ∀ (m : Nat) (l : List Nat), (∀ c, c < m → c ∈ l) → m ≤ l.length
  | 0, l, _ => Nat.zero_le _
  | m + 1, l, h => by
    have hm := h m (by omega)
    have := cover_len m (l.erase m) fun c hc => (List.mem_erase_of_ne (by omega)).2 (h c (by omega))
    have e := List.length_erase_of_mem hm
    have : 0 < l.length := List.length_pos_of_mem hm
    omega
theorem cover_inj {m : Nat} {l : List Nat} (h : ∀ c, c < m → c ∈ l) (hl : l.length ≤ m) {i j : Nat} (hi : i < l.length) (hj : j < l.length) (he : l[i] = l[j]) : i = j := by
  by_cases hne : i = j
  · exact hne
  exfalso
  have := cover_len m (l.eraseIdx i) fun c hc => by
    obtain ⟨k, hk, rfl⟩ := List.getElem_of_mem (h c hc)
    by_cases e : k = i
    · subst e
      rw [List.mem_eraseIdx_iff_getElem?]
      exact ⟨j, fun e => hne e.symm, by rw [he]; exact List.getElem?_eq_getElem hj⟩
    · rw [List.mem_eraseIdx_iff_getElem?]
      exact ⟨k, e, List.getElem?_eq_getElem hk⟩
  have e := List.length_eraseIdx_of_lt hi
  omega
def tgtK (bl : List Int) : Option St4 → List Int
  | none => [-1, -1]
  | some s => [s.o, bl.getD s.t.toNat 0]
def keyT (l : List St4) (bl : List Int) (p : Int) (N : Nat) : List Int := (List.range N).flatMap fun (n : Nat) => tgtK bl (stp l p n)
def keyK (l : List St4) (N : Nat) (bl : List Int) (i : Nat) : List Int := bl.getD i 0 :: keyT l bl i N
theorem tgtK_len (bl : List Int) (x : Option St4) : (tgtK bl x).length = 2 := by cases x <;> rfl
theorem keyT_succ (l : List St4) (bl : List Int) (p : Int) (N : Nat) : keyT l bl p (N + 1) = keyT l bl p N ++ tgtK bl (stp l p N) := by
  unfold keyT; rw [List.range_succ, List.flatMap_append]; simp
theorem keyT_len (l : List St4) (bl : List Int) (p : Int) : ∀ N, (keyT l bl p N).length = 2 * N
  | 0 => rfl
  | N + 1 => by rw [keyT_succ, List.length_append, keyT_len l bl p N, tgtK_len]; omega
theorem keyT_eq (l l' : List St4) (bl : List Int) (p q : Int) : ∀ N, keyT l bl p N = keyT l' bl q N ↔ ∀ n : Nat, n < N → tgtK bl (stp l p n) = tgtK bl (stp l' q n)
  | 0 => by constructor <;> intro _ <;> first | (intro n hn; omega) | rfl
  | N + 1 => by
    rw [keyT_succ, keyT_succ]
    constructor
    · intro h n hn
      obtain ⟨h1, h2⟩ := List.append_inj h (by rw [keyT_len, keyT_len])
      by_cases e : n = N
      · subst e; exact h2
      · exact (keyT_eq l l' bl p q N).1 h1 n (by omega)
    · intro h
      rw [(keyT_eq l l' bl p q N).2 fun n hn => h n (by omega), h N (by omega)]
structure KI (key : Nat → List Int) (i : Nat) (ks : List (List Int)) (nx : List Int) : Prop where
  len : nx.length = i
  from_ : ∀ c, c < ks.length → ∃ j, j < i ∧ ks[c]? = some (key j) ∧ nx[j]? = some (c : Int)
  at_ : ∀ j, j < i → ∃ c : Nat, nx[j]? = some (c : Int) ∧ ks[c]? = some (key j)
  nodup : ∀ c d, c < ks.length → d < ks.length → ks[c]? = ks[d]? → c = d
def rnd (key : Nat → List Int) : Nat → Nat → List (List Int) → List Int → List (List Int) × List Int
  | 0, _, ks, nx => (ks, nx)
  | c + 1, i, ks, nx => match ks.findIdx? fun o => decide (o = key i) with
    | some k => rnd key c (i + 1) ks (nx ++ [(k : Int)])
    | none => rnd key c (i + 1) (ks ++ [key i]) (nx ++ [(ks.length : Int)])
theorem rnd_ok (key : Nat → List Int) : ∀ {c i : Nat} {ks : List (List Int)} {nx : List Int}, KI key i ks nx → KI key (i + c) (rnd key c i ks nx).1 (rnd key c i ks nx).2
  | 0, i, ks, nx, h => h
  | c + 1, i, ks, nx, h => by
    unfold rnd
    cases hf : ks.findIdx? fun o => decide (o = key i) with
    | some k =>
      rw [List.findIdx?_eq_some_iff_getElem] at hf
      obtain ⟨hk, hk2, _⟩ := hf
      have hk3 : ks[k]? = some (key i) := by rw [List.getElem?_eq_getElem hk]; simpa using hk2
      have : KI key (i + 1) ks (nx ++ [(k : Int)]) := by
        refine ⟨by simp [h.len], fun c hc => ?_, fun j hj => ?_, h.nodup⟩
        · obtain ⟨j, h1, h2, h3⟩ := h.from_ c hc
          exact ⟨j, by omega, h2, by rw [List.getElem?_append_left (by rw [h.len]; exact h1)]; exact h3⟩
        · by_cases e : j < i
          · obtain ⟨c, h1, h2⟩ := h.at_ j e
            exact ⟨c, by rw [List.getElem?_append_left (by rw [h.len]; exact e)]; exact h1, h2⟩
          · have : j = i := by omega
            subst this
            exact ⟨k, by rw [List.getElem?_append_right (by rw [h.len]; omega), h.len, Nat.sub_self]; rfl, hk3⟩
      have := rnd_ok key (c := c) this
      rwa [show i + 1 + c = i + (c + 1) by omega] at this
    | none =>
      rw [List.findIdx?_eq_none_iff] at hf
      have hno : ∀ d, ks[d]? ≠ some (key i) := fun d hd => by
        have := hf _ (List.mem_of_getElem? hd)
        simp at this
      have : KI key (i + 1) (ks ++ [key i]) (nx ++ [(ks.length : Int)]) := by
        refine ⟨by simp [h.len], fun c hc => ?_, fun j hj => ?_, fun c d hc hd he => ?_⟩
        · by_cases e : c < ks.length
          · obtain ⟨j, h1, h2, h3⟩ := h.from_ c e
            exact ⟨j, by omega, by rw [List.getElem?_append_left e]; exact h2, by rw [List.getElem?_append_left (by rw [h.len]; exact h1)]; exact h3⟩
          · have : c = ks.length := by simp at hc; omega
            subst this
            exact ⟨i, by omega, by simp, by rw [List.getElem?_append_right (by rw [h.len]; omega), h.len, Nat.sub_self]; rfl⟩
        · by_cases e : j < i
          · obtain ⟨c, h1, h2⟩ := h.at_ j e
            have hc : c < ks.length := (List.getElem?_eq_some_iff.1 h2).1
            exact ⟨c, by rw [List.getElem?_append_left (by rw [h.len]; exact e)]; exact h1, by rw [List.getElem?_append_left hc]; exact h2⟩
          · have : j = i := by omega
            subst this
            exact ⟨ks.length, by rw [List.getElem?_append_right (by rw [h.len]; omega), h.len, Nat.sub_self]; rfl, by simp⟩
        · simp only [List.length_append, List.length_singleton] at hc hd
          by_cases e1 : c < ks.length <;> by_cases e2 : d < ks.length
          · rw [List.getElem?_append_left e1, List.getElem?_append_left e2] at he
            exact h.nodup c d e1 e2 he
          · have : d = ks.length := by omega
            subst this
            rw [List.getElem?_append_left e1] at he
            simp at he
            first | exact absurd he (hno c) | exact absurd he.symm (hno c)
          · have : c = ks.length := by omega
            subst this
            rw [List.getElem?_append_left e2] at he
            simp at he
            first | exact absurd he (hno d) | exact absurd he.symm (hno d)
          · omega
      have := rnd_ok key (c := c) this
      rwa [show i + 1 + c = i + (c + 1) by omega] at this
theorem ki0 (key : Nat → List Int) : KI key 0 [] [] := ⟨rfl, fun c hc => by simp at hc, fun j hj => by omega, fun c d hc => by simp at hc⟩
/-- The blocks are numbers below their count, each taken; states that answer alike are in one block. -/
structure BI (l : List St4) (S N : Nat) (bl : List Int) (count : Nat) : Prop where
  len : bl.length = S
  onto : ∀ c, c < count → ∃ i, i < S ∧ bl[i]? = some (c : Int)
  lt : ∀ i, i < S → ∃ c : Nat, c < count ∧ bl[i]? = some (c : Int)
  al : ∀ i j : Nat, i < S → j < S → Alike l l N i j → bl[i]? = bl[j]?
def blk (l : List St4) (S N : Nat) (bl : List Int) : List (List Int) × List Int := rnd (keyK l N bl) S 0 [] []
def blocksF (l : List St4) (S N : Nat) : Nat → List Int → Nat → List Int
  | 0, bl, _ => bl
  | F + 1, bl, count => if (blk l S N bl).1.length = count then (blk l S N bl).2 else blocksF l S N F (blk l S N bl).2 (blk l S N bl).1.length
def blocksM (l : List St4) (S N : Nat) : List Int := blocksF l S N (S + 1) (List.replicate S 0) 1
theorem bi0 {S N : Nat} (l : List St4) (hS : 1 ≤ S) : BI l S N (List.replicate S 0) 1 := by
  refine ⟨by simp, fun c hc => ⟨0, by omega, ?_⟩, fun i hi => ⟨0, by omega, ?_⟩, fun i j hi hj _ => ?_⟩
  · have : c = 0 := by omega
    subst this
    rw [List.getElem?_replicate, if_pos (by omega)]; rfl
  · rw [List.getElem?_replicate, if_pos hi]; rfl
  · rw [List.getElem?_replicate, List.getElem?_replicate, if_pos hi, if_pos hj]
theorem getD_of {bl : List Int} {i : Nat} {c : Int} (h : bl[i]? = some c) : bl.getD i 0 = c := by simp [List.getD_eq_getElem?_getD, h]
section
variable {S N O T : Int} {l : List St4}
theorem tgt_al (ok : MaOk S N O T l) {bl : List Int} {count : Nat} (hb : BI l S.toNat N.toNat bl count) {i j n : Nat} (hn : n < N.toNat) (ha : Alike l l N.toNat i j) : tgtK bl (stp l i n) = tgtK bl (stp l j n) := by
  rcases ha.goes hn with ⟨h1, h2⟩ | ⟨s, s', h1, h2, h3, h4⟩
  · rw [h1, h2]
  · rw [h1, h2]
    obtain ⟨m1, _, _⟩ := stp_some h1
    obtain ⟨m2, _, _⟩ := stp_some h2
    obtain ⟨_, _, a1, a2, _⟩ := ok.mem s m1
    obtain ⟨_, _, b1, b2, _⟩ := ok.mem s' m2
    have := hb.al s.t.toNat s'.t.toNat (by omega) (by omega) (by
      rw [Int.toNat_of_nonneg a1, Int.toNat_of_nonneg b1]; exact h4)
    simp only [tgtK, h3, List.getD_eq_getElem?_getD, this]
theorem key_al (ok : MaOk S N O T l) {bl : List Int} {count : Nat} (hb : BI l S.toNat N.toNat bl count) {i j : Nat} (hi : i < S.toNat) (hj : j < S.toNat) (ha : Alike l l N.toNat i j) : keyK l N.toNat bl i = keyK l N.toNat bl j := by
  unfold keyK
  rw [(keyT_eq l l bl i j N.toNat).2 fun n hn => tgt_al ok hb hn ha]
  simp only [List.getD_eq_getElem?_getD, hb.al i j hi hj ha]
theorem blk_bi (ok : MaOk S N O T l) {bl : List Int} {count : Nat} (hb : BI l S.toNat N.toNat bl count) : BI l S.toNat N.toNat (blk l S.toNat N.toNat bl).2 (blk l S.toNat N.toNat bl).1.length := by
  have k := rnd_ok (keyK l N.toNat bl) (c := S.toNat) (ki0 _)
  rw [Nat.zero_add] at k
  change KI _ _ (blk l S.toNat N.toNat bl).1 (blk l S.toNat N.toNat bl).2 at k
  refine ⟨k.len, fun c hc => ?_, fun i hi => ?_, fun i j hi hj ha => ?_⟩
  · obtain ⟨j, h1, h2, h3⟩ := k.from_ c hc
    exact ⟨j, h1, h3⟩
  · obtain ⟨c, h1, h2⟩ := k.at_ i hi
    exact ⟨c, (List.getElem?_eq_some_iff.1 h2).1, h1⟩
  · obtain ⟨c, h1, h2⟩ := k.at_ i hi
    obtain ⟨d, h3, h4⟩ := k.at_ j hj
    rw [key_al ok hb hi hj ha, ← h4] at h2
    have hd := (List.getElem?_eq_some_iff.1 h4).1
    have hc : c < (blk l S.toNat N.toNat bl).1.length := by
      rcases Nat.lt_or_ge c (blk l S.toNat N.toNat bl).1.length with h | h
      · exact h
      · rw [List.getElem?_eq_none h, h4] at h2; cases h2
    have := k.nodup c d hc hd h2
    subst this
    rw [h1, h3]
/-- A key's block. -/
def hd (k : List Int) : Nat := (k.headD 0).toNat
theorem hd_key {bl : List Int} {i c : Nat} (h : bl[i]? = some (c : Int)) : hd (keyK l N.toNat bl i) = c := by
  unfold hd keyK
  simp [List.getD_eq_getElem?_getD, h]
theorem heads_cover (ok : MaOk S N O T l) {bl : List Int} {count : Nat} (hb : BI l S.toNat N.toNat bl count) : ∀ c, c < count → c ∈ (blk l S.toNat N.toNat bl).1.map hd := by
  have k := rnd_ok (keyK l N.toNat bl) (c := S.toNat) (ki0 _)
  rw [Nat.zero_add] at k
  change KI _ _ (blk l S.toNat N.toNat bl).1 (blk l S.toNat N.toNat bl).2 at k
  intro c hc
  obtain ⟨i, hi, h1⟩ := hb.onto c hc
  obtain ⟨d, _, h2⟩ := k.at_ i hi
  exact List.mem_map.2 ⟨_, List.mem_of_getElem? h2, hd_key h1⟩
theorem blk_le (ok : MaOk S N O T l) {bl : List Int} {count : Nat} (hb : BI l S.toNat N.toNat bl count) : count ≤ (blk l S.toNat N.toNat bl).1.length := by
  have := cover_len count _ (heads_cover ok hb)
  simpa using this
/-- No block is new: one block, one answer. -/
theorem blk_fix (ok : MaOk S N O T l) {bl : List Int} {count : Nat} (hb : BI l S.toNat N.toNat bl count) (he : (blk l S.toNat N.toNat bl).1.length = count) {i j : Nat} (hi : i < S.toNat) (hj : j < S.toNat)
    (h : (blk l S.toNat N.toNat bl).2[i]? = (blk l S.toNat N.toNat bl).2[j]?) : Alike l l N.toNat i j := by
  have k := rnd_ok (keyK l N.toNat bl) (c := S.toNat) (ki0 _)
  rw [Nat.zero_add] at k
  change KI _ _ (blk l S.toNat N.toNat bl).1 (blk l S.toNat N.toNat bl).2 at k
  -- states of one old block are of one new block
  have key : ∀ i j : Nat, i < S.toNat → j < S.toNat → bl[i]? = bl[j]? → keyK l N.toNat bl i = keyK l N.toNat bl j := by
    intro i j hi hj hb'
    obtain ⟨c, c1, c2⟩ := k.at_ i hi
    obtain ⟨d, d1, d2⟩ := k.at_ j hj
    obtain ⟨e, _, e2⟩ := hb.lt i hi
    have e3 : bl[j]? = some (e : Int) := hb' ▸ e2
    have hc := (List.getElem?_eq_some_iff.1 c2).1
    have hdl := (List.getElem?_eq_some_iff.1 d2).1
    have := cover_inj (heads_cover ok hb) (by simp [he]) (i := c) (j := d) (by simpa using hc) (by simpa using hdl) (by
      have h1 := (List.getElem?_eq_some_iff.1 c2).2
      have h2 := (List.getElem?_eq_some_iff.1 d2).2
      simp only [List.getElem_map, h1, h2, hd_key e2, hd_key e3])
    subst this
    rw [c2] at d2
    exact Option.some.inj d2
  have one : ∀ i j : Nat, i < S.toNat → j < S.toNat → (blk l S.toNat N.toNat bl).2[i]? = (blk l S.toNat N.toNat bl).2[j]? → keyK l N.toNat bl i = keyK l N.toNat bl j := by
    intro i j hi hj h
    obtain ⟨c, c1, c2⟩ := k.at_ i hi
    obtain ⟨d, d1, d2⟩ := k.at_ j hj
    rw [c1, d1] at h
    have : c = d := by have := Option.some.inj h; omega
    subst this
    rw [c2] at d2
    exact Option.some.inj d2
  refine ⟨fun a b => ∃ i j : Nat, i < S.toNat ∧ j < S.toNat ∧ a = i ∧ b = j ∧ keyK l N.toNat bl i = keyK l N.toNat bl j, ?_, i, j, hi, hj, rfl, rfl, one i j hi hj h⟩
  rintro p q ⟨i, j, hi, hj, rfl, rfl, hk⟩ n hn
  unfold keyK at hk
  rw [List.cons.injEq] at hk
  have ht := (keyT_eq l l bl i j N.toNat).1 hk.2 n hn
  cases h1 : stp l i n with
  | none =>
    cases h2 : stp l j n with
    | none => exact .inl ⟨h1, h2⟩
    | some s' =>
      rw [h1, h2] at ht
      obtain ⟨m2, _, _⟩ := stp_some h2
      obtain ⟨_, _, _, _, _, _, o1, _⟩ := ok.mem s' m2
      simp only [tgtK, List.cons.injEq] at ht
      omega
  | some s =>
    obtain ⟨m1, _, _⟩ := stp_some h1
    obtain ⟨_, _, a1, a2, _, _, o0, _⟩ := ok.mem s m1
    cases h2 : stp l j n with
    | none =>
      rw [h1, h2] at ht
      simp only [tgtK, List.cons.injEq] at ht
      omega
    | some s' =>
      rw [h1, h2] at ht
      obtain ⟨m2, _, _⟩ := stp_some h2
      obtain ⟨_, _, b1, b2, _⟩ := ok.mem s' m2
      simp only [tgtK, List.cons.injEq, and_true] at ht
      refine .inr ⟨s, s', h1, h2, ht.1, s.t.toNat, s'.t.toNat, by omega, by omega, by omega, by omega, key _ _ (by omega) (by omega) ?_⟩
      obtain ⟨c, _, c2⟩ := hb.lt s.t.toNat (by omega)
      obtain ⟨d, _, d2⟩ := hb.lt s'.t.toNat (by omega)
      rw [getD_of c2, getD_of d2] at ht
      rw [c2, d2, ht.2]
theorem blocksF_ok (ok : MaOk S N O T l) : ∀ {F : Nat} {bl : List Int} {count : Nat}, BI l S.toNat N.toNat bl count → count ≤ S.toNat → S.toNat - count < F →
    (∃ count', BI l S.toNat N.toNat (blocksF l S.toNat N.toNat F bl count) count') ∧ ∀ i j : Nat, i < S.toNat → j < S.toNat → (blocksF l S.toNat N.toNat F bl count)[i]? = (blocksF l S.toNat N.toNat F bl count)[j]? → Alike l l N.toNat i j
  | 0, bl, count, _, _, h => by omega
  | F + 1, bl, count, hb, hc, hF => by
    unfold blocksF
    have hb' := blk_bi ok hb
    have hle := blk_le ok hb
    by_cases he : (blk l S.toNat N.toNat bl).1.length = count
    · rw [if_pos he]
      exact ⟨⟨_, hb'⟩, fun i j hi hj h => blk_fix ok hb he hi hj h⟩
    · rw [if_neg he]
      have hS : (blk l S.toNat N.toNat bl).1.length ≤ S.toNat := by
        have := cover_len (blk l S.toNat N.toNat bl).1.length ((blk l S.toNat N.toNat bl).2.map Int.toNat) fun c hc => by
          obtain ⟨i, _, h1⟩ := hb'.onto c hc
          exact List.mem_map.2 ⟨_, List.mem_of_getElem? h1, by simp⟩
        rw [List.length_map, hb'.len] at this
        exact this
      exact blocksF_ok ok hb' hS (by omega)
/-- One block, one answer. -/
theorem blocks_iff (ok : MaOk S N O T l) {i j : Nat} (hi : i < S.toNat) (hj : j < S.toNat) : (blocksM l S.toNat N.toNat)[i]? = (blocksM l S.toNat N.toNat)[j]? ↔ Alike l l N.toNat i j := by
  obtain ⟨s1, s2⟩ := ok.s
  obtain ⟨⟨c, hb⟩, h⟩ := blocksF_ok ok (F := S.toNat + 1) (bi0 l (by omega)) (by omega) (by omega)
  exact ⟨h i j hi hj, hb.al i j hi hj⟩
theorem blocks_len (ok : MaOk S N O T l) : ∃ c, BI l S.toNat N.toNat (blocksM l S.toNat N.toNat) c := by
  obtain ⟨s1, s2⟩ := ok.s
  exact (blocksF_ok ok (F := S.toNat + 1) (bi0 l (by omega)) (by omega) (by omega)).1
end
end Go.Proofs.YtahifpeggdcamaaDoor
