/- A part of an interpreter of the model's code that is proved sound, and of laws told by it: DamX20. -/
import Derived.Test.YtdhbhedfbdckaaaGreatDoorPuF1
import Derived.Test.YtdhbhedfbdckaaaGreatDoorPuF2
import Derived.Test.YtdhbhedfbdckaaaGreatDoorPuD5
import Derived.Test.YtdhbhedfbdckaaaGreatDoorChecked
import Derived.WalkKit
import Derived.WalkSpells
import Derived.LoopTactic
set_option linter.unusedVariables false
set_option linter.unusedSimpArgs false
/- JoinedText: the walk. -/
namespace Go.Proofs.YtdhbhedfbdckaaaGreatDoor
open Go.Dam Go.RowKit
set_option linter.unusedVariables false
set_option linter.unusedSimpArgs false
theorem wp_nrm {P : Program} {c : Code} {Q : Exit → Act → World → Prop} {a : Act} {w : World} (h : Code.wp P c (nrm (Q .normal)) a w) : Code.wp P c Q a w :=
  Code.wp_mono (fun e a w h => by cases e <;> first | exact h | exact h.elim) h
theorem cell_at {w : World} {b j : Nat} {c : Array Value} {e : TypeId} {v : Value} (h : w.heap[b]? = some (.cells c e)) (hj : c[j]? = some v) : w.cell? ⟨b, j, none⟩ = some v := by
  unfold World.cell?; simp [h, hj]
set_option maxHeartbeats 40000000 in
set_option maxRecDepth 100000 in
theorem jt_walk0 (bk o c n : Nat) (ts : List Tk) (hn : n = ts.length) (w : World) (hlay0 : layF w) (hc0 : ∀ j, j < ts.length → w.cell? ⟨bk, o + j * 3, none⟩ = some (.int .i64 (tkD ts j).k) ∧ w.cell? ⟨bk, o + j * 3 + 1, none⟩ = some (.string (sb (tkD ts j).s)) ∧ w.cell? ⟨bk, o + j * 3 + 2, none⟩ = some (.int .i64 (tkD ts j).a))
    (hbk : bk < w.heap.size) (hcap : n ≤ c) (hn15 : n ≤ 1500) (hs0 : ∀ t ∈ ts, t.s.length ≤ 20000) :
    Calls Tryz.prog 22 #[.int .i64 0, .slice (some ⟨bk, o, none⟩) n c] w fun e w' => e = .returned (.tuple #[.string (sb (joinT 0 ts).1), .int .i64 (joinT 0 ts).2]) ∧ Below w.heap.size w w' := by
  have HC := hid hc0
  have HL := hid hlay0
  have HS := hid hs0
  have HN := hid hn
  have hgo : ∀ k, k < ts.length → (tkD ts k).s.length ≤ 20000 := fun k hk => by
    rw [tkD_get ts k hk]; exact hs0 _ (List.getElem_mem hk)
  have HG := hid hgo
  clear hc0 hlay0 hs0 hn hgo
  go_enter Tryz.func22, Tryz.ntmps22
  go_wp2_with fail
  go_loopw [23] (fun i wr => ∃ k : Nat, k ≤ n ∧ i = .int .i64 k ∧ Hid (Below w.heap.size w wr) ∧ Hid (∀ j, j < k → tkErr 0 (tkD ts j) = 0)) (fun i _ => n - (intOf i).toNat)
  case atStart => exact ⟨0, Nat.zero_le _, rfl, hid (Below.refl _ _), hid (fun _ h => by omega)⟩
  case round =>
    obtain ⟨k, hk, rfl, HB, HE⟩ := hrel
    by_cases hkn : k < n
    · obtain ⟨h1, h2, h3⟩ := HC.out k (by have := HN.out; omega)
      rw [← HB.out.cell (p := ⟨bk, o + k * 3, none⟩) hbk] at h1
      rw [← HB.out.cell (p := ⟨bk, o + k * 3 + 1, none⟩) hbk] at h2
      rw [← HB.out.cell (p := ⟨bk, o + k * 3 + 2, none⟩) hbk] at h3
      go_wp2_with fail
      have hbA := HB.out.alloc HB.out.size (.cells #[.int .i64 (tkD ts k).k, .string (sb (tkD ts k).s), .int .i64 (tkD ts k).a] 35)
      have HbA := hid hbA
      refine (call18' (lang := 0) (by decide) (tkD ts k) (HG.out k (by have := HN.out; omega)) _ (lay_below _ _ HL.out hbA)).mono ?_
      clear hbA
      rintro e w1 ⟨rfl, hb1⟩
      have Hb1 := hid (HbA.out.trans (hb1.mono HbA.out.size))
      clear hb1
      obtain ⟨E, hE⟩ : ∃ E, E = tkErr 0 (tkD ts k) := ⟨_, rfl⟩
      rw [← hE]
      have HEE := hid hE
      clear hE
      go_wp2
      · rename_i he
        have he' : E ≠ 0 := by simpa using he
        have hk' : k < ts.length := by have := HN.out; omega
        have hj := join_err (lang := 0) (by decide) (by have := HN.out; omega) (fst_atD 0 ts k hk' HE.out (HEE.out ▸ he')) (HEE.out ▸ he')
        rw [← HEE.out] at hj
        go_ret2
        refine ⟨?_, Hb1.out⟩
        rw [hj]
        rfl
      · rename_i he
        have he' : E = 0 := by simpa using he
        exact ⟨⟨k + 1, by omega, by go_num, Hb1, hid (fun j hj => by
          by_cases hjk : j = k
          · subst hjk; rw [← HEE.out]; exact he'
          · exact HE.out j (by omega))⟩, by simp [intOf]; omega⟩
    · have hke : k = n := by omega
      subst hke
      rename World => wr2
      have HF := hid (fst_noneD 0 ts (fun j hj => HE.out j (by have := HN.out; omega)))
      have HB0 := hid (Or.inl ⟨HB.out.size, .slice none 0 0, heap_alloc_new wr2 _, World.ownsRow_nil _ _ _ _, by simp [Value.ownBlock]⟩ : Lib.IsBuilder 83 5 w.heap.size wr2.heap.size (Lib.byteCells (jnA 0 ts 0)) (wr2.alloc (.cells #[.pointer none, .slice none 0 0] 83)))
      have HBA := hid (HB.out.alloc HB.out.size (.cells #[.pointer none, .slice none 0 0] 83))
      go_wp2_with fail
      go_loopw [36] (fun i wr3 => ∃ m : Nat, m ≤ k ∧ i = .int .i64 m ∧ Hid (Lib.IsBuilder 83 5 w.heap.size wr2.heap.size (Lib.byteCells (jnA 0 ts m)) wr3) ∧ Hid (Below w.heap.size w wr3)) (fun i _ => k - (intOf i).toNat)
      case atStart => exact ⟨0, Nat.zero_le _, rfl, HB0, HBA⟩
      case round =>
        obtain ⟨m, hm, rfl, HBB, HBW⟩ := hrel
        have hJ : (Lib.byteCells (jnA 0 ts m)).length ≤ 40000000 := by
          rw [Lib.byteCells_length]
          have := jnA_len 0 ts HS.out m (by have := HN.out; omega)
          have : m * 20001 ≤ 1500 * 20001 := Nat.mul_le_mul_right _ (by omega)
          omega
        by_cases hmk : m < k
        · have hm3 : m < ts.length := by have := HN.out; omega
          obtain ⟨h1, h2, h3⟩ := HC.out m hm3
          rw [← HBW.out.cell (p := ⟨bk, o + m * 3, none⟩) hbk] at h1
          rw [← HBW.out.cell (p := ⟨bk, o + m * 3 + 1, none⟩) hbk] at h2
          rw [← HBW.out.cell (p := ⟨bk, o + m * 3 + 2, none⟩) hbk] at h3
          go_wp2_with fail
          obtain ⟨B11, hB11⟩ : ∃ x : Array Value, x = #[.int .i64 (tkD ts m).k, .string (sb (tkD ts m).s), .int .i64 (tkD ts m).a] := ⟨_, rfl⟩
          have hn11 := heap_alloc_new wr (.cells B11 35)
          have hbA : Below wr.heap.size wr (wr.alloc (.cells B11 35)) := (Below.refl _ _).alloc (Nat.le_refl _) _
          have hwA : Below w.heap.size w (wr.alloc (.cells B11 35)) := HBW.out.trans (hbA.mono HBW.out.size)
          have hlt11 : wr.heap.size < (wr.alloc (.cells B11 35)).heap.size := by simp
          have HIB := bd_below HBB.out hbA
          rw [← hB11]
          generalize wr.alloc (.cells B11 35) = W at *
          have HlA := lay_below _ _ HL.out hwA
          have hJ2 : (Lib.byteCells (jnA 0 ts m)).length = (jnA 0 ts m).length := Lib.byteCells_length _
          have hsz : (tkD ts m).s.length ≤ 20000 := HG.out m hm3
          by_cases hm0 : m = 0
          · have hstep : Lib.byteCells (jnA 0 ts m) ++ Lib.strCells (sb (tkD ts m).s) = Lib.byteCells (jnA 0 ts (m + 1)) := by
              rw [Lib.strCells_eq, ← Lib.byteCells_append]
              show _ = Lib.byteCells ((jnA 0 ts m ++ (if m = 0 ∨ togT 0 (tkD ts (m - 1)) (tkD ts m) = true then [] else [32])) ++ (tkD ts m).s)
              rw [if_pos (.inl hm0), List.append_nil]
              rfl
            have Hst := hid hstep
            clear hstep
            subst hm0
            refine wp_nrm (reg16z 0 bk o k c wr.heap.size W _ _ _ _ _ _ _ _ _ _ _ _ _ _ _ _ _ _ _ _ _ _ _ _ _ _ _ _ _ _ _ _ _ _ _ _ _ _ _ _ _ _ _ _ _ _ _ _ _ _ _ _ _ _ _ _ _ _ _ _ (fun v41 v42 v43 v44 v45 v46 v47 v48 v49 v50 v51 v52 W' hW' => ?_))
            have hn' := (hW'.block _ hlt11).trans hn11
            have c11 : W'.cell? ⟨wr.heap.size, 1, none⟩ = some (.string (sb (tkD ts 0).s)) := by
              rw [hB11] at hn'
              exact cell_at hn' rfl
            have HI' := hid (bd_below HIB hW')
            have HW' := hid (hwA.trans (hW'.mono hwA.size))
            clear hn' hn11 hB11 hW' HIB hbA hwA HlA
            go_wp2_with fail
            refine (Tryz.bd_str w.heap.size wr2.heap.size _ (sb (tkD ts 0).s) W' HI'.out (by rw [sb_size]; omega) HW'.out.size).mono ?_
            rintro e w2 ⟨rfl, hb2, hbl2⟩
            rw [Hst.out] at hb2
            have HI2 := hid (Or.inr hb2 : Lib.IsBuilder 83 5 w.heap.size wr2.heap.size _ w2)
            have HW2 := hid (HW'.out.trans hbl2)
            clear hb2 hbl2
            go_wp2
            exact ⟨⟨0 + 1, by omega, by go_num, HI2, HW2⟩, by simp [intOf]; omega⟩
          · obtain ⟨q, hq⟩ : ∃ q, m = q + 1 := ⟨m - 1, by omega⟩
            have hqk : q < k := by omega
            obtain ⟨g1, g2, g3⟩ := HC.out q (by omega)
            rw [← hwA.cell (p := ⟨bk, o + q * 3, none⟩) hbk] at g1
            rw [← hwA.cell (p := ⟨bk, o + q * 3 + 1, none⟩) hbk] at g2
            rw [← hwA.cell (p := ⟨bk, o + q * 3 + 2, none⟩) hbk] at g3
            have hmq : m - 1 = q := by omega
            have hn11' := hn11
            rw [hB11] at hn11'
            refine wp_nrm (reg16p 0 bk o k c m wr.heap.size q (tkD ts q) (tkD ts m) hqk (by omega) hq W HlA (HG.out q (by omega)) hsz _ _ _ _ _ _ _ _ _ _ _ _ _ _ _ _ _ _ _ _ _ _ _ _ _ _ _ _ _ _ _ _ _ _ _ _ _ _ _ _ _ _ _ _ _ _ _ _ _ _ _ _ _ _ _ _ _ _ g1 g2 g3 (cell_at hn11' rfl) (cell_at hn11' rfl) (cell_at hn11' rfl) (nrm _) (fun _ _ _ _ _ h => h) _ (fun v41 v42 v43 v44 v45 v46 v47 v48 v49 v50 v51 v52 W' hW' => ?_))
            have hn' := (hW'.block _ hlt11).trans hn11
            have HI' := hid (bd_below HIB hW')
            have HW' := hid (hwA.trans (hW'.mono hwA.size))
            have Hn11 := hid hn'
            have c11 : W'.cell? ⟨wr.heap.size, 1, none⟩ = some (.string (sb (tkD ts m).s)) := by
              rw [hB11] at hn'
              exact cell_at hn' rfl
            have HB11 := hid hB11
            clear hn' hn11 hn11' hB11 hW' HIB hbA hwA HlA g1 g2 g3 h1 h2 h3 hq
            cases htog : togT 0 (tkD ts q) (tkD ts m) with
            | true =>
              have hstep : Lib.byteCells (jnA 0 ts m) ++ Lib.strCells (sb (tkD ts m).s) = Lib.byteCells (jnA 0 ts (m + 1)) := by
                rw [Lib.strCells_eq, ← Lib.byteCells_append]
                show _ = Lib.byteCells ((jnA 0 ts m ++ (if m = 0 ∨ togT 0 (tkD ts (m - 1)) (tkD ts m) = true then [] else [32])) ++ (tkD ts m).s)
                rw [hmq, if_pos (.inr htog), List.append_nil]
                rfl
              have Hst := hid hstep
              clear hstep htog hmq
              simp only [nrm, Bool.not_true]
              go_wp2_with fail
              refine (Tryz.bd_str w.heap.size wr2.heap.size _ (sb (tkD ts m).s) W' HI'.out (by rw [sb_size]; omega) HW'.out.size).mono ?_
              rintro e w2 ⟨rfl, hb2, hbl2⟩
              rw [Hst.out] at hb2
              have HI2 := hid (Or.inr hb2 : Lib.IsBuilder 83 5 w.heap.size wr2.heap.size _ w2)
              have HW2 := hid (HW'.out.trans hbl2)
              clear hb2 hbl2
              go_wp2
              exact ⟨⟨m + 1, by omega, by go_num, HI2, HW2⟩, by simp [intOf]; omega⟩
            | false =>
              have hstep : (Lib.byteCells (jnA 0 ts m) ++ [.int .u8 32]) ++ Lib.strCells (sb (tkD ts m).s) = Lib.byteCells (jnA 0 ts (m + 1)) := by
                rw [Lib.strCells_eq, show ([.int .u8 32] : List Value) = Lib.byteCells [32] from rfl, ← Lib.byteCells_append, ← Lib.byteCells_append]
                show _ = Lib.byteCells ((jnA 0 ts m ++ (if m = 0 ∨ togT 0 (tkD ts (m - 1)) (tkD ts m) = true then [] else [32])) ++ (tkD ts m).s)
                rw [hmq, if_neg (fun h => h.elim hm0 (fun h => by rw [htog] at h; cases h))]
                rfl
              have Hst := hid hstep
              clear hstep htog hmq
              simp only [nrm, Bool.not_false]
              go_wp2_with fail
              refine (wb_walk w.heap.size wr2.heap.size _ W' HI'.out (by omega) HW'.out.size).mono ?_
              rintro e w2 ⟨rfl, hb2, hbl2, hst2⟩
              have hn2 := hst2 _ _ Hn11.out
              rw [HB11.out] at hn2
              have c12 : w2.cell? ⟨wr.heap.size, 1, none⟩ = some (.string (sb (tkD ts m).s)) := cell_at hn2 rfl
              have HW2 := hid (HW'.out.trans hbl2)
              have HI2 := hid hb2
              have hlen2 : (Lib.byteCells (jnA 0 ts m) ++ [Value.int .u8 32]).length = (Lib.byteCells (jnA 0 ts m)).length + 1 := by rw [List.length_append]; rfl
              clear hb2 hbl2 hst2 hn2 c11
              go_wp2_with fail
              refine (Tryz.bd_str w.heap.size wr2.heap.size _ (sb (tkD ts m).s) w2 HI2.out (by rw [sb_size]; omega) HW2.out.size).mono ?_
              rintro e w3 ⟨rfl, hb3, hbl3⟩
              rw [Hst.out] at hb3
              have HI3 := hid (Or.inr hb3 : Lib.IsBuilder 83 5 w.heap.size wr2.heap.size _ w3)
              have HW3 := hid (HW2.out.trans hbl3)
              clear hb3 hbl3
              go_wp2
              exact ⟨⟨m + 1, by omega, by go_num, HI3, HW3⟩, by simp [intOf]; omega⟩
        · have hmk' : m = k := by omega
          subst hmk'
          go_wp2_with fail
          refine (Tryz.bd_len w.heap.size wr2.heap.size _ wr HBB.out).mono ?_
          rintro e w2 ⟨rfl, rfl⟩
          have hlen := Lib.byteCells_length (jnA 0 ts m)
          rw [hlen]
          have hjo := join_ok (lang := 0) (by decide) (by have := HN.out; omega) HF.out
          rw [← HN.out] at hjo
          have HJo := hid hjo
          clear hjo hlen
          go_wp2_with fail
          · rename_i h8
            go_ret2
            refine ⟨?_, HBW.out⟩
            rw [HJo.out, if_pos (by omega)]
            rfl
          · rename_i h8
            refine (Tryz.bd_all w.heap.size wr2.heap.size (jnA 0 ts m) _ HBB.out HBW.out.size).mono ?_
            rintro e w3 ⟨rfl, hb3⟩
            have HW3 := hid (HBW.out.trans hb3)
            clear hb3
            go_wp2
            go_ret2
            refine ⟨?_, HW3.out⟩
            rw [HJo.out, if_neg (by omega)]
            rfl
set_option maxHeartbeats 40000000 in
set_option maxRecDepth 100000 in
theorem jt_walk1 (bk o c n : Nat) (ts : List Tk) (hn : n = ts.length) (w : World) (hlay0 : layF w) (hc0 : ∀ j, j < ts.length → w.cell? ⟨bk, o + j * 3, none⟩ = some (.int .i64 (tkD ts j).k) ∧ w.cell? ⟨bk, o + j * 3 + 1, none⟩ = some (.string (sb (tkD ts j).s)) ∧ w.cell? ⟨bk, o + j * 3 + 2, none⟩ = some (.int .i64 (tkD ts j).a))
    (hbk : bk < w.heap.size) (hcap : n ≤ c) (hn15 : n ≤ 1500) (hs0 : ∀ t ∈ ts, t.s.length ≤ 20000) :
    Calls Tryz.prog 22 #[.int .i64 1, .slice (some ⟨bk, o, none⟩) n c] w fun e w' => e = .returned (.tuple #[.string (sb (joinT 1 ts).1), .int .i64 (joinT 1 ts).2]) ∧ Below w.heap.size w w' := by
  have HC := hid hc0
  have HL := hid hlay0
  have HS := hid hs0
  have HN := hid hn
  have hgo : ∀ k, k < ts.length → (tkD ts k).s.length ≤ 20000 := fun k hk => by
    rw [tkD_get ts k hk]; exact hs0 _ (List.getElem_mem hk)
  have HG := hid hgo
  clear hc0 hlay0 hs0 hn hgo
  go_enter Tryz.func22, Tryz.ntmps22
  go_wp2_with fail
  go_loopw [23] (fun i wr => ∃ k : Nat, k ≤ n ∧ i = .int .i64 k ∧ Hid (Below w.heap.size w wr) ∧ Hid (∀ j, j < k → tkErr 1 (tkD ts j) = 0)) (fun i _ => n - (intOf i).toNat)
  case atStart => exact ⟨0, Nat.zero_le _, rfl, hid (Below.refl _ _), hid (fun _ h => by omega)⟩
  case round =>
    obtain ⟨k, hk, rfl, HB, HE⟩ := hrel
    by_cases hkn : k < n
    · obtain ⟨h1, h2, h3⟩ := HC.out k (by have := HN.out; omega)
      rw [← HB.out.cell (p := ⟨bk, o + k * 3, none⟩) hbk] at h1
      rw [← HB.out.cell (p := ⟨bk, o + k * 3 + 1, none⟩) hbk] at h2
      rw [← HB.out.cell (p := ⟨bk, o + k * 3 + 2, none⟩) hbk] at h3
      go_wp2_with fail
      have hbA := HB.out.alloc HB.out.size (.cells #[.int .i64 (tkD ts k).k, .string (sb (tkD ts k).s), .int .i64 (tkD ts k).a] 35)
      have HbA := hid hbA
      refine (call18' (lang := 1) (by decide) (tkD ts k) (HG.out k (by have := HN.out; omega)) _ (lay_below _ _ HL.out hbA)).mono ?_
      clear hbA
      rintro e w1 ⟨rfl, hb1⟩
      have Hb1 := hid (HbA.out.trans (hb1.mono HbA.out.size))
      clear hb1
      obtain ⟨E, hE⟩ : ∃ E, E = tkErr 1 (tkD ts k) := ⟨_, rfl⟩
      rw [← hE]
      have HEE := hid hE
      clear hE
      go_wp2
      · rename_i he
        have he' : E ≠ 0 := by simpa using he
        have hk' : k < ts.length := by have := HN.out; omega
        have hj := join_err (lang := 1) (by decide) (by have := HN.out; omega) (fst_atD 1 ts k hk' HE.out (HEE.out ▸ he')) (HEE.out ▸ he')
        rw [← HEE.out] at hj
        go_ret2
        refine ⟨?_, Hb1.out⟩
        rw [hj]
        rfl
      · rename_i he
        have he' : E = 0 := by simpa using he
        exact ⟨⟨k + 1, by omega, by go_num, Hb1, hid (fun j hj => by
          by_cases hjk : j = k
          · subst hjk; rw [← HEE.out]; exact he'
          · exact HE.out j (by omega))⟩, by simp [intOf]; omega⟩
    · have hke : k = n := by omega
      subst hke
      rename World => wr2
      have HF := hid (fst_noneD 1 ts (fun j hj => HE.out j (by have := HN.out; omega)))
      have HB0 := hid (Or.inl ⟨HB.out.size, .slice none 0 0, heap_alloc_new wr2 _, World.ownsRow_nil _ _ _ _, by simp [Value.ownBlock]⟩ : Lib.IsBuilder 83 5 w.heap.size wr2.heap.size (Lib.byteCells (jnA 1 ts 0)) (wr2.alloc (.cells #[.pointer none, .slice none 0 0] 83)))
      have HBA := hid (HB.out.alloc HB.out.size (.cells #[.pointer none, .slice none 0 0] 83))
      go_wp2_with fail
      go_loopw [36] (fun i wr3 => ∃ m : Nat, m ≤ k ∧ i = .int .i64 m ∧ Hid (Lib.IsBuilder 83 5 w.heap.size wr2.heap.size (Lib.byteCells (jnA 1 ts m)) wr3) ∧ Hid (Below w.heap.size w wr3)) (fun i _ => k - (intOf i).toNat)
      case atStart => exact ⟨0, Nat.zero_le _, rfl, HB0, HBA⟩
      case round =>
        obtain ⟨m, hm, rfl, HBB, HBW⟩ := hrel
        have hJ : (Lib.byteCells (jnA 1 ts m)).length ≤ 40000000 := by
          rw [Lib.byteCells_length]
          have := jnA_len 1 ts HS.out m (by have := HN.out; omega)
          have : m * 20001 ≤ 1500 * 20001 := Nat.mul_le_mul_right _ (by omega)
          omega
        by_cases hmk : m < k
        · have hm3 : m < ts.length := by have := HN.out; omega
          obtain ⟨h1, h2, h3⟩ := HC.out m hm3
          rw [← HBW.out.cell (p := ⟨bk, o + m * 3, none⟩) hbk] at h1
          rw [← HBW.out.cell (p := ⟨bk, o + m * 3 + 1, none⟩) hbk] at h2
          rw [← HBW.out.cell (p := ⟨bk, o + m * 3 + 2, none⟩) hbk] at h3
          go_wp2_with fail
          obtain ⟨B11, hB11⟩ : ∃ x : Array Value, x = #[.int .i64 (tkD ts m).k, .string (sb (tkD ts m).s), .int .i64 (tkD ts m).a] := ⟨_, rfl⟩
          have hn11 := heap_alloc_new wr (.cells B11 35)
          have hbA : Below wr.heap.size wr (wr.alloc (.cells B11 35)) := (Below.refl _ _).alloc (Nat.le_refl _) _
          have hwA : Below w.heap.size w (wr.alloc (.cells B11 35)) := HBW.out.trans (hbA.mono HBW.out.size)
          have hlt11 : wr.heap.size < (wr.alloc (.cells B11 35)).heap.size := by simp
          have HIB := bd_below HBB.out hbA
          rw [← hB11]
          generalize wr.alloc (.cells B11 35) = W at *
          have HlA := lay_below _ _ HL.out hwA
          have hJ2 : (Lib.byteCells (jnA 1 ts m)).length = (jnA 1 ts m).length := Lib.byteCells_length _
          have hsz : (tkD ts m).s.length ≤ 20000 := HG.out m hm3
          by_cases hm0 : m = 0
          · have hstep : Lib.byteCells (jnA 1 ts m) ++ Lib.strCells (sb (tkD ts m).s) = Lib.byteCells (jnA 1 ts (m + 1)) := by
              rw [Lib.strCells_eq, ← Lib.byteCells_append]
              show _ = Lib.byteCells ((jnA 1 ts m ++ (if m = 0 ∨ togT 1 (tkD ts (m - 1)) (tkD ts m) = true then [] else [32])) ++ (tkD ts m).s)
              rw [if_pos (.inl hm0), List.append_nil]
              rfl
            have Hst := hid hstep
            clear hstep
            subst hm0
            refine wp_nrm (reg16z 1 bk o k c wr.heap.size W _ _ _ _ _ _ _ _ _ _ _ _ _ _ _ _ _ _ _ _ _ _ _ _ _ _ _ _ _ _ _ _ _ _ _ _ _ _ _ _ _ _ _ _ _ _ _ _ _ _ _ _ _ _ _ _ _ _ _ _ (fun v41 v42 v43 v44 v45 v46 v47 v48 v49 v50 v51 v52 W' hW' => ?_))
            have hn' := (hW'.block _ hlt11).trans hn11
            have c11 : W'.cell? ⟨wr.heap.size, 1, none⟩ = some (.string (sb (tkD ts 0).s)) := by
              rw [hB11] at hn'
              exact cell_at hn' rfl
            have HI' := hid (bd_below HIB hW')
            have HW' := hid (hwA.trans (hW'.mono hwA.size))
            clear hn' hn11 hB11 hW' HIB hbA hwA HlA
            go_wp2_with fail
            refine (Tryz.bd_str w.heap.size wr2.heap.size _ (sb (tkD ts 0).s) W' HI'.out (by rw [sb_size]; omega) HW'.out.size).mono ?_
            rintro e w2 ⟨rfl, hb2, hbl2⟩
            rw [Hst.out] at hb2
            have HI2 := hid (Or.inr hb2 : Lib.IsBuilder 83 5 w.heap.size wr2.heap.size _ w2)
            have HW2 := hid (HW'.out.trans hbl2)
            clear hb2 hbl2
            go_wp2
            exact ⟨⟨0 + 1, by omega, by go_num, HI2, HW2⟩, by simp [intOf]; omega⟩
          · obtain ⟨q, hq⟩ : ∃ q, m = q + 1 := ⟨m - 1, by omega⟩
            have hqk : q < k := by omega
            obtain ⟨g1, g2, g3⟩ := HC.out q (by omega)
            rw [← hwA.cell (p := ⟨bk, o + q * 3, none⟩) hbk] at g1
            rw [← hwA.cell (p := ⟨bk, o + q * 3 + 1, none⟩) hbk] at g2
            rw [← hwA.cell (p := ⟨bk, o + q * 3 + 2, none⟩) hbk] at g3
            have hmq : m - 1 = q := by omega
            have hn11' := hn11
            rw [hB11] at hn11'
            refine wp_nrm (reg16p 1 bk o k c m wr.heap.size q (tkD ts q) (tkD ts m) hqk (by omega) hq W HlA (HG.out q (by omega)) hsz _ _ _ _ _ _ _ _ _ _ _ _ _ _ _ _ _ _ _ _ _ _ _ _ _ _ _ _ _ _ _ _ _ _ _ _ _ _ _ _ _ _ _ _ _ _ _ _ _ _ _ _ _ _ _ _ _ _ g1 g2 g3 (cell_at hn11' rfl) (cell_at hn11' rfl) (cell_at hn11' rfl) (nrm _) (fun _ _ _ _ _ h => h) _ (fun v41 v42 v43 v44 v45 v46 v47 v48 v49 v50 v51 v52 W' hW' => ?_))
            have hn' := (hW'.block _ hlt11).trans hn11
            have HI' := hid (bd_below HIB hW')
            have HW' := hid (hwA.trans (hW'.mono hwA.size))
            have Hn11 := hid hn'
            have c11 : W'.cell? ⟨wr.heap.size, 1, none⟩ = some (.string (sb (tkD ts m).s)) := by
              rw [hB11] at hn'
              exact cell_at hn' rfl
            have HB11 := hid hB11
            clear hn' hn11 hn11' hB11 hW' HIB hbA hwA HlA g1 g2 g3 h1 h2 h3 hq
            cases htog : togT 1 (tkD ts q) (tkD ts m) with
            | true =>
              have hstep : Lib.byteCells (jnA 1 ts m) ++ Lib.strCells (sb (tkD ts m).s) = Lib.byteCells (jnA 1 ts (m + 1)) := by
                rw [Lib.strCells_eq, ← Lib.byteCells_append]
                show _ = Lib.byteCells ((jnA 1 ts m ++ (if m = 0 ∨ togT 1 (tkD ts (m - 1)) (tkD ts m) = true then [] else [32])) ++ (tkD ts m).s)
                rw [hmq, if_pos (.inr htog), List.append_nil]
                rfl
              have Hst := hid hstep
              clear hstep htog hmq
              simp only [nrm, Bool.not_true]
              go_wp2_with fail
              refine (Tryz.bd_str w.heap.size wr2.heap.size _ (sb (tkD ts m).s) W' HI'.out (by rw [sb_size]; omega) HW'.out.size).mono ?_
              rintro e w2 ⟨rfl, hb2, hbl2⟩
              rw [Hst.out] at hb2
              have HI2 := hid (Or.inr hb2 : Lib.IsBuilder 83 5 w.heap.size wr2.heap.size _ w2)
              have HW2 := hid (HW'.out.trans hbl2)
              clear hb2 hbl2
              go_wp2
              exact ⟨⟨m + 1, by omega, by go_num, HI2, HW2⟩, by simp [intOf]; omega⟩
            | false =>
              have hstep : (Lib.byteCells (jnA 1 ts m) ++ [.int .u8 32]) ++ Lib.strCells (sb (tkD ts m).s) = Lib.byteCells (jnA 1 ts (m + 1)) := by
                rw [Lib.strCells_eq, show ([.int .u8 32] : List Value) = Lib.byteCells [32] from rfl, ← Lib.byteCells_append, ← Lib.byteCells_append]
                show _ = Lib.byteCells ((jnA 1 ts m ++ (if m = 0 ∨ togT 1 (tkD ts (m - 1)) (tkD ts m) = true then [] else [32])) ++ (tkD ts m).s)
                rw [hmq, if_neg (fun h => h.elim hm0 (fun h => by rw [htog] at h; cases h))]
                rfl
              have Hst := hid hstep
              clear hstep htog hmq
              simp only [nrm, Bool.not_false]
              go_wp2_with fail
              refine (wb_walk w.heap.size wr2.heap.size _ W' HI'.out (by omega) HW'.out.size).mono ?_
              rintro e w2 ⟨rfl, hb2, hbl2, hst2⟩
              have hn2 := hst2 _ _ Hn11.out
              rw [HB11.out] at hn2
              have c12 : w2.cell? ⟨wr.heap.size, 1, none⟩ = some (.string (sb (tkD ts m).s)) := cell_at hn2 rfl
              have HW2 := hid (HW'.out.trans hbl2)
              have HI2 := hid hb2
              have hlen2 : (Lib.byteCells (jnA 1 ts m) ++ [Value.int .u8 32]).length = (Lib.byteCells (jnA 1 ts m)).length + 1 := by rw [List.length_append]; rfl
              clear hb2 hbl2 hst2 hn2 c11
              go_wp2_with fail
              refine (Tryz.bd_str w.heap.size wr2.heap.size _ (sb (tkD ts m).s) w2 HI2.out (by rw [sb_size]; omega) HW2.out.size).mono ?_
              rintro e w3 ⟨rfl, hb3, hbl3⟩
              rw [Hst.out] at hb3
              have HI3 := hid (Or.inr hb3 : Lib.IsBuilder 83 5 w.heap.size wr2.heap.size _ w3)
              have HW3 := hid (HW2.out.trans hbl3)
              clear hb3 hbl3
              go_wp2
              exact ⟨⟨m + 1, by omega, by go_num, HI3, HW3⟩, by simp [intOf]; omega⟩
        · have hmk' : m = k := by omega
          subst hmk'
          go_wp2_with fail
          refine (Tryz.bd_len w.heap.size wr2.heap.size _ wr HBB.out).mono ?_
          rintro e w2 ⟨rfl, rfl⟩
          have hlen := Lib.byteCells_length (jnA 1 ts m)
          rw [hlen]
          have hjo := join_ok (lang := 1) (by decide) (by have := HN.out; omega) HF.out
          rw [← HN.out] at hjo
          have HJo := hid hjo
          clear hjo hlen
          go_wp2_with fail
          · rename_i h8
            go_ret2
            refine ⟨?_, HBW.out⟩
            rw [HJo.out, if_pos (by omega)]
            rfl
          · rename_i h8
            refine (Tryz.bd_all w.heap.size wr2.heap.size (jnA 1 ts m) _ HBB.out HBW.out.size).mono ?_
            rintro e w3 ⟨rfl, hb3⟩
            have HW3 := hid (HBW.out.trans hb3)
            clear hb3
            go_wp2
            go_ret2
            refine ⟨?_, HW3.out⟩
            rw [HJo.out, if_neg (by omega)]
            rfl
end Go.Proofs.YtdhbhedfbdckaaaGreatDoor
