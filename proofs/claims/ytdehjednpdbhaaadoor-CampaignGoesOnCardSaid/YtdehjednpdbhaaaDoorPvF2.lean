/- A part of an interpreter of the model's code that is proved sound, and of laws told by it: DamZ2. -/
import Derived.Test.YtdehjednpdbhaaaDoorPvF1
set_option linter.unusedVariables false
set_option linter.unusedSimpArgs false
/- Written: what the machine does. -/
namespace Go.Proofs.YtdehjednpdbhaaaDoor
open Go.Dam Go.RowKit
set_option linter.unusedVariables false
set_option linter.unusedSimpArgs false
/-- A block's first bytes written. -/
def zTo (l : List UInt8) (n : Nat) : List UInt8 := l ++ List.replicate (n - l.length) 0
def putB (l : List UInt8) (o : Nat) (x : List UInt8) : List UInt8 := l.take o ++ x ++ l.drop (o + x.length)
def wrU (l : List UInt8) (w : Wr) (k : Nat) : List UInt8 := if k = 0 then l else putB (zTo l (32 * w.1 + 32)) (w.1 * 32) (w.2.take k)
def wrF : List UInt8 → List Wr → List Nat → List UInt8
  | l, w :: ws, k :: ks => wrF (wrU l w k) ws ks
  | l, _, _ => l
def wD (ws : List Wr) (j : Nat) : Wr := ws.getD j (0, [])
def kD (ks : List Nat) (j : Nat) : Nat := ks.getD j 0
def wrN (l : List UInt8) (ws : List Wr) (ks : List Nat) : Nat → List UInt8
  | 0 => l
  | m + 1 => wrU (wrN l ws ks m) (wD ws m) (kD ks m)
theorem wrN_cons (l : List UInt8) (w : Wr) (ws : List Wr) (k : Nat) (ks : List Nat) : ∀ m, wrN l (w :: ws) (k :: ks) (m + 1) = wrN (wrU l w k) ws ks m
  | 0 => rfl
  | m + 1 => by
    rw [wrN, wrN_cons l w ws k ks m]
    rfl
theorem wrN_all : ∀ (ws : List Wr) (ks : List Nat) (l : List UInt8), ws.length = ks.length → wrN l ws ks ws.length = wrF l ws ks
  | [], [], l, _ => rfl
  | w :: ws, k :: ks, l, h => by
    rw [List.length_cons, wrN_cons, wrN_all ws ks _ (by simpa using h)]
    rfl
theorem wrU_len {l : List UInt8} {w : Wr} {k : Nat} (hw : w.1 < 48 ∧ w.2.length = 32) (hk : k ≤ 32) (hl : l.length ≤ 1536) : (wrU l w k).length ≤ 1536 := by
  unfold wrU
  split
  · exact hl
  · unfold putB zTo
    simp only [List.length_append, List.length_take, List.length_drop, List.length_replicate]
    omega
theorem wrN_len {l : List UInt8} {ws : List Wr} {ks : List Nat} (hw : ∀ w ∈ ws, w.1 < 48 ∧ w.2.length = 32) (hk : ∀ k ∈ ks, k ≤ 32) (hl : l.length ≤ 1536) (hn : ks.length = ws.length) : ∀ m, m ≤ ws.length → (wrN l ws ks m).length ≤ 1536
  | 0, _ => hl
  | m + 1, hm => by
    unfold wrN
    refine wrU_len ?_ ?_ (wrN_len hw hk hl hn m (by omega))
    · unfold wD
      rw [List.getD_eq_getElem?_getD, List.getElem?_eq_getElem (by omega)]
      exact hw _ (List.getElem_mem _)
    · unfold kD
      rw [List.getD_eq_getElem?_getD, List.getElem?_eq_getElem (by omega)]
      exact hk _ (List.getElem_mem _)
set_option maxHeartbeats 8000000 in
set_option maxRecDepth 100000 in
theorem wr_walk (s : List UInt8) (bk o c n bq oq cq : Nat) (ws : List Wr) (ks : List Nat) (hn : n = ws.length) (hn96 : n ≤ 96) (hkn : ks.length = ws.length) (hs : s.length ≤ 1536) (w : World) (hw0 : ∀ x ∈ ws, x.1 < 48 ∧ x.2.length = 32) (hk0 : ∀ k ∈ ks, k ≤ 32)
    (h15 : Calls Tryd.prog 15 #[.string (sb s)] w fun e w' => e = .returned (.int .i64 0) ∧ Below w.heap.size w w')
    (h20 : ∀ w1, Below w.heap.size w w1 → Calls Tryd.prog 20 #[.slice (some ⟨bk, o, none⟩) n c, .slice (some ⟨bq, oq, none⟩) n cq] w1 fun e w' => e = .returned (.int .i64 0) ∧ Below w1.heap.size w1 w')
    (hc0 : ∀ j, j < ws.length → w.cell? ⟨bk, o + j * 2, none⟩ = some (.int .i64 ((wD ws j).1 : Nat)) ∧ w.cell? ⟨bk, o + j * 2 + 1, none⟩ = some (.string (sb (wD ws j).2)) ∧ w.cell? ⟨bq, oq + j, none⟩ = some (.int .i64 (kD ks j : Nat)))
    (hbk : bk < w.heap.size) (hbq : bq < w.heap.size) (hcap : n ≤ c) (hcapq : n ≤ cq) :
    Calls Tryd.prog 7 #[.string (sb s), .slice (some ⟨bk, o, none⟩) n c, .slice (some ⟨bq, oq, none⟩) n cq] w fun e w' => e = .returned (.tuple #[.string (sb (wrF s ws ks)), .int .i64 0]) ∧ Below w.heap.size w w' := by
  have HC := hid hc0
  have HW := hid hw0
  have HK := hid hk0
  have HN := hid hn
  have HKN := hid hkn
  have HCAP := hid hcap
  have HCAPQ := hid hcapq
  clear hc0 hw0 hk0 hn
  go_enter Tryd.func7, Tryd.ntmps7
  go_wp2_with fail
  refine h15.mono ?_
  rintro e w1 ⟨rfl, hb1⟩
  go_wp2_with fail
  refine (h20 w1 hb1).mono ?_
  rintro e w2 ⟨rfl, hb2⟩
  have HB2 := hid (hb1.trans (hb2.mono hb1.size))
  clear h15 h20 hb1 hb2
  obtain ⟨g0, cap0, w3, hconv, hrw3, hgr3⟩ := Rw.make w2 s w.heap.size HB2.out.size (by omega)
  have HB3 := hid (HB2.out.grown hgr3 HB2.out.size (fun k hk => by cases hk))
  have HR3 := hid hrw3
  clear hrw3 hgr3
  go_wp2
  go_loopw [10, 30] (fun o i wr => ∃ m : Nat, m ≤ n ∧ i = .int .i64 m ∧ ∃ g cap len l, o = .slice (some ⟨g, 0, none⟩) len cap ∧ Hid (len = l.length) ∧ Hid (l = wrN s ws ks m) ∧ Hid (Rw w.heap.size wr g cap l) ∧ Hid (Below w.heap.size w wr)) (fun _ i _ => n - (intOf i).toNat)
  case atStart => exact ⟨0, Nat.zero_le _, rfl, g0, cap0, _, s, rfl, hid rfl, hid rfl, HR3, HB3⟩
  case round =>
    obtain ⟨m, hm, rfl, g, cap, len, l, rfl, Hlen, Hl, HR, HB⟩ := hrel
    by_cases hmk : m < n
    · have hm3 : m < ws.length := by have := HN.out; omega
      obtain ⟨h1, h2, h3⟩ := HC.out m hm3
      have hwm : (wD ws m).1 < 48 ∧ (wD ws m).2.length = 32 := by
        unfold wD
        rw [List.getD_eq_getElem?_getD, List.getElem?_eq_getElem hm3]
        exact HW.out _ (List.getElem_mem _)
      have hkm : kD ks m ≤ 32 := by
        unfold kD
        rw [List.getD_eq_getElem?_getD, List.getElem?_eq_getElem (by have := HKN.out; omega)]
        exact HK.out _ (List.getElem_mem _)
      have hnext : wrN s ws ks (m + 1) = wrU l (wD ws m) (kD ks m) := by rw [Hl.out]; rfl
      have hl6 : l.length ≤ 1536 := by rw [Hl.out]; exact wrN_len HW.out HK.out hs HKN.out m (by omega)
      rw [← Hlen.out] at hl6
      obtain ⟨⟨a, x⟩, hax⟩ : ∃ p, p = wD ws m := ⟨_, rfl⟩
      obtain ⟨k, hk⟩ : ∃ k, k = kD ks m := ⟨_, rfl⟩
      rw [← hax] at h1 h2 hwm hnext
      rw [← hk] at h3 hkm hnext
      simp only at h1 h2 hwm
      obtain ⟨ha48, hx32⟩ := hwm
      clear hax hk
      rw [← HB.out.cell (p := ⟨bk, o + m * 2, none⟩) hbk] at h1
      rw [← HB.out.cell (p := ⟨bk, o + m * 2 + 1, none⟩) hbk] at h2
      have hbW := HB.out.alloc HB.out.size (.cells #[.int .i64 (a : Nat), .string (sb x)] 57)
      rw [← hbW.cell (p := ⟨bq, oq + m, none⟩) hbq] at h3
      have HBW := hid hbW
      have HRW := hid (HR.out.alloc (.cells #[.int .i64 (a : Nat), .string (sb x)] 57))
      have Hnext := hid hnext
      clear hbW hnext
      by_cases hk0 : k = 0
      · subst hk0
        go_wp2
        exact ⟨⟨m + 1, by omega, by go_num, g, cap, len, l, rfl, Hlen, hid (by rw [Hnext.out]; rfl), HRW, HBW⟩, by simp [intOf]; omega⟩
      · have hkz : ¬ ((k : Int) = 0) := by omega
        by_cases hroom : 32 * a + 32 ≤ len
        · have hms : ¬ ((a : Int) * 32 + 32 - (len : Int) > 0) := by omega
          have hms2 : (a : Int) * 32 + 32 ≤ (len : Int) := by omega
          have hz : zTo l (32 * a + 32) = l := by
            unfold zTo
            rw [← Hlen.out, show 32 * a + 32 - len = 0 by omega]
            simp
          have hrw4 := HRW.out
          rw [← hz] at hrw4
          have c12 : (wr.alloc (.cells #[.int .i64 (a : Nat), .string (sb x)] 57)).cell? ⟨wr.heap.size, 1, none⟩ = some (.string (sb x)) := cell_at (heap_alloc_new wr _) rfl
          have HB4 := HBW
          obtain ⟨w4, hw4⟩ : ∃ w4, w4 = wr.alloc (.cells #[.int .i64 (a : Nat), .string (sb x)] 57) := ⟨_, rfl⟩
          go_wp2_with fail
          rw [← hw4] at hrw4 c12 HB4 h3 ⊢
          have c3 := h3
          clear hw4
          obtain ⟨L1, hL1⟩ : ∃ L1, L1 = len := ⟨_, rfl⟩
          have hzl : (zTo l (32 * a + 32)).length = L1 := by rw [hz, hL1, Hlen.out]
          obtain ⟨w5, hcp, hrw5, hgr5⟩ := hrw4.drew.over 3 (a * 32) (x.take k) (by rw [hzl, List.length_take]; omega)
          have hex : sb (x.take k) = (sb x).extract 0 k := by rw [sb_extract]; rfl
          rw [hzl, hex] at hcp
          rw [show (x.take k).length = k by rw [List.length_take]; omega] at hcp
          rw [← hL1]
          have HL1 := hid hL1
          have HpL : Hid (L1 = (putB (zTo l (32 * a + 32)) (a * 32) (x.take k)).length) := hid (by
            unfold putB
            simp only [List.length_append, List.length_take, List.length_drop, hzl]
            omega)
          have hk32 : (k : Int) ≤ 32 := by omega
          have hxs : (sb x).size = 32 := by rw [sb_size]; exact hx32
          have hL2 : a * 32 + 32 ≤ L1 := by omega
          have hL3 : ¬ cap = a * 32 := by have := hrw4.le; omega
          have HR5 := hid hrw5
          have HB5 := hid (HB4.out.drew.grown hgr5 HB4.out.drew.size (fun k hk => by cases hk; exact hrw4.1))
          clear hrw4 h1 h2 h3 hL1 hzl hex hrw5 hgr5
          go_region
          go_wp2
          exact ⟨⟨m + 1, by omega, by go_num, _, _, L1, putB (zTo l (32 * a + 32)) (a * 32) (x.take k), rfl, HpL, hid (by rw [Hnext.out]; unfold wrU; rw [if_neg hk0]), HR5, HB5⟩, by simp [intOf]; omega⟩
        · have hms : 0 < (a : Int) * 32 + 32 - (len : Int) := by omega
          obtain ⟨g', cap', w4, hr, hrw4, hgr4⟩ := HRW.out.zeros 25 (32 * a + 32 - len) (by omega) (by have := Hlen.out; omega) HBW.out.size
          rw [← Hlen.out] at hr
          rw [show ((32 * a + 32 - len : Nat) : Int) = (a : Int) * 32 + 32 - (len : Int) by omega] at hr
          go_wp2_with (at_builtin; go_loud (refine wpList_val rfl (exec_app (.tmp 50) (.tmp 51) 25 3 rfl rfl rfl hr) ?_))
          have c12 : w4.cell? ⟨wr.heap.size, 1, none⟩ = some (.string (sb x)) := cell_at ((hgr4.block _ (by simp) (fun e => by cases e; exact absurd HR.out.lt (Nat.lt_irrefl _))).trans (heap_alloc_new wr _)) rfl
          have HB4 := hid (HBW.out.grown hgr4 HBW.out.size (fun k hk => by cases hk; exact HR.out.1))
          have c3 : w4.cell? ⟨bq, oq + m, none⟩ = some (.int .i64 (k : Nat)) := by
            rw [HB4.out.cell (p := ⟨bq, oq + m, none⟩) hbq, ← HBW.out.cell (p := ⟨bq, oq + m, none⟩) hbq]; exact h3
          have hz : zTo l (32 * a + 32) = l ++ List.replicate (32 * a + 32 - len) 0 := by unfold zTo; rw [Hlen.out]
          rw [← hz] at hrw4
          obtain ⟨L1, hL1⟩ : ∃ L1, L1 = len + (32 * a + 32 - len) := ⟨_, rfl⟩
          have hzl : (zTo l (32 * a + 32)).length = L1 := by rw [hz, hL1, Hlen.out]; simp
          obtain ⟨w5, hcp, hrw5, hgr5⟩ := hrw4.drew.over 3 (a * 32) (x.take k) (by rw [hzl, List.length_take]; omega)
          have hex : sb (x.take k) = (sb x).extract 0 k := by rw [sb_extract]; rfl
          rw [hzl, hex] at hcp
          rw [show (x.take k).length = k by rw [List.length_take]; omega] at hcp
          rw [← hL1]
          have HL1 := hid hL1
          have HpL : Hid (L1 = (putB (zTo l (32 * a + 32)) (a * 32) (x.take k)).length) := hid (by
            unfold putB
            simp only [List.length_append, List.length_take, List.length_drop, hzl]
            omega)
          have hk32 : (k : Int) ≤ 32 := by omega
          have hxs : (sb x).size = 32 := by rw [sb_size]; exact hx32
          have hL2 : a * 32 + 32 ≤ L1 := by omega
          have hL3 : ¬ cap' = a * 32 := by have := hrw4.le; omega
          have HR5 := hid hrw5
          have HB5 := hid (HB4.out.drew.grown hgr5 HB4.out.drew.size (fun k hk => by cases hk; exact hrw4.1))
          clear hr hrw4 hgr4 h1 h2 h3 hL1 hzl hex hrw5 hgr5
          go_region
          go_wp2
          exact ⟨⟨m + 1, by omega, by go_num, _, _, L1, putB (zTo l (32 * a + 32)) (a * 32) (x.take k), rfl, HpL, hid (by rw [Hnext.out]; unfold wrU; rw [if_neg hk0]), HR5, HB5⟩, by simp [intOf]; omega⟩
    · have hmk' : m = n := by omega
      subst hmk'
      have htx := HR.out.text
      rw [← Hlen.out] at htx
      go_wp2_with fail
      go_ret2
      refine ⟨?_, HB.out⟩
      have := wrN_all ws ks s HKN.out.symm
      rw [← HN.out, ← Hl.out] at this
      rw [this]
      rfl
set_option maxHeartbeats 8000000 in
set_option maxRecDepth 100000 in
theorem wr_nil (s : List UInt8) (A Aq : Option Addr) (c cq : Nat) (hs : s.length ≤ 1536) (w : World)
    (h15 : Calls Tryd.prog 15 #[.string (sb s)] w fun e w' => e = .returned (.int .i64 0) ∧ Below w.heap.size w w')
    (h20 : ∀ w1, Below w.heap.size w w1 → Calls Tryd.prog 20 #[.slice A 0 c, .slice Aq 0 cq] w1 fun e w' => e = .returned (.int .i64 0) ∧ Below w1.heap.size w1 w') :
    Calls Tryd.prog 7 #[.string (sb s), .slice A 0 c, .slice Aq 0 cq] w fun e w' => e = .returned (.tuple #[.string (sb (wrF s [] [])), .int .i64 0]) ∧ Below w.heap.size w w' := by
  go_enter Tryd.func7, Tryd.ntmps7
  go_wp2_with fail
  refine h15.mono ?_
  rintro e w1 ⟨rfl, hb1⟩
  go_wp2_with fail
  refine (h20 w1 hb1).mono ?_
  rintro e w2 ⟨rfl, hb2⟩
  have HB2 := hid (hb1.trans (hb2.mono hb1.size))
  clear h15 h20 hb1 hb2
  obtain ⟨g0, cap0, w3, hconv, hrw3, hgr3⟩ := Rw.make w2 s w.heap.size HB2.out.size (by omega)
  have HB3 := hid (HB2.out.grown hgr3 HB2.out.size (fun k hk => by cases hk))
  have htx := hrw3.text
  clear hrw3 hgr3
  go_wp2
  go_loopw [10, 30] (fun o i wr => o = .slice (some ⟨g0, 0, none⟩) s.length cap0 ∧ i = .int .i64 ((0 : Nat) : Int) ∧ wr = w3) (fun _ i _ => 0)
  case atStart => exact ⟨rfl, rfl, rfl⟩
  case round =>
    obtain ⟨rfl, rfl, rfl⟩ := hrel
    go_wp2_with fail
    go_ret2
    exact ⟨rfl, HB3.out⟩
end Go.Proofs.YtdehjednpdbhaaaDoor
