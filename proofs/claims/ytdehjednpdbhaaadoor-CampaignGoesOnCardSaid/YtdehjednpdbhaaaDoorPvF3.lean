/- A part of an interpreter of the model's code that is proved sound, and of laws told by it: DamZ3, DamCt2. -/
import Derived.Test.YtdehjednpdbhaaaDoorPvF2
import Derived.Test.YtdehjednpdbhaaaDoorPvD5
import Derived.OwnWalk
set_option linter.unusedVariables false
set_option linter.unusedSimpArgs false
/- Recovered: what the machine does. -/
namespace Go.Proofs.YtdehjednpdbhaaaDoor
open Go.Dam Go.RowKit
set_option linter.unusedVariables false
set_option linter.unusedSimpArgs false
def Z32 : List UInt8 := List.replicate 32 0
def bD (Bs : List (List UInt8)) (k : Nat) : List UInt8 := Bs.getD k []
theorem bD_get (Bs : List (List UInt8)) (k : Nat) (h : k < Bs.length) : bD Bs k = Bs[k] := by
  unfold bD
  rw [List.getD_eq_getElem?_getD, List.getElem?_eq_getElem h]
  rfl
def rcN (E : Nat) (Bs : List (List UInt8)) : Nat → List Wr
  | 0 => []
  | m + 1 => if E ≤ m ∧ bD Bs m ≠ Z32 then rcN E Bs m ++ [(m, Z32)] else rcN E Bs m
theorem rcN_succ (E : Nat) (Bs : List (List UInt8)) (m : Nat) : rcN E Bs (m + 1) = if E ≤ m ∧ bD Bs m ≠ Z32 then rcN E Bs m ++ [(m, Z32)] else rcN E Bs m := rfl
theorem rcN_len (E : Nat) (Bs : List (List UInt8)) : ∀ m, (rcN E Bs m).length ≤ m
  | 0 => Nat.le_refl _
  | m + 1 => by
    have := rcN_len E Bs m
    unfold rcN
    split
    · simp; omega
    · omega
def wrC : List Wr → List Value
  | [] => []
  | w :: l => .int .i64 (w.1 : Nat) :: .string (sb w.2) :: wrC l
theorem wrC_cons (w : Wr) (l : List Wr) : wrC (w :: l) = .int .i64 (w.1 : Nat) :: .string (sb w.2) :: wrC l := rfl
theorem wrC_app : ∀ a b, wrC (a ++ b) = wrC a ++ wrC b
  | [], b => rfl
  | w :: a, b => by
    rw [List.cons_append, wrC_cons, wrC_cons, wrC_app a b]
    rfl
theorem chS_eq {Bs : List (List UInt8)} (h : W32 Bs) (k : Nat) (hk : k < Bs.length) : chS (sb Bs.flatten) k = .string (sb (bD Bs k)) := by
  have h1 := blocks_flat h
  rw [blocks_eq (N := Bs.length) (flat_len h)] at h1
  have h2 : ((List.range Bs.length).map fun j => (Bs.flatten.drop (32 * j)).take 32)[k]? = Bs[k]? := by rw [h1]
  rw [List.getElem?_map, List.getElem?_range hk, List.getElem?_eq_getElem hk] at h2
  simp only [Option.map_some, Option.some.injEq] at h2
  unfold chS
  rw [bD_get Bs k hk, ← h2]
  rfl
theorem i57 : ∃ i, Tryd.prog.info? 57 = some i ∧ i.zero = some (.agg #[.int .i64 0, .string ByteArray.empty]) ∧ i.size = 2 ∧ i.bytes = 24 := by
  have h : (Tryd.prog.info? 57).map (fun i => (i.zero, i.size, i.bytes)) = some (some (.agg #[.int .i64 0, .string ByteArray.empty]), 2, 24) := by kernel_rfl
  obtain ⟨i, hi, hz⟩ := Option.map_eq_some_iff.1 h
  simp only [Prod.mk.injEq] at hz
  exact ⟨i, hi, hz.1, hz.2.1, hz.2.2⟩
theorem u29 : Tryd.prog.underlying 29 = some (.slice 57) := by kernel_rfl
theorem zero_text {w : World} {z : Nat} (h : w.heap[z]? = some (.cells (bc Z32) 60)) : (convert 25 9 (.slice (some ⟨z, 0, none⟩) 32 32)).run Tryd.prog w = .ok (.string (sb Z32)) w := by
  have := run_convert_bytes_back (P := Tryd.prog) w 25 9 5 ⟨z, 0, none⟩ 32 Z32 u25 u5 u9 (fun j hj => by
    have hadd : (⟨z, 0, none⟩ : Addr).add j = ⟨z, j, none⟩ := by unfold Addr.add; split <;> simp_all
    rw [hadd, cellN_of h]
    simp [bc, Lib.byteCells, hj])
  exact this
/-- One more block is written. -/
theorem rc_app {W : World} {base n : Nat} {v : Value} {xs : List Value} (h : rowOf W base 57 2 v n xs) (hn : n ≤ 48) (hb : base ≤ W.heap.size) (m : Nat) (x : List UInt8) (ty : Nat) :
    ∃ v' w', (Builtin.append_ #[29, 29] ty #[v, .slice (some ⟨W.heap.size, 0, none⟩) 1 1]).run Tryd.prog (W.alloc (.cells #[.int .i64 (m : Nat), .string (sb x)] 57)) = .ok v' w' ∧ rowOf w' base 57 2 v' (n + 1) (xs ++ [.int .i64 (m : Nat), .string (sb x)]) ∧ (∀ B, B ≤ base → ∀ w0, Below B w0 W → Below B w0 w') := by
  obtain ⟨i, hi, hz, hs, hby⟩ := i57
  have hnew := heap_alloc_new W (.cells #[.int .i64 (m : Nat), .string (sb x)] 57)
  have hrow : rowOf (W.alloc (.cells #[.int .i64 (m : Nat), .string (sb x)] 57)) base 57 2 v n xs := by
    refine ⟨h.1, h.2.imp id ?_⟩
    rintro ⟨g, cap, cur, fz, h1, h2, h3, h4⟩
    exact ⟨g, cap, cur, fz, h1, h2, (alloc_was W _ g (Array.getElem?_eq_some_iff.1 h3).1).trans h3, h4⟩
  obtain ⟨v', w', hr, hro, hgr, hob, _⟩ := run_append_dam (P := Tryd.prog) base 29 ty 57 i _ 2 24 u29 hi hz hs hby rfl (by decide) v n xs hrow (some ⟨W.heap.size, 0, none⟩) 1 1 [.int .i64 (m : Nat), .string (sb x)] rfl (fun _ => ⟨_, rfl⟩)
    (fun a ha j u hj => by
      cases ha
      match j, hj with
      | 0, hj => simp at hj; subst hj; rw [show (⟨W.heap.size, 0, none⟩ : Addr).add 0 = ⟨W.heap.size, 0, none⟩ from rfl, cellN_of hnew]; rfl
      | 1, hj => simp at hj; subst hj; rw [show (⟨W.heap.size, 0, none⟩ : Addr).add 1 = ⟨W.heap.size, 1, none⟩ from rfl, cellN_of hnew]; rfl)
    (fun u hu => by simp at hu; rcases hu with rfl | rfl <;> rfl) (by simp only [maxLen]; omega) (by omega) (by simp; omega)
  exact ⟨v', w', hr, hro, fun B hB w0 h0 => (h0.alloc (by omega) _).grown hgr (by simp; omega) (fun k hk => by have := (hrow.lt k hk).1; omega)⟩
set_option maxHeartbeats 8000000 in
set_option maxRecDepth 100000 in
theorem rc_walk (Bs : List (List UInt8)) (E N : Nat) (hB : W32 Bs) (hN : N = Bs.length) (hl : N ≤ 48) (hE : E ≤ 48) (w : World) (R16 : Value → World → Prop)
    (h15 : Calls Tryd.prog 15 #[.string (sb Bs.flatten)] w fun e w' => e = .returned (.int .i64 0) ∧ Below w.heap.size w w')
    (h16 : ∀ w1, Below w.heap.size w w1 → Calls Tryd.prog 16 #[.string (sb Bs.flatten)] w1 fun e w' => ∃ A c, e = .returned (.slice A E c) ∧ Below w1.heap.size w1 w' ∧ R16 (.slice A E c) w') :
    Calls Tryd.prog 8 #[.string (sb Bs.flatten)] w fun e w' => ∃ v16 v8 w2, e = .returned (.tuple #[v16, v8, .int .i64 0]) ∧ R16 v16 w2 ∧ Below w.heap.size w w2 ∧ Below w2.heap.size w2 w' ∧ rowOf w' w2.heap.size 57 2 v8 (rcN E Bs N).length (wrC (rcN E Bs N)) := by
  have HB := hid hB
  have HN := hid hN
  have hsz : (sb Bs.flatten).size = 32 * N := by rw [sb_size, flat_len hB, hN]
  clear hB hN
  go_enter Tryd.func8, Tryd.ntmps8
  go_wp2_with fail
  refine h15.mono ?_
  rintro e w1 ⟨rfl, hb1⟩
  go_wp2_with fail
  refine (h16 w1 hb1).mono ?_
  rintro e w2 ⟨A16, c16, rfl, hb2, hR16⟩
  have HB2 := hid (hb1.trans (hb2.mono hb1.size))
  have HR16 := hid hR16
  clear h15 h16 hb1 hb2 hR16
  go_wp2_with fail
  have HB3 := hid (HB2.out.alloc HB2.out.size (.cells (bc Z32) 60))
  have hn3 := heap_alloc_new w2 (.cells (bc Z32) 60)
  have hbl := (callsIn_wide (n := 3)).1 (blk17 3 (by omega) (sb Bs.flatten) N hsz hl (w2.alloc (.cells (bc Z32) 60)))
  refine hbl.mono ?_
  rintro e w3 ⟨v17, rfl, hrow, hb3⟩
  obtain ⟨A17, c17, rfl, hc17, hcell⟩ : ∃ A c, v17 = .slice A N c ∧ N ≤ c ∧ ∀ j, j < N → ∃ g, A = some ⟨g, 0, none⟩ ∧ w3.cell? ⟨g, j, none⟩ = some (.string (sb (bD Bs j))) ∧ g < w3.heap.size := by
    rcases hrow.2 with ⟨rfl, h0⟩ | ⟨g, cap, cur, rfl, hbg, hh, h1, h2, h3, h4⟩
    · exact ⟨none, 0, by rw [h0], by omega, fun j hj => by omega⟩
    · refine ⟨_, cap, rfl, h1, fun j hj => ⟨g, rfl, ?_, (Array.getElem?_eq_some_iff.1 hh).1⟩⟩
      rw [cellN_of hh]
      have h5 : (cur.toList.take (N * 1))[j]? = ((List.finRange N).map fun k => chS (sb Bs.flatten) k.val)[j]? := by rw [h4]
      rw [List.getElem?_take, if_pos (by omega), Array.getElem?_toList] at h5
      rw [h5, List.getElem?_map, List.getElem?_eq_getElem (by rw [List.length_finRange]; exact hj)]
      simp only [Option.map_some, List.getElem_finRange]
      exact congrArg some (chS_eq HB.out j (by have := HN.out; omega))
  have HC := hid hcell
  have hz3 : w3.heap[w2.heap.size]? = some (.cells (bc Z32) 60) := (hb3.block _ (by simp)).trans hn3
  have HZ := hid hz3
  have HW3 := hid (HB2.out.alloc HB2.out.size (.cells (bc Z32) 60) |>.trans (hb3.mono (by have := HB2.out.size; simp; omega)))
  have H23 := hid ((((Below.refl w2.heap.size w2).alloc (Nat.le_refl _) (.cells (bc Z32) 60))).trans (hb3.mono (by simp)))
  have hzl : w2.heap.size < w3.heap.size := by have := hb3.size; simp at this; omega
  clear hbl hcell hz3 hn3 hb3 hrow
  go_wp2_with fail
  go_loopw [8, 21] (fun o i wr => ∃ m : Nat, m ≤ N ∧ i = .int .i64 m ∧ Hid (Below w3.heap.size w3 wr) ∧ Hid (rowOf wr w3.heap.size 57 2 o (rcN E Bs m).length (wrC (rcN E Bs m)))) (fun _ i _ => N - (intOf i).toNat)
  case atStart => exact ⟨0, Nat.zero_le _, rfl, hid (Below.refl _ _), hid ⟨rfl, .inl ⟨rfl, rfl⟩⟩⟩
  case round =>
    obtain ⟨m, hm, rfl, HBW, HR⟩ := hrel
    by_cases hmN : m < N
    · obtain ⟨g, rfl, hcg, hgl⟩ := HC.out m hmN
      rw [← HBW.out.cell (p := ⟨g, m, none⟩) hgl] at hcg
      have htx := zero_text ((HBW.out.block _ hzl).trans HZ.out)
      by_cases hEm : E ≤ m
      · have hEz : (E : Int) ≤ (m : Int) := by omega
        by_cases hZ : bD Bs m = Z32
        · have hr : rcN E Bs (m + 1) = rcN E Bs m := by rw [rcN_succ, if_neg (fun h => h.2 hZ)]
          have Hr := hid hr
          clear hr
          rw [hZ] at hcg
          go_wp2
          exact ⟨⟨m + 1, by omega, by go_num, HBW, by rw [Hr.out]; exact HR⟩, by simp [intOf]; omega⟩
        · have hr : rcN E Bs (m + 1) = rcN E Bs m ++ [(m, Z32)] := by rw [rcN_succ, if_pos ⟨hEm, hZ⟩]
          have Hr := hid hr
          have hne : ((sb (bD Bs m)).toList == (sb Z32).toList) = false := by rw [← beq_toListBytes, sb_beq, decide_eq_false hZ]
          obtain ⟨v', w', hap, hro, hbel⟩ := rc_app HR.out (by have := rcN_len E Bs m; omega) HBW.out.size m Z32 29
          have HRo : Hid (rowOf w' w3.heap.size 57 2 v' (rcN E Bs (m + 1)).length (wrC (rcN E Bs (m + 1)))) := hid (by
            rw [hr, wrC_app, List.length_append]
            exact hro)
          have HBw := hid (hbel _ (Nat.le_refl _) w3 HBW.out)
          clear hr hro hbel hZ
          go_wp2_with (at_builtin; go_loud (refine wpList_val rfl (exec_app (.tmp 36) (.tmp 41) 29 29 rfl rfl rfl hap) ?_))
          exact ⟨⟨m + 1, by omega, by go_num, HBw, HRo⟩, by simp [intOf]; omega⟩
      · have hEz : ¬ ((E : Int) ≤ (m : Int)) := by omega
        have hr : rcN E Bs (m + 1) = rcN E Bs m := by rw [rcN_succ, if_neg (fun h => hEm h.1)]
        have Hr := hid hr
        clear hr
        go_wp2
        exact ⟨⟨m + 1, by omega, by go_num, HBW, by rw [Hr.out]; exact HR⟩, by simp [intOf]; omega⟩
    · have hmk' : m = N := by omega
      subst hmk'
      go_wp2_with fail
      go_ret3
      refine ⟨_, _, w2, rfl, HR16.out, HB2.out, H23.out.trans (HBW.out.mono (by omega)), ?_⟩
      have hr := HR.out
      refine ⟨hr.1, hr.2.imp id ?_⟩
      rintro ⟨g, cap, cur, fz, h1, h2, h3⟩
      exact ⟨g, cap, cur, fz, h1, by omega, h3⟩
end Go.Proofs.YtdehjednpdbhaaaDoor

/- JournalOf, Written, Recovered: what is told of them holds. -/
namespace Go.Proofs.YtdehjednpdbhaaaDoor
open Go.Dam Go.RowKit
set_option linter.unusedVariables false
set_option linter.unusedSimpArgs false
def enOf : AV → Option En
  | .agg [.sc (.string s), .sc (.int .i64 d), .sc (.int .i64 v), .sc (.int .i64 t)] => some ⟨bl s, d, v, t⟩
  | _ => none
def wrOf : AV → Option Wr
  | .agg [.sc (.int .i64 n), .sc (.string s)] => match n with
    | .ofNat n => some (n, bl s)
    | _ => none
  | _ => none
def nOf : AV → Option Nat
  | .sc (.int .i64 n) => match n with
    | .ofNat n => some n
    | _ => none
  | _ => none
def allOf {α : Type} (f : AV → Option α) : List AV → Option (List α)
  | [] => some []
  | a :: l => match f a, allOf f l with
    | some t, some ts => some (t :: ts)
    | _, _ => none
theorem allOf_some {α : Type} {f : AV → Option α} {g : α → AV} (h : ∀ a t, f a = some t → a = g t) : ∀ {l : List AV} {ts : List α}, allOf f l = some ts → l = ts.map g
  | [], ts, e => by cases e; rfl
  | a :: l, ts, e => by
    unfold allOf at e
    split at e
    · rename_i t ts' h1 h2
      cases e
      rw [h _ _ h1, allOf_some h h2]
      rfl
    · cases e
theorem allOf_map {α : Type} {f : AV → Option α} {g : α → AV} (h : ∀ t, f (g t) = some t) : ∀ ts : List α, allOf f (ts.map g) = some ts
  | [] => rfl
  | t :: ts => by
    show (match f (g t), allOf f (ts.map g) with | some t, some ts => some (t :: ts) | _, _ => none) = _
    rw [h t, allOf_map h ts]
theorem enOf_some (a : AV) (t : En) (h : enOf a = some t) : a = enA t := by
  unfold enOf at h
  split at h
  · cases h; rfl
  · cases h
theorem wrOf_some (a : AV) (t : Wr) (h : wrOf a = some t) : a = wA t := by
  unfold wrOf at h
  split at h
  · split at h
    · cases h; rfl
    · cases h
  · cases h
theorem nOf_some (a : AV) (t : Nat) (h : nOf a = some t) : a = I (t : Int) := by
  unfold nOf at h
  split at h
  · split at h
    · cases h; rfl
    · cases h
  · cases h
def okWr (w : Wr) : Bool := decide (w.1 < 48) && decide (w.2.length = 32)
def extJn : List AV → Option AV
  | [.sl 46 l] => match allOf enOf l with
    | some es => if es.length ≤ 48 ∧ errL es = 0 then some (.tup [.sc (.string (sb (jrn es).flatten)), .sc (.int .i64 0)]) else none
    | none => none
  | _ => none
def extWr : List AV → Option AV
  | [.sc (.string s), .sl 57 l, .sl 3 m] => match allOf wrOf l, allOf nOf m with
    | some ws, some ks => if (bl s).length ≤ 1536 ∧ (bl s).length % 32 = 0 ∧ ws.length ≤ 96 ∧ ks.length = ws.length ∧ ws.all okWr = true ∧ (ks.all fun k => decide (k ≤ 32)) = true then some (.tup [.sc (.string (sb (wrF (bl s) ws ks))), .sc (.int .i64 0)]) else none
    | _, _ => none
  | _ => none
def extRc : List AV → Option AV
  | [.sc (.string s)] => if (bl s).length ≤ 1536 ∧ (bl s).length % 32 = 0 then some (.tup [.sl 46 ((entB (blocksL (bl s))).map enA), .sl 57 ((rcN (entB (blocksL (bl s))).length (blocksL (bl s)) (blocksL (bl s)).length).map wA), .sc (.int .i64 0)]) else none
  | _ => none
theorem chunk_back : ∀ (k N : Nat) (l : List UInt8), l.length = 32 * N → N ≤ k → W32 (chunkL k l) ∧ (chunkL k l).flatten = l ∧ (chunkL k l).length = N
  | 0, N, l, h, hk => by
    have : l = [] := List.eq_nil_of_length_eq_zero (by omega)
    subst this
    have h0 : N = 0 := by simp at h; omega
    subst h0
    exact ⟨(fun b hb => by cases hb), rfl, rfl⟩
  | k + 1, N, l, h, hk => by
    unfold chunkL
    cases N with
    | zero =>
      have : l = [] := List.eq_nil_of_length_eq_zero (by omega)
      subst this
      exact ⟨(fun b hb => by cases hb), rfl, rfl⟩
    | succ N =>
      have hne : l.isEmpty = false := by
        cases l with
        | nil => simp at h
        | cons => rfl
      rw [hne]
      obtain ⟨h1, h2, h3⟩ := chunk_back k N (l.drop 32) (by rw [List.length_drop]; omega) (by omega)
      refine ⟨fun b hb => ?_, ?_, ?_⟩
      · rcases List.mem_cons.mp hb with rfl | hb
        · rw [List.length_take]; omega
        · exact h1 b hb
      · show (l.take 32 :: chunkL k (l.drop 32)).flatten = l
        rw [List.flatten_cons, h2, List.take_append_drop]
      · show (l.take 32 :: chunkL k (l.drop 32)).length = N + 1
        rw [List.length_cons, h3]
theorem blocks_back {l : List UInt8} (h : l.length % 32 = 0) (h2 : l.length ≤ 1536) : W32 (blocksL l) ∧ (blocksL l).flatten = l ∧ (blocksL l).length ≤ 48 := by
  obtain ⟨h3, h4, h5⟩ := chunk_back l.length (l.length / 32) l (by omega) (by omega)
  exact ⟨h3, h4, by unfold blocksL; omega⟩
theorem frz_sl {C : Tab} {S : Nat → Prop} {w : World} {v : Value} {T : Nat} {l : List AV} (h : FrzV C S w v (.sl T l)) : ∃ (A : Option Addr) (cap s b : Nat) (z : List AV) (ad : Addr) (cv : Nat → Nat → Value), v = .slice A l.length cap ∧ C.info T = some (z, s, b) ∧ l.length ≤ cap ∧ (0 < l.length → A = some ad ∧ S ad.block ∧ ad.spot = none) ∧ ∀ i j, i < l.length → j < s → w.cell? (Addr.add ad (i * s + j)) = some (cv i j) ∧ Frz C S w (cv i j) (elCell C T (l.getD i .undef) j) := by
  rcases h with ⟨_, _, _, e, _⟩ | h
  · simp at e
  · cases h with
    | sl T l A cap s b z ad cv hi hcap hm hA hc hp hr => exact ⟨A, cap, s, b, z, ad, cv, rfl, hi, hcap, hA, fun i j hi hj => ⟨hc i j hi hj, hr i j hi hj⟩⟩
end Go.Proofs.YtdehjednpdbhaaaDoor
