/- A part of an interpreter of the model's code that is proved sound, and of laws told by it: DamTbl, DamTblC. -/
import Derived.Test.YtahifpeggdcamaaGreatDoorChecked
import Derived.WalkKit
import Derived.WalkSpells
import Derived.LoopTactic
import Derived.Deep.OwnRows
import Derived.Outline
import Derived.Test.YtahifpeggdcamaaGreatDoorPrD3
set_option linter.unusedVariables false
set_option linter.unusedSimpArgs false
/- The table of a machine's steps: what the machine does. -/
namespace Go.Proofs.YtahifpeggdcamaaGreatDoor
open Go.RowKit
set_option linter.unusedVariables false
set_option linter.unusedSimpArgs false
theorem hid2 {p : Prop} (h : p) : Hid p := h
theorem u119 : Tryz.prog.underlying 80 = some (.slice 83) := by kernel_rfl
theorem u121 : Tryz.prog.underlying 83 = some (.slice 82) := by kernel_rfl
theorem i121 : (Tryz.prog.info? 83).map (fun i => (i.zero, i.size, i.bytes)) = some (some (.slice none 0 0), 1, 24) := by kernel_rfl
theorem i122 : (Tryz.prog.info? 82).map (fun i => (i.zero, i.size, i.bytes)) = some (some (.pointer none), 1, 8) := by kernel_rfl
theorem madeRow (z : Value) (n j : Nat) (h : j < n) : (madeCells #[z] n)[j]? = some z := by
  unfold madeCells
  rw [Array.getElem?_map]
  simp [h, Nat.mod_one]
theorem madeRow_size (z : Value) (n : Nat) : (madeCells #[z] n).size = n := size_madeCells _ _
theorem cell_of {w : World} {b j : Nat} {c : Array Value} {e : TypeId} {v : Value} (h : w.heap[b]? = some (.cells c e)) (hj : c[j]? = some v) : w.cell? ⟨b, j, none⟩ = some v := by
  unfold World.cell?; simp [h, hj]
theorem froz_of {w : World} {b j : Nat} {c : Array Value} {e : TypeId} (h : w.heap[b]? = some (.cells c e)) : w.frozen? ⟨b, j, none⟩ = false := by
  unfold World.frozen?; simp [h]
theorem set_at {w : World} {b j : Nat} {c : Array Value} {e : TypeId} {v : Value} (h : w.heap[b]? = some (.cells c e)) : (w.setCell ⟨b, j, none⟩ v).heap[b]? = some (.cells (c.setIfInBounds j v) e) := by
  simp [World.setCell, Array.getElem?_modify, h]
theorem set_off {w : World} {b b' j : Nat} {v : Value} (h : b' ≠ b) : (w.setCell ⟨b, j, none⟩ v).heap[b']? = w.heap[b']? := Below.heap_setCell _ _ _ _ h
theorem set_size {w : World} {a : Addr} {v : Value} : (w.setCell a v).heap.size = w.heap.size := by simp [World.setCell]
theorem alloc_size {w : World} {o : Obj} : (w.alloc o).heap.size = w.heap.size + 1 := by simp
theorem alloc_off {w : World} {o : Obj} {b : Nat} (h : b < w.heap.size) : (w.alloc o).heap[b]? = w.heap[b]? := Below.heap_alloc _ _ _ h
structure T1 (w : World) (S N : Nat) (bx : Array Value) (k : Nat) (wr : World) : Prop where
  size : wr.heap.size = w.heap.size + 2 + k
  below : Below w.heap.size w wr
  box : wr.heap[w.heap.size]? = some (.cells bx 24)
  tbl : ∃ c, wr.heap[w.heap.size + 1]? = some (.cells c 83) ∧ c.size = S ∧ ∀ f, f < S → c[f]? = some (if f < k then .slice (some ⟨w.heap.size + 2 + f, 0, none⟩) N N else .slice none 0 0)
  rows : ∀ f, f < k → wr.heap[w.heap.size + 2 + f]? = some (.cells (madeCells #[.pointer none] N) 82)
theorem T1.start (w : World) (S N : Nat) (bx : Array Value) : T1 w S N bx 0 ((w.alloc (.cells bx 24)).alloc (.cells (madeCells #[.slice none 0 0] S) 83)) := by
  refine ⟨by simp, ((Below.refl _ w).alloc (Nat.le_refl _) _).alloc (by simp) _, ?_, ⟨madeCells #[.slice none 0 0] S, ?_, madeRow_size _ _, fun f hf => ?_⟩, fun f hf => by omega⟩
  · rw [alloc_off (by simp)]; exact heap_alloc_new w _
  · have := heap_alloc_new (w.alloc (.cells bx 24)) (.cells (madeCells #[.slice none 0 0] S) 83)
    rwa [alloc_size] at this
  · rw [if_neg (by omega)]; exact madeRow _ _ _ hf
theorem T1.step {w : World} {S N : Nat} {bx : Array Value} {k : Nat} {wr : World} (h : T1 w S N bx k wr) (hk : k < S) :
    T1 w S N bx (k + 1) ((wr.alloc (.cells (madeCells #[.pointer none] N) 82)).setCell ⟨w.heap.size + 1, k, none⟩ (.slice (some ⟨wr.heap.size, 0, none⟩) N N)) := by
  obtain ⟨h1, h2, h3, ⟨c, h4, h5, h6⟩, h7⟩ := h
  refine ⟨by rw [set_size, alloc_size]; omega, (h2.alloc (by omega) _).setCell (by simp) _, ?_, ⟨c.setIfInBounds k (.slice (some ⟨wr.heap.size, 0, none⟩) N N), ?_, by simpa using h5, fun f hf => ?_⟩, fun f hf => ?_⟩
  · rw [set_off (by omega), alloc_off (by omega)]; exact h3
  · exact set_at (by rw [alloc_off (by omega)]; exact h4)
  · rw [Array.getElem?_setIfInBounds]
    by_cases e : k = f
    · subst e
      rw [if_pos rfl, if_pos (by omega), if_pos (by omega), h1]
    · rw [if_neg e, h6 f hf]
      by_cases e2 : f < k
      · rw [if_pos e2, if_pos (by omega)]
      · rw [if_neg e2, if_neg (by omega)]
  · rw [set_off (by omega)]
    by_cases e : f = k
    · subst e
      rw [← h1]; exact heap_alloc_new _ _
    · rw [alloc_off (by omega)]; exact h7 f (by omega)
def lastIx (F I : Nat → Nat) : Nat → Nat → Nat → Option Nat
  | 0, _, _ => none
  | k + 1, f, i => if F k = f ∧ I k = i then some k else lastIx F I k f i
def ptrV (B : Nat) (x : Option Nat) : Value := .pointer (x.map fun j => ⟨B + j, 0, none⟩)
def stepC (F I : Nat → Nat) (O T : Nat → Int) (j : Nat) : Array Value := #[.int .i64 (F j), .int .i64 (I j), .int .i64 (O j), .int .i64 (T j)]
structure T2 (w : World) (S N : Nat) (F I : Nat → Nat) (O T : Nat → Int) (k : Nat) (wr : World) : Prop where
  size : wr.heap.size = w.heap.size + 2 + S + k
  below : Below w.heap.size w wr
  tbl : ∃ c, wr.heap[w.heap.size + 1]? = some (.cells c 83) ∧ ∀ f, f < S → c[f]? = some (.slice (some ⟨w.heap.size + 2 + f, 0, none⟩) N N)
  rows : ∀ f, f < S → ∃ c, wr.heap[w.heap.size + 2 + f]? = some (.cells c 82) ∧ c.size = N ∧ ∀ i, i < N → c[i]? = some (ptrV (w.heap.size + 2 + S) (lastIx F I k f i))
  steps : ∀ j, j < k → wr.heap[w.heap.size + 2 + S + j]? = some (.cells (stepC F I O T j) 75)
theorem T2.start {w : World} {S N : Nat} {bx : Array Value} {wr : World} (h : T1 w S N bx S wr) (F I : Nat → Nat) (O T : Nat → Int) : T2 w S N F I O T 0 wr := by
  obtain ⟨h1, h2, h3, ⟨c, h4, h5, h6⟩, h7⟩ := h
  exact ⟨h1, h2, ⟨c, h4, fun f hf => by rw [h6 f hf, if_pos hf]⟩, fun f hf => ⟨_, h7 f hf, madeRow_size _ _, fun i hi => madeRow _ _ _ hi⟩, fun j hj => by omega⟩
theorem T2.drew {w : World} {S N : Nat} {F I : Nat → Nat} {O T : Nat → Int} {k : Nat} {wr : World} (h : T2 w S N F I O T k wr) : T2 w S N F I O T k wr.drew :=
  ⟨h.size, h.below.drew, h.tbl, h.rows, h.steps⟩
theorem T2.step {w : World} {S N : Nat} {F I : Nat → Nat} {O T : Nat → Int} {k : Nat} {wr : World} (h : T2 w S N F I O T k wr) (hF : F k < S) (hI : I k < N) :
    T2 w S N F I O T (k + 1) ((wr.alloc (.cells (stepC F I O T k) 75)).setCell ⟨w.heap.size + 2 + F k, I k, none⟩ (.pointer (some ⟨wr.heap.size, 0, none⟩))) := by
  obtain ⟨h1, h2, ⟨c, h3, h4⟩, h5, h6⟩ := h
  refine ⟨by rw [set_size, alloc_size]; omega, (h2.alloc (by omega) _).setCell (by simp; omega) _, ⟨c, ?_, h4⟩, fun f hf => ?_, fun j hj => ?_⟩
  · rw [set_off (by omega), alloc_off (by omega)]; exact h3
  · obtain ⟨r, r1, r2, r3⟩ := h5 f hf
    by_cases e : f = F k
    · subst e
      refine ⟨r.setIfInBounds (I k) (.pointer (some ⟨wr.heap.size, 0, none⟩)), set_at (by rw [alloc_off (by omega)]; exact r1), by simpa using r2, fun i hi => ?_⟩
      rw [Array.getElem?_setIfInBounds]
      unfold lastIx
      by_cases e2 : I k = i
      · subst e2
        rw [if_pos rfl, if_pos (by omega), if_pos ⟨rfl, rfl⟩, h1]
        rfl
      · rw [if_neg e2, if_neg (by intro h; exact e2 h.2)]
        exact r3 i hi
    · refine ⟨r, by rw [set_off (by omega), alloc_off (by omega)]; exact r1, r2, fun i hi => ?_⟩
      unfold lastIx
      rw [if_neg (by intro h; exact e h.1.symm)]
      exact r3 i hi
  · rw [set_off (by omega)]
    by_cases e : j = k
    · subst e
      rw [← h1]; exact heap_alloc_new _ _
    · rw [alloc_off (by omega)]; exact h6 j (by omega)
set_option maxHeartbeats 4000000 in
set_option maxRecDepth 100000 in
theorem table1 (S N n c : Nat) (o t : Int) (A : Option Addr) (w : World) (hS : S ≤ 1000) (hN : N ≤ 1000) (F I : Nat → Nat) (O T : Nat → Int) (bk of : Nat) (hA : 0 < n → A = some ⟨bk, of, none⟩ ∧ bk < w.heap.size)
    (hc : ∀ k, k < n → w.cell? ⟨bk, of + k * 4, none⟩ = some (.int .i64 (F k)) ∧ w.cell? ⟨bk, of + k * 4 + 1, none⟩ = some (.int .i64 (I k)) ∧ w.cell? ⟨bk, of + k * 4 + 2, none⟩ = some (.int .i64 (O k)) ∧ w.cell? ⟨bk, of + k * 4 + 3, none⟩ = some (.int .i64 (T k)))
    (hin : ∀ k, k < n → F k < S ∧ I k < N) (hn : n ≤ 100000) :
    Calls Tryz.prog 36 #[.agg #[.int .i64 S, .int .i64 N, .int .i64 o, .int .i64 t, .slice A n c]] w fun e w' => e = .returned (.slice (some ⟨w.heap.size + 1, 0, none⟩) S S) ∧ T2 w S N F I O T n w' := by
  have HC := hid2 hc
  have HA := hid2 hA
  have HI := hid2 hin
  clear hc hA hin
  have mkT := run_make_row' (P := Tryz.prog) 80 83 (.slice none 0 0) 24 u119 i121 rfl .i64 .i64 S (by omega) (by omega)
  have mkR := run_make_row' (P := Tryz.prog) 83 82 (.pointer none) 8 u121 i122 rfl .i64 .i64 N (by omega) (by omega)
  go_enter Tryz.func36, Tryz.ntmps36
  go_wp2_with fail
  go_loopw [12] (fun i wr => ∃ k : Nat, k ≤ S ∧ i = .int .i64 k ∧ Hid (T1 w S N #[.int .i64 S, .int .i64 N, .int .i64 o, .int .i64 t, .slice A n c] k wr)) (fun i _ => S - (intOf i).toNat)
  case atStart => exact ⟨0, Nat.zero_le _, rfl, hid2 (T1.start w S N _)⟩
  case round =>
    obtain ⟨k, hk, rfl, HT⟩ := hrel
    by_cases hks : k < S
    · have hN1 := cell_of (j := 1) HT.out.box rfl
      obtain ⟨cc, t1, t2, t3⟩ := HT.out.tbl
      have hsz := HT.out.size
      have hold : (wr.alloc (.cells (madeCells #[.pointer none] N) 82)).cell? ⟨w.heap.size + 1, k, none⟩ = some (.slice none 0 0) := cell_of (by rw [alloc_off (by omega)]; exact t1) (by rw [t3 k hks, if_neg (by omega)])
      have hfr : (wr.alloc (.cells (madeCells #[.pointer none] N) 82)).frozen? ⟨w.heap.size + 1, k, none⟩ = false := froz_of (by rw [alloc_off (by omega)]; exact t1)
      have HS := hid2 (HT.out.step hks)
      clear t1 t2 t3 hsz
      go_wp2
      exact ⟨⟨k + 1, by omega, by go_num, HS⟩, by simp [intOf]; omega⟩
    · have hke : k = S := by omega
      subst hke
      have h4 := cell_of (j := 4) HT.out.box rfl
      go_wp2_with fail
      have H2 := hid2 (T2.start HT.out F I O T)
      clear h4
      go_loopw [25] (fun i wr => ∃ j : Nat, j ≤ n ∧ i = .int .i64 j ∧ Hid (T2 w k N F I O T j wr)) (fun i _ => n - (intOf i).toNat)
      case atStart => exact ⟨0, Nat.zero_le _, rfl, H2⟩
      case round =>
        obtain ⟨j, hj, rfl, HQ⟩ := hrel
        by_cases hjn : j < n
        · obtain ⟨rfl, hbk⟩ := HA.out (by omega)
          obtain ⟨c0, c1, c2, c3⟩ := HC.out j hjn
          have hB := HQ.out.below
          rw [← hB.cell (p := ⟨bk, _, none⟩) hbk] at c0 c1 c2 c3
          clear hB
          obtain ⟨hF, hI⟩ := HI.out j hjn
          obtain ⟨tc, ht1, ht2⟩ := HQ.out.tbl
          obtain ⟨rc, hr1, hr2, hr3⟩ := HQ.out.rows (F j) hF
          have hsz := HQ.out.size
          obtain ⟨w1, hw1⟩ : ∃ w1, w1 = wr.alloc (.cells (stepC F I O T j) 75) := ⟨_, rfl⟩
          obtain ⟨nb, hnb⟩ : ∃ nb, nb = wr.heap.size := ⟨_, rfl⟩
          have d0 : w1.cell? ⟨nb, 0, none⟩ = some (.int .i64 (F j)) := by rw [hw1, hnb]; exact cell_of (heap_alloc_new _ _) rfl
          have d1 : w1.cell? ⟨nb, 1, none⟩ = some (.int .i64 (I j)) := by rw [hw1, hnb]; exact cell_of (heap_alloc_new _ _) rfl
          have d2 : w1.cell? ⟨w.heap.size + 1, F j, none⟩ = some (.slice (some ⟨w.heap.size + 2 + F j, 0, none⟩) N N) := by rw [hw1]; exact cell_of (by rw [alloc_off (by omega)]; exact ht1) (ht2 _ hF)
          have d3 : w1.cell? ⟨w.heap.size + 2 + F j, I j, none⟩ = some (ptrV (w.heap.size + 2 + k) (lastIx F I j (F j) (I j))) := by rw [hw1]; exact cell_of (by rw [alloc_off (by omega)]; exact hr1) (hr3 _ hI)
          have d4 : w1.frozen? ⟨w.heap.size + 2 + F j, I j, none⟩ = false := by rw [hw1]; exact froz_of (by rw [alloc_off (by omega)]; exact hr1)
          have HW := hid2 hw1
          have HN := hid2 hnb
          clear ht1 ht2 hr1 hr2 hr3 hsz hw1 hnb
          go_wp2_with fail
          have e1 : wr.alloc (.cells #[.int .i64 (F j), .int .i64 (I j), .int .i64 (O j), .int .i64 (T j)] 75) = w1 := HW.out.symm
          rw [e1]
          rw [← HN.out]
          clear e1
          go_region
          all_goals go_wp2
          all_goals (refine ⟨⟨j + 1, by omega, by go_num, ?_⟩, by simp [intOf]; omega⟩)
          have := (HQ.out.step hF hI).drew
          rw [HN.out, HW.out]
          exact hid2 this
        · have hje : j = n := by omega
          subst hje
          go_wp2
          go_ret
          exact ⟨rfl, HQ.out⟩
end Go.Proofs.YtahifpeggdcamaaGreatDoor

/- The table of a machine's steps: its contract. -/
namespace Go.Proofs.YtahifpeggdcamaaGreatDoor
open Go.Dam Go.RowKit
set_option linter.unusedVariables false
set_option linter.unusedSimpArgs false
def avQ (x : Q4) : AV := .agg [.sc (.int .i64 x.1), .sc (.int .i64 x.2.1), .sc (.int .i64 x.2.2.1), .sc (.int .i64 x.2.2.2)]
theorem dec4_some {a : AV} {x : Q4} (h : dec4 a = some x) : a = avQ x := by
  unfold dec4 at h
  split at h
  · cases h; rfl
  · cases h
theorem decAll_some : ∀ {l : List AV} {xs : List Q4}, decAll l = some xs → l = xs.map avQ
  | [], xs, h => by cases h; rfl
  | a :: l, xs, h => by
    unfold decAll at h
    split at h
    · rename_i x hx
      split at h
      · rename_i ys hy
        cases h
        rw [dec4_some hx, decAll_some hy]; rfl
      · cases h
    · cases h
def fQ (xs : List Q4) (k : Nat) : Nat := (xs.getD k (0, 0, 0, 0)).1.toNat
def iQ (xs : List Q4) (k : Nat) : Nat := (xs.getD k (0, 0, 0, 0)).2.1.toNat
def oQ (xs : List Q4) (k : Nat) : Int := (xs.getD k (0, 0, 0, 0)).2.2.1
def tQ (xs : List Q4) (k : Nat) : Int := (xs.getD k (0, 0, 0, 0)).2.2.2
theorem last_take {S N : Int} {xs : List Q4} (hin : xs.all (inTbl S N) = true) (f i : Nat) : ∀ k, k ≤ xs.length →
    lastQ (xs.take k) f i = (lastIx (fQ xs) (iQ xs) k f i).map fun j => xs.getD j (0, 0, 0, 0)
  | 0, _ => rfl
  | k + 1, hk => by
    have hlt : k < xs.length := by omega
    have hx := List.all_eq_true.1 hin _ (List.getElem_mem hlt)
    simp only [inTbl, Bool.and_eq_true, decide_eq_true_eq] at hx
    have hg : xs.getD k (0, 0, 0, 0) = xs[k] := by simp [List.getD_eq_getElem?_getD, hlt]
    have ih := last_take hin f i k (by omega)
    unfold lastQ at *
    rw [List.take_succ_eq_append_getElem hlt, List.reverse_append]
    simp only [List.reverse_cons, List.reverse_nil, List.nil_append, List.singleton_append]
    unfold lastIx
    by_cases h : (xs[k].1 == (f : Int) && xs[k].2.1 == (i : Int)) = true
    · rw [List.find?_cons_of_pos (by exact h)]
      simp only [Bool.and_eq_true, beq_iff_eq] at h
      rw [if_pos (by unfold fQ iQ; rw [hg]; omega)]
      rw [Option.map_some, hg]
    · rw [List.find?_cons_of_neg (by exact h), ih]
      rw [if_neg]
      unfold fQ iQ
      rw [hg]
      intro hh
      apply h
      simp only [Bool.and_eq_true, beq_iff_eq]
      omega
theorem last_all {S N : Int} {xs : List Q4} (hin : xs.all (inTbl S N) = true) (f i : Nat) : lastQ xs f i = (lastIx (fQ xs) (iQ xs) xs.length f i).map fun j => xs.getD j (0, 0, 0, 0) := by
  have := last_take hin f i xs.length (Nat.le_refl _)
  rwa [List.take_length] at this
theorem lastIx_lt {F I : Nat → Nat} : ∀ {k f i j : Nat}, lastIx F I k f i = some j → j < k
  | 0, f, i, j, h => by cases h
  | k + 1, f, i, j, h => by
    unfold lastIx at h
    split at h
    · cases h; omega
    · have := lastIx_lt h; omega
section
variable {C : Tab}
theorem frz_int {S : Nat → Prop} {w : World} {v : Value} {n : Int} (h : Frz C S w v (.sc (.int .i64 n))) : v = .int .i64 n := frz_scv h
set_option maxRecDepth 100000 in
theorem table_contract (hres : C.res 36 = [80]) (hflat : C.flat 80 = false) (hrt : C.roF 36 = true) (hag : isAggT C 80 = some false) (hag97 : isAggT C 75 = some true) (hag121 : isAggT C 83 = some false) (hag122 : isAggT C 82 = some false)
    {z97 : List AV} (hi97 : C.info 75 = some (z97, 4, 32)) (hi121 : C.info 83 = some ([.sl 82 []], 1, 24)) (hi122 : C.info 82 = some ([.sc (.pointer none)], 1, 8))
    {args : List AV} {r : AV} (h : extTable 75 83 82 args = some r) : Contract C Tryz.prog 36 args r := by
  unfold extTable at h
  split at h
  case h_2 => simp at h
  rename_i Sz Nz o t T' l
  split at h
  case isFalse => simp at h
  rename_i hc
  simp only [Bool.and_eq_true, decide_eq_true_eq, Nat.ble_eq] at hc
  obtain ⟨hT, hs1, hs2, hn1, hn2, hlen⟩ := hc
  obtain rfl := Nat.eq_of_beq_eq_true hT
  split at h
  case h_2 => simp at h
  rename_i xs hxs
  obtain rfl := decAll_some hxs
  split at h
  case isFalse => simp at h
  rename_i hin
  simp only [Option.some.injEq] at h
  subst h
  obtain ⟨S, rfl⟩ : ∃ S : Nat, Sz = S := ⟨Sz.toNat, by omega⟩
  obtain ⟨N, rfl⟩ : ∃ N : Nat, Nz = N := ⟨Nz.toNat, by omega⟩
  simp only [Int.toNat_natCast, List.length_map] at *
  intro vals w Gin hGin ⟨hl, hargs⟩
  obtain ⟨v, hv⟩ : ∃ v, vals.toList = [v] := List.length_eq_one_iff.1 (by simpa using hl)
  have h0 := (hargs 0 (by simp)).1
  rw [hv] at h0
  simp only [List.getD_cons_zero] at h0
  have hva : vals = #[v] := by cases vals; simp only at hv; rw [hv]
  subst hva
  rcases h0 with ⟨vs, la, rfl, hla, hsz, hcs⟩ | hbad
  case inr => cases hbad
  obtain rfl := (AV.agg.injEq _ _).mp hla.symm
  have hsz5 : vs.size = 5 := by simpa using hsz.symm
  have c0 := frz_int (hcs 0 (by omega))
  have c1 := frz_int (hcs 1 (by omega))
  have c2 := frz_int (hcs 2 (by omega))
  have c3 := frz_int (hcs 3 (by omega))
  have c4 : Frz C (fun b => b < w.heap.size) w (vs.getD 4 undef) (.sl 75 (xs.map avQ)) := hcs 4 (by omega)
  obtain ⟨A, cap, s', b', z', ad, cv, hvv, hi', h1, h2, hA, hcell, hp, hr⟩ := c4.slice
  rw [hi97] at hi'; cases hi'
  have hvs : vs = #[.int .i64 S, .int .i64 N, .int .i64 o, .int .i64 t, .slice A xs.length cap] := by
    apply Array.ext (by simp [hsz5])
    intro i h1 h2
    have hi5 : i < 5 := by omega
    have e : ∀ j, (hj : j < vs.size) → vs[j] = vs.getD j undef := fun j hj => by simp [Array.getD, hj]
    rw [e i h1]
    simp only [List.length_map] at hvv
    match i, hi5 with
    | 0, _ => rw [c0]; rfl
    | 1, _ => rw [c1]; rfl
    | 2, _ => rw [c2]; rfl
    | 3, _ => rw [c3]; rfl
    | 4, _ => rw [hvv]; rfl
  subst hvs
  obtain ⟨bk, of, sp⟩ := ad
  have hx : ∀ k, (hk : k < xs.length) → xs.getD k (0, 0, 0, 0) = xs[k] := fun k hk => by simp [List.getD_eq_getElem?_getD, hk]
  have hxin : ∀ k, (hk : k < xs.length) → 0 ≤ xs[k].1 ∧ xs[k].1 < S ∧ 0 ≤ xs[k].2.1 ∧ xs[k].2.1 < N := fun k hk => by
    have := List.all_eq_true.1 hin _ (List.getElem_mem hk)
    simpa only [inTbl, Bool.and_eq_true, decide_eq_true_eq] using this
  simp only [List.length_map] at hA hcell hr hp
  have hcl : ∀ k j, k < xs.length → j < 4 → ∀ n : Int, cellN (avQ (xs.getD k (0, 0, 0, 0))) j = .sc (.int .i64 n) → w.cell? ⟨bk, of + (k * 4 + j), none⟩ = some (.int .i64 n) := by
    intro k j hk hj n hn
    obtain ⟨_, _, hsp⟩ := hA (by omega)
    subst hsp
    have e1 := hcell k j hk hj
    have e2 := hr k j hk hj
    have e3 : elCell C 75 ((xs.map avQ).getD k .undef) j = .sc (.int .i64 n) := by
      have : (xs.map avQ).getD k .undef = avQ (xs.getD k (0, 0, 0, 0)) := by simp [List.getD_eq_getElem?_getD, hk]
      rw [this]
      unfold elCell
      rw [hag97]
      exact hn
    rw [e3] at e2
    rw [frz_int e2, Addr.add_none rfl] at e1
    exact e1
  have walk := table1 S N xs.length cap o t A w (by omega) (by omega) (fQ xs) (iQ xs) (oQ xs) (tQ xs) bk of
    (fun h => by
      obtain ⟨a1, a2, a3⟩ := hA h
      subst a3
      exact ⟨a1, a2⟩)
    (fun k hk => by
      have hb := hxin k hk
      have e0 : ((fQ xs k : Nat) : Int) = xs[k].1 := by unfold fQ; rw [hx k hk]; omega
      have e1 : ((iQ xs k : Nat) : Int) = xs[k].2.1 := by unfold iQ; rw [hx k hk]; omega
      refine ⟨hcl k 0 hk (by omega) _ ?_, hcl k 1 hk (by omega) _ ?_, hcl k 2 hk (by omega) _ ?_, hcl k 3 hk (by omega) _ ?_⟩
      · rw [e0, hx k hk]; rfl
      · rw [e1, hx k hk]; rfl
      · rfl
      · rfl)
    (fun k hk => by
      have hb := hxin k hk
      unfold fQ iQ
      rw [hx k hk]; omega) hlen
  refine calls_to Tryz.func36 (by kernel_rfl) (by kernel_rfl) walk fun e w' he => ?_
  obtain ⟨rfl, hT2⟩ := he
  refine ⟨_, rfl, fun b => w.heap.size ≤ b ∧ b < w'.heap.size, hT2.below, fun b hb => ⟨hb.2, fun hlt => by omega⟩, ?_⟩
  have hsize := hT2.size
  obtain ⟨tc, ht1, ht2⟩ := hT2.tbl
  -- each pointer
  have hptr : ∀ f i, f < S → i < N → Frz C (fun b => w.heap.size ≤ b ∧ b < w'.heap.size) w' (ptrV (w.heap.size + 2 + S) (lastIx (fQ xs) (iQ xs) xs.length f i)) (ptrQ (lastQ xs f i)) := by
    intro f i hf hi
    rw [last_all hin f i]
    cases hq : lastIx (fQ xs) (iQ xs) xs.length f i with
    | none => exact .sc _ rfl
    | some j =>
      have hj := lastIx_lt hq
      have hb := hxin j hj
      have hst := hT2.steps j hj
      have e0 : ((fQ xs j : Nat) : Int) = xs[j].1 := by unfold fQ; rw [hx j hj]; omega
      have e1 : ((iQ xs j : Nat) : Int) = xs[j].2.1 := by unfold iQ; rw [hx j hj]; omega
      have e2 : oQ xs j = xs[j].2.2.1 := by unfold oQ; rw [hx j hj]
      have e3 : tQ xs j = xs[j].2.2.2 := by unfold tQ; rw [hx j hj]
      simp only [Option.map_some, ptrV, ptrQ, hx j hj]
      have hsc : stepC (fQ xs) (iQ xs) (oQ xs) (tQ xs) j = #[.int .i64 xs[j].1, .int .i64 xs[j].2.1, .int .i64 xs[j].2.2.1, .int .i64 xs[j].2.2.2] := by
        unfold stepC; rw [e0, e1, e2, e3]
      rw [hsc] at hst
      refine .ref _ _ 0 (fun j' => match j' with | 0 => .int .i64 xs[j].1 | 1 => .int .i64 xs[j].2.1 | 2 => .int .i64 xs[j].2.2.1 | _ => .int .i64 xs[j].2.2.2) (fun _ => ⟨by omega, by omega⟩) (fun j' hj' => ?_) (fun j' hj' => ?_)
      · refine cell_of hst ?_
        match j', hj' with
        | 0, _ => rfl
        | 1, _ => rfl
        | 2, _ => rfl
        | 3, _ => rfl
      · match j', hj' with
        | 0, _ => exact .sc _ rfl
        | 1, _ => exact .sc _ rfl
        | 2, _ => exact .sc _ rfl
        | 3, _ => exact .sc _ rfl
  have hel121 : ∀ a j, elCell C 83 a j = a := fun a j => by unfold elCell; rw [hag121]
  have hel122 : ∀ a j, elCell C 82 a j = a := fun a j => by unfold elCell; rw [hag122]
  -- each row
  have hrow : ∀ f, f < S → Frz C (fun b => w.heap.size ≤ b ∧ b < w'.heap.size) w' (.slice (some ⟨w.heap.size + 2 + f, 0, none⟩) N N) (.sl 82 ((List.range N).map fun i => ptrQ (lastQ xs f i))) := by
    intro f hf
    obtain ⟨rc, hr1, hr2, hr3⟩ := hT2.rows f hf
    have := Frz.sl (C := C) (S := fun b => w.heap.size ≤ b ∧ b < w'.heap.size) (w := w') 82 ((List.range N).map fun i => ptrQ (lastQ xs f i)) (some ⟨w.heap.size + 2 + f, 0, none⟩) N 1 8 [.sc (.pointer none)] ⟨w.heap.size + 2 + f, 0, none⟩
      (fun i _ => ptrV (w.heap.size + 2 + S) (lastIx (fQ xs) (iQ xs) xs.length f i)) hi122 (by simp) (by unfold maxLen; omega) (fun _ => ⟨rfl, ⟨by simp only []; omega, by simp only []; omega⟩, rfl⟩)
      (fun i j hi hj => by
        have hi' : i < N := by simpa using hi
        obtain rfl : j = 0 := by omega
        rw [Addr.add_none rfl]
        exact cell_of hr1 (by simpa using hr3 i hi'))
      (fun i j hi hj hpl => by
        obtain rfl : j = 0 := by omega
        cases hpl)
      (fun i j hi hj => by
        have hi' : i < N := by simpa using hi
        rw [hel122]
        have : ((List.range N).map fun i => ptrQ (lastQ xs f i)).getD i .undef = ptrQ (lastQ xs f i) := by simp [List.getD_eq_getElem?_getD, hi']
        rw [this]
        exact hptr f i hf hi')
    simpa using this
  have htab : Frz C (fun b => w.heap.size ≤ b ∧ b < w'.heap.size) w' (.slice (some ⟨w.heap.size + 1, 0, none⟩) S S) (.sl 83 ((List.range S).map fun f => .sl 82 ((List.range N).map fun i => ptrQ (lastQ xs f i)))) := by
    have := Frz.sl (C := C) (S := fun b => w.heap.size ≤ b ∧ b < w'.heap.size) (w := w') 83 ((List.range S).map fun f => .sl 82 ((List.range N).map fun i => ptrQ (lastQ xs f i))) (some ⟨w.heap.size + 1, 0, none⟩) S 1 24 [.sl 82 []] ⟨w.heap.size + 1, 0, none⟩
      (fun f _ => .slice (some ⟨w.heap.size + 2 + f, 0, none⟩) N N) hi121 (by simp) (by unfold maxLen; omega) (fun _ => ⟨rfl, ⟨by simp only []; omega, by simp only []; omega⟩, rfl⟩)
      (fun f j hf hj => by
        have hf' : f < S := by simpa using hf
        obtain rfl : j = 0 := by omega
        rw [Addr.add_none rfl]
        exact cell_of ht1 (by simpa using ht2 f hf'))
      (fun f j hf hj hpl => by
        obtain rfl : j = 0 := by omega
        cases hpl)
      (fun f j hf hj => by
        have hf' : f < S := by simpa using hf
        rw [hel121]
        have : ((List.range S).map fun f => AV.sl 82 ((List.range N).map fun i => ptrQ (lastQ xs f i))).getD f .undef = AV.sl 82 ((List.range N).map fun i => ptrQ (lastQ xs f i)) := by simp [List.getD_eq_getElem?_getD, hf']
        rw [this]
        exact hrow f hf')
    simpa using this
  have hm : retMd C (C.roF 36) (C.res 36) = .uni .ro := by simp [hres, retMd, resMd, hrt]
  refine ⟨?_, fun c j x u k hx => ?_, fun j t' ht => ?_⟩
  · rw [hm]; exact .inl htab
  · rw [hm] at hx
    simp only [homeS] at hx
    split at hx
    · simp only [Md.home1] at hx
      split at hx <;> simp [own?] at hx
    · simp at hx
  · rw [hres] at ht
    have : j = 0 ∧ t' = 80 := by
      cases j with
      | zero => simpa using ht.symm
      | succ j => simp at ht
    obtain ⟨rfl, rfl⟩ := this
    intro h; rw [hag] at h; simp at h
end
end Go.Proofs.YtahifpeggdcamaaGreatDoor
