/- A part of an interpreter of the model's code that is proved sound, and of laws told by it: DamMul, DamRpt, DamRptC. -/
import Derived.Shelf.Bits.Mul64
import Derived.Test.YtahifpeggdcamaaDoorProg
import Derived.KernelRfl
import Derived.Test.YtahifpeggdcamaaDoorPpD6
import Derived.Laws.CopyOwn
import Derived.OwnWalk
import Derived.Test.YtahifpeggdcamaaDoorPpD3
set_option linter.unusedVariables false
set_option linter.unusedSimpArgs false
/- The contract of math/bits.Mul64 at this program. -/
namespace Go.Proofs
open Go.Shelf
def Tryd.laysM_ren : Go.Shelf.Ren := ⟨fun | 264 => 110 | n => n, fun | 46 => 161 | 53 => 182 | n => n, fun | n => n⟩
theorem Tryd.lays264 : Lays.n264 Tryd.prog Tryd.laysM_ren := {
  mixed := by kernel_rfl,
  f264 := Tryd.func110.trans (congrArg some (by kernel_rfl)),
  t46 := Tryd.underlying161,
  a46 := Tryd.isAgg161,
  z46 := Tryd.sizeOf161,
  v46 := Tryd.zeroValue161,
  t53 := Tryd.underlying182,
  a53 := Tryd.isAgg182,
  z53 := Tryd.sizeOf182,
  v53 := Tryd.zeroValue182 }
end Go.Proofs

/- slices.Repeat of one number: what the machine does. -/
namespace Go.Proofs.YtahifpeggdcamaaDoor
open Go.RowKit
set_option linter.unusedVariables false
set_option linter.unusedSimpArgs false
theorem u22r : Tryd.prog.underlying 22 = some (.slice 3) := by kernel_rfl
theorem i3r : (Tryd.prog.info? 3).map (fun i => (i.zero, i.size, i.bytes)) = some (some (.int .i64 0), 1, 8) := by kernel_rfl
theorem s3r : (Tryd.prog.info? 3).map (·.size) = some 1 := by kernel_rfl
set_option maxRecDepth 100000 in
theorem mul96 (x y : Nat) (hx : x < 18446744073709551616) (hy : y < 18446744073709551616) (w : World) :
    Calls Tryd.prog 96 #[.int .u64 x, .int .u64 y] w fun e w' => e = .returned (.tuple #[.int .u64 ((x * y / 18446744073709551616 : Nat) : Int), .int .u64 ((x * y % 18446744073709551616 : Nat) : Int)]) ∧ w' = w := by
  have e110 : ∀ args w, (callFunc 110 args).run Tryd.prog w = .ok (.enter 110 args) w := enters_of Tryd.func110 (by kernel_rfl) rfl
  have c64 := Go.Proofs.Any.bits_Mul64 Tryd.lays264 x y hx hy w
  go_enter Tryd.func96, Tryd.ntmps96
  go_wp2_with (go_at_fn 110; refine c64.mono ?_; rintro e w' ⟨rfl, hw⟩; rw [hw])
  go_ret2
  exact ⟨rfl, rfl⟩
theorem made_rep (z : Value) (n : Nat) : madeCells #[z] n = Array.replicate n z := by
  apply Array.ext (by simp [madeRow_size])
  intro i h1 h2
  have h := madeRow z n i (by simpa [madeRow_size] using h1)
  have : (madeCells #[z] n)[i] = z := (Array.getElem?_eq_some_iff.1 h).2
  rw [this]; simp
def rowRI (x : Int) (n m : Nat) : List Value := List.replicate m (Value.int .i64 x) ++ List.replicate (n - m) (Value.int .i64 0)
structure RI (w : World) (x : Int) (n m : Nat) (wr : World) : Prop where
  size : wr.heap.size = w.heap.size + 1
  below : Below w.heap.size w wr
  row : wr.heap[w.heap.size]? = some (.cells (rowRI x n m).toArray 3 (0, 0))
theorem RI.drew {w : World} {x : Int} {n m : Nat} {wr : World} (h : RI w x n m wr) : RI w x n m wr.drew := ⟨h.size, h.below.drew, h.row⟩
theorem rowRI_len (x : Int) (n m : Nat) (h : m ≤ n) : (rowRI x n m).length = n := by unfold rowRI; simp; omega
theorem rowRI_next (x : Int) (n m k : Nat) (h : m + k ≤ n) : (rowRI x n m).take m ++ List.replicate k (Value.int .i64 x) ++ (rowRI x n m).drop (m + k) = rowRI x n (m + k) := by
  unfold rowRI
  rw [List.take_append_of_le_length (by simp), List.take_of_length_le (by simp), List.drop_append]
  simp only [List.length_replicate, List.drop_replicate, List.append_assoc]
  rw [show m - (m + k) = 0 by omega, List.replicate_zero, List.nil_append, ← List.append_assoc, List.replicate_append_replicate, show n - m - (m + k - m) = n - (m + k) by omega]
theorem add_off (b o j : Nat) : (⟨b, o, none⟩ : Addr).add j = ⟨b, o + j, none⟩ := by unfold Addr.add; split <;> simp_all
theorem rowRI_get (x : Int) (n m j : Nat) (h : j < m) : (rowRI x n m).toArray[j]? = some (.int .i64 x) := by
  unfold rowRI
  rw [List.getElem?_toArray, List.getElem?_append_left (by simpa using h), List.getElem?_replicate, if_pos h]
theorem copyRI {w wr : World} {x : Int} {n m k : Nat} (h : RI w x n m wr) (hk : m + k ≤ n) (dLen dCap sLen sCap : Nat) (ad : Addr) (hn : k = Nat.min sLen dLen) (hsrc : ∀ j, j < k → wr.cell? (ad.add j) = some (.int .i64 x)) :
    ∃ w2, (Builtin.copy_ #[22, 22] 3 #[.slice (some ⟨w.heap.size, m, none⟩) dLen dCap, .slice (some ad) sLen sCap]).run Tryd.prog wr = .ok (.int .i64 (k : Int)) w2 ∧ RI w x n (m + k) w2 := by
  have hl := rowRI_len x n m (by omega)
  have := run_copy_row Tryd.prog wr 22 22 3 3 w.heap.size m dLen dCap ad sLen sCap (rowRI x n m).toArray 3 (List.replicate k (Value.int .i64 x)) u22r s3r h.row (by simpa using hn) (fun j v hj => by
    rw [List.getElem?_replicate] at hj
    split at hj
    · cases hj; exact hsrc j ‹_›
    · cases hj) (by simp [hl]; omega) (by simp [Value.oneCell'])
  rw [List.length_replicate] at this
  refine ⟨_, this, ?_, ?_, ?_⟩
  · simp [World.setRow, h.size]
  · exact below_setRow h.below (Nat.le_refl _) _
  · rw [setRow_heap wr _ _ _ 3 _ h.row, rowRI_next x n m k hk]
set_option maxHeartbeats 4000000 in
set_option maxRecDepth 100000 in
theorem repeat1 (x : Int) (n c bk of : Nat) (w : World) (hn : 1 ≤ n) (hn2 : n ≤ 1000) (hc : w.cell? ⟨bk, of, none⟩ = some (.int .i64 x)) (had : bk < w.heap.size) :
    Calls Tryd.prog 75 #[.slice (some ⟨bk, of, none⟩) 1 c, .int .i64 n] w fun e w' => e = .returned (.slice (some ⟨w.heap.size, 0, none⟩) n n) ∧ RI w x n n w' := by
  have c96 := mul96 1 n (by omega) (by omega) w
  have e0 : (1 * n / 18446744073709551616 : Nat) = 0 := by omega
  have e1 : (1 * n % 18446744073709551616 : Nat) = n := by omega
  rw [e0, e1] at c96
  have e96 : ∀ args w, (callFunc 96 args).run Tryd.prog w = .ok (.enter 96 args) w := enters_of Tryd.func96 (by kernel_rfl) rfl
  have mk := run_make_row' (P := Tryd.prog) 22 3 (.int .i64 0) 8 u22r i3r rfl .i64 .i64 n (by omega) (by omega)
  simp only [made_rep] at mk
  have R0 : RI w x n 0 (w.alloc (.cells (Array.replicate n (Value.int .i64 0)) 3)) := ⟨by simp, (Below.refl _ w).alloc (Nat.le_refl _) _, by
    rw [heap_alloc_new]; simp [rowRI]⟩
  obtain ⟨w1, cp, R1⟩ := copyRI R0 (k := 1) (by omega) n n 1 c ⟨bk, of, none⟩ (by show 1 = Nat.min 1 n; simp [Nat.min_def]; omega) (fun j hj => by
    obtain rfl : j = 0 := by omega
    rw [show (⟨bk, of, none⟩ : Addr).add 0 = ⟨bk, of, none⟩ from by simp [Addr.add]]
    rw [R0.below.cell (p := ⟨bk, of, none⟩) had]
    exact hc)
  rw [Nat.zero_add] at R1
  have HR := hid2 R1
  clear R1 R0
  go_enter Tryd.func75, Tryd.ntmps75
  go_wp2_with (first | (go_at_fn 96; refine c96.mono ?_; rintro e w' ⟨rfl, hw⟩; rw [hw]) | fail)
  go_loopw [8] (fun i wr => ∃ m : Nat, 1 ≤ m ∧ m ≤ n ∧ i = .int .i64 m ∧ Hid (RI w x n m wr)) (fun i _ => n - (intOf i).toNat)
  case atStart => exact ⟨1, by omega, hn, rfl, HR⟩
  case round =>
    obtain ⟨m, hm, hmn, rfl, HQ⟩ := hrel
    by_cases hlt : m < n
    · obtain ⟨k, hk⟩ : ∃ k, k = Nat.min m (n - m) := ⟨_, rfl⟩
      have hk1 : 1 ≤ k ∧ m + k ≤ n ∧ k ≤ m := by rw [hk]; simp only [Nat.min_def]; split <;> omega
      obtain ⟨w2, cp2, R2⟩ := copyRI HQ.out.drew (k := k) hk1.2.1 (n - m) (n - m) m n ⟨w.heap.size, 0, none⟩ hk (fun j hj => by
        rw [add_off, Nat.zero_add]
        exact cell_of HQ.out.drew.row (rowRI_get x n m j (by omega)))
      have H2 := hid2 R2
      clear R2 cp
      go_wp2_with fail
      go_region
      all_goals go_wp2
      refine ⟨⟨m + k, by omega, by omega, by rw [hk]; simp only [Int.natCast_add], H2⟩, ?_⟩
      simp only [intOf]
      omega
    · have hme : m = n := by omega
      subst hme
      go_wp2
      go_ret
      exact ⟨rfl, HQ.out⟩
end Go.Proofs.YtahifpeggdcamaaDoor

/- slices.Repeat of one number: its contract. -/
namespace Go.Proofs.YtahifpeggdcamaaDoor
open Go.Dam Go.RowKit
set_option linter.unusedVariables false
set_option linter.unusedSimpArgs false
section
variable {C : Tab}
set_option maxRecDepth 100000 in
theorem repeat_contract (hres : C.res 75 = [22]) (hflat : C.flat 22 = false) (hrt : C.roF 75 = false) (hag : isAggT C 22 = some false) (hag3 : isAggT C 3 = some false) {s2 b2 : Nat} {z0 : List AV} (hi22 : C.info 22 = some ([.sl 3 z0], s2, b2)) {n0 : Int} {b : Nat} (hi : C.info 3 = some ([.sc (.int .i64 n0)], 1, b))
    {args : List AV} {r : AV} (h : extRepeat 3 args = some r) : Contract C Tryd.prog 75 args r := by
  unfold extRepeat at h
  split at h
  case h_2 => simp at h
  rename_i T' x nz
  split at h
  case isFalse => simp at h
  rename_i hc
  simp only [Bool.and_eq_true, decide_eq_true_eq] at hc
  obtain ⟨hT, hn1, hn2⟩ := hc
  obtain rfl := Nat.eq_of_beq_eq_true hT
  simp only [Option.some.injEq] at h
  subst h
  obtain ⟨n, rfl⟩ : ∃ n : Nat, nz = n := ⟨nz.toNat, by omega⟩
  simp only [Int.toNat_natCast]
  intro vals w Gin hGin ⟨hl, hargs⟩
  obtain ⟨v, u, hv⟩ : ∃ v u, vals.toList = [v, u] := by
    have : vals.toList.length = 2 := by simpa using hl
    match h : vals.toList, this with
    | [v, u], _ => exact ⟨v, u, rfl⟩
  have h0 := frzV_sl (hargs 0 (by simp)).1
  have h1 := frzV_sc (hargs 1 (by simp)).1
  rw [hv] at h0 h1
  simp only [List.getD_cons_zero, List.getD_cons_succ] at h0 h1
  subst h1
  obtain ⟨A, cap, s', b', z', ad, cv, hvv, hi', h1, h2, hA, hcell, hp, hr⟩ := h0.slice
  rw [hi] at hi'; cases hi'
  have hva : vals = #[v, .int .i64 n] := by cases vals; simp only at hv; rw [hv]
  subst hva
  subst hvv
  obtain ⟨rfl, hblk, hsp⟩ := hA (by simp)
  obtain ⟨blk, off, spt⟩ := ad
  subst hsp
  have hcs : w.cell? ⟨blk, off, none⟩ = some (.int .i64 x) := by
    have e1 := hcell 0 0 (by simp) (by omega)
    have e2 := hr 0 0 (by simp) (by omega)
    have e3 : elCell C 3 ([AV.sc (.int .i64 x)].getD 0 .undef) 0 = .sc (.int .i64 x) := by simp [elCell, hag3]
    rw [e3] at e2
    have e4 : cv 0 0 = .int .i64 x := frz_scv e2
    rw [e4, Addr.add_none rfl] at e1
    simpa using e1
  refine calls_to Tryd.func75 (by kernel_rfl) (by kernel_rfl) (repeat1 x n cap blk off w (by omega) (by omega) hcs hblk) fun e w' he => ?_
  obtain ⟨rfl, hR⟩ := he
  have hrow : rowRI x n n = List.replicate n (Value.int .i64 x) := by unfold rowRI; simp
  have hown : w'.ownsRow w.heap.size 3 1 (.slice (some ⟨w.heap.size, 0, none⟩) n n) n (List.replicate n (Value.int .i64 x)) :=
    ⟨by simp, .inr ⟨_, n, _, rfl, Nat.le_refl _, hR.row, Nat.le_refl _, by unfold maxLen; omega, by rw [hrow]; simp, by rw [hrow]; simp⟩⟩
  refine ⟨_, rfl, fun _ => False, hR.below, fun _ h => h.elim, ret_row hres hflat hrt hi22 hag ?_⟩
  refine ⟨3, List.replicate n (.sc (.int .i64 x)), _, 1, b, _, rfl, hi, by simpa using hown, fun i j hi' hj _ => ?_, fun i j hi' hj => ?_⟩
  · obtain rfl : j = 0 := by omega
    have hi2 : i < n := by simpa using hi'
    simp [elCell, hag3, List.getD_eq_getElem?_getD, hi2, isSc]
  · obtain rfl : j = 0 := by omega
    have hi2 : i < n := by simpa using hi'
    refine ⟨.int .i64 x, by simp [hi2], ?_⟩
    have : elCell C 3 ((List.replicate n (AV.sc (.int .i64 x))).getD i .undef) 0 = .sc (.int .i64 x) := by simp [elCell, hag3, List.getD_eq_getElem?_getD, hi2]
    rw [this]
    exact .sc _ rfl
end
end Go.Proofs.YtahifpeggdcamaaDoor
