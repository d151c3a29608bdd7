/- A part of an interpreter of the model's code that is proved sound, and of laws told by it: DamW3, DamCt1. -/
import Derived.Test.YtdehjednpdbhaaaDoorPvD4
import Derived.Maps.AppendAt
import Derived.Test.YtdehjednpdbhaaaDoorPvC6
import Derived.Test.YtdehjednpdbhaaaDoorPvD2
import Derived.Test.YtdehjednpdbhaaaDoorPvC7
set_option linter.unusedVariables false
set_option linter.unusedSimpArgs false
/- The blocks of a journal: what the machine does. -/
namespace Go.Proofs.YtdehjednpdbhaaaDoor
open Go.Dam Go.RowKit Go.Shelf
set_option linter.unusedVariables false
set_option linter.unusedSimpArgs false
attribute [local go_sem] Oper.semAt_some
set_option maxHeartbeats 1000000 in
theorem chunk25 (n : Nat) (hn : 1 ≤ n) (A : Option Addr) (k c : Nat) (w : World) :
    CallsIn Fence.wide n Tryd.prog 25 #[.slice A k c, .int .i64 32] w fun e w' => e = .returned (.func (.func 34) #[] #[.pointer (some ⟨w.heap.size, 0, none⟩), .pointer (some ⟨w.heap.size + 1, 0, none⟩)]) ∧ w' = (w.alloc (.cells #[.slice A k c] 25)).alloc (.cells #[.int .i64 32] 3) := by
  refine callsIn_of_wp Tryd.func25 rfl trivial ?_ rfl
  simp only [Tryd.ntmps25, List.size_toArray, List.length_cons, List.length_nil, Nat.reduceAdd, Nat.reduceSub, Array.replicate_succ, Array.replicate_zero, List.push_toArray, List.append_toArray, List.nil_append, List.cons_append]
  gi_wp2
  go_ret
  exact ⟨rfl, rfl⟩
theorem i9 : ∃ i, Tryd.prog.info? 9 = some i ∧ i.zero = some (.string ByteArray.empty) ∧ i.size = 1 ∧ i.bytes = 16 := by
  have h : (Tryd.prog.info? 9).map (fun i => (i.zero, i.size, i.bytes)) = some (some (.string ByteArray.empty), 1, 16) := by kernel_rfl
  obtain ⟨i, hi, hz⟩ := Option.map_eq_some_iff.1 h
  simp only [Prod.mk.injEq] at hz
  exact ⟨i, hi, hz.1, hz.2.1, hz.2.2⟩
theorem u51 : Tryd.prog.underlying 51 = some (.slice 9) := by kernel_rfl
def chS (s : ByteArray) (k : Nat) : Value := .string ⟨((s.data.toList.drop (32 * k)).take 32).toArray⟩
/-- The bytes, and the boxes of the iterator. -/
structure FB (h m cap : Nat) (row : Array Value) (W : World) : Prop where
  r : W.heap[h + 1]? = some (.cells row 5 (row.size, row.size + 1))
  b : W.heap[h + 2]? = some (.cells #[.slice (some ⟨h + 1, 0, none⟩) m cap] 25)
  n : W.heap[h + 3]? = some (.cells #[.int .i64 32] 3)
theorem FB.grown {h m cap : Nat} {row : Array Value} {W W' : World} {r : Option Nat} (f : FB h m cap row W) (hg : W.grownBy W' r) (h1 : r ≠ some (h + 1)) (h2 : r ≠ some (h + 2)) (h3 : r ≠ some (h + 3)) : FB h m cap row W' :=
  ⟨(hg.block _ (Array.getElem?_eq_some_iff.1 f.r).1 (fun e => h1 e.symm)).trans f.r, (hg.block _ (Array.getElem?_eq_some_iff.1 f.b).1 (fun e => h2 e.symm)).trans f.b, (hg.block _ (Array.getElem?_eq_some_iff.1 f.n).1 (fun e => h3 e.symm)).trans f.n⟩
theorem FB.own {β : Type} (h m cap : Nat) (row : Array Value) : Own (fun (_ : β) W => FB h m cap row W) := by
  intro s W W' r hs hg hr
  refine hs.grown hg ?_ ?_ ?_
  · intro e
    obtain ⟨o, ho, hc⟩ := hr _ e
    rw [hs.r] at ho; cases ho; cases hc
  · intro e
    obtain ⟨o, ho, hc⟩ := hr _ e
    rw [hs.b] at ho; cases ho; cases hc
  · intro e
    obtain ⟨o, ho, hc⟩ := hr _ e
    rw [hs.n] at ho; cases ho; cases hc
theorem FB.below {h m cap : Nat} {row : Array Value} {W W' : World} (f : FB h m cap row W) (hb : Below W.heap.size W W') : FB h m cap row W' :=
  ⟨(hb.block _ (Array.getElem?_eq_some_iff.1 f.r).1).trans f.r, (hb.block _ (Array.getElem?_eq_some_iff.1 f.b).1).trans f.b, (hb.block _ (Array.getElem?_eq_some_iff.1 f.n).1).trans f.n⟩
theorem FB.cells {h m cap : Nat} {row : Array Value} {W : World} (f : FB h m cap row W) : W.cell? ⟨h + 2, 0, none⟩ = some (.slice (some ⟨h + 1, 0, none⟩) m cap) ∧ W.cell? ⟨h + 2 + 1, 0, none⟩ = some (.int .i64 32) := by
  refine ⟨?_, ?_⟩
  · rw [cellN_of f.b]; rfl
  · rw [show h + 2 + 1 = h + 3 from rfl, cellN_of f.n]; rfl
/-- The text of a block. -/
theorem FB.text {h m cap : Nat} {s : ByteArray} {W : World} (f : FB h m cap (bytesRow s cap) W) (k : Nat) (hk : 32 * k + 32 ≤ s.size) :
    (convert 25 9 (chV (h + 1) (32 * k))).run Tryd.prog W = .ok (chS s k) W := by
  have hsl : s.data.toList.length = s.size := by rw [Array.length_toList]; rfl
  have hl : ((s.data.toList.drop (32 * k)).take 32).length = 32 := by rw [List.length_take, List.length_drop]; omega
  have := run_convert_bytes_back (P := Tryd.prog) W 25 9 5 ⟨h + 1, 32 * k, none⟩ 32 ((s.data.toList.drop (32 * k)).take 32) u25 u5 u9 (fun j hj => by
    have hadd : (⟨h + 1, 32 * k, none⟩ : Addr).add j = ⟨h + 1, 32 * k + j, none⟩ := by unfold Addr.add; split <;> simp_all
    have hj32 : j < 32 := by omega
    have hlt : 32 * k + j < s.data.size := by have : s.data.size = s.size := rfl; omega
    rw [hadd]
    unfold World.cell?
    rw [f.r]
    simp only []
    have e1 : (bytesRow s cap)[32 * k + j]? = some (.int .u8 (s.data[32 * k + j].toNat : Int)) := by
      unfold bytesRow
      rw [Array.getElem?_append_left (by simpa using hlt)]
      simp only [Array.getElem?_map, Array.getElem?_eq_getElem hlt, Option.map_some]
    rw [e1]
    simp [List.getElem_take, List.getElem_drop])
  rw [hl] at this
  exact this
set_option maxRecDepth 100000 in
set_option maxHeartbeats 4000000 in
theorem blk17 (n : Nat) (hn : 3 ≤ n) (s : ByteArray) (N : Nat) (hs : s.size = 32 * N) (hN : N ≤ 48) (w : World) :
    CallsIn Fence.wide n Tryd.prog 17 #[.string s] w fun e W' => ∃ v, e = .returned v ∧ W'.ownsRow w.heap.size 9 1 v N ((List.finRange N).map fun k => chS s k.val) ∧ Below w.heap.size w W' := by
  have h1 : 1 ≤ n := by omega
  obtain ⟨i0, hi0, hz0, hz1, hz2⟩ := i9
  have e25 : ∀ args w, (callFunc 25 args).run Tryd.prog w = .ok (.enter 25 args) w := enters_of Tryd.func25 (by kernel_rfl) rfl
  have h25 : Fence.wide.fn 25 := trivial
  have e34 := enters_of Tryd.func34 (by kernel_rfl) rfl
  have hm0 : s.size = 32 * N := hs
  refine callsIn_of_wp_marks Tryd.func17 rfl trivial ?_ rfl
  simp only [Tryd.ntmps17, List.size_toArray, List.length_cons, List.length_nil, Nat.reduceAdd, Nat.reduceSub, Array.replicate_succ, Array.replicate_zero, List.push_toArray, List.append_toArray, List.nil_append, List.cons_append]
  obtain ⟨m, hm⟩ : ∃ m, m = 32 * N := ⟨_, rfl⟩
  rw [← hm] at hs
  have Hm := hid hm
  have Hm0 := hid hm0
  clear hm hm0
  have hge : m ≤ grownCap (w.alloc (.cells #[.slice none 0 0] 51)) m 0 5 := grownCap_ge _ _ _ _
  have hconv := run_bytes_of_string (P := Tryd.prog) (w.alloc (.cells #[.slice none 0 0] 51)) 9 25 5 s u9 u25 u5
  rw [hs] at hconv
  gi_wp2
  clear hconv
  generalize grownCap (w.alloc (.cells #[.slice none 0 0] 51)) m 0 5 = cap at *
  refine (chunk25 (n - 1) (by omega) _ _ _ _).mono ?_
  rintro e w' ⟨rfl, rfl⟩
  obtain ⟨row, hrow⟩ : ∃ row, row = bytesRow s cap := ⟨_, rfl⟩
  rw [← hrow]
  generalize hW3 : World.alloc (World.alloc (World.drew _) _) _ = W3
  have Hrow := hid hrow
  clear hrow
  have z0 : W3.heap.size = w.heap.size + 4 := by rw [← hW3]; simp
  have zB : Below w.heap.size w W3 := by
    rw [← hW3]
    exact (((((Below.refl _ w).alloc (Nat.le_refl _) _).alloc (by simp) _).drew).alloc (by simp [drew_heap]; omega) _).alloc (by simp [drew_heap]; omega) _
  have b0 : Boxed W3 w.heap.size 51 (.slice none 0 0) := by
    unfold Boxed
    rw [← hW3, alloc_was _ _ _ (by simp [drew_heap]; omega), alloc_was _ _ _ (by simp [drew_heap]; omega), drew_heap, alloc_was _ _ _ (by simp), alloc_at _ _ _ rfl]
  have f1 : FB w.heap.size m cap row W3 := by
    refine ⟨?_, ?_, ?_⟩
    · rw [← hW3, alloc_was _ _ _ (by simp [drew_heap]), alloc_was _ _ _ (by simp [drew_heap]), drew_heap, alloc_at _ _ _ (by simp)]
    · rw [← hW3, alloc_was _ _ _ (by simp [drew_heap]), alloc_at _ _ _ (by simp [drew_heap])]
    · rw [← hW3, alloc_at _ _ _ (by simp [drew_heap])]
  clear hW3
  gi_wp2
  refine wpIn_rangeFunc_ownG rfl h1 (gf := 34) (lb := #[.pointer (some ⟨w.heap.size + 2, 0, none⟩), .pointer (some ⟨w.heap.size + 2 + 1, 0, none⟩)]) rfl trivial e34
    (chunk_stops (n - 1) (by omega) (w.heap.size + 2) (w.heap.size + 1) N cap m Hm hge hN (FB w.heap.size m cap row) (fun _ h => h.cells) (fun _ h => ⟨h.r, h.b, h.n⟩) W3 (fun _ h => f1.below h))
    (fun h k x => k (h x)) (fun W l o o' hl hlo hc _ h => FB.own (β := Unit) _ _ _ _ () W _ (some l) h (grownBy_putObj' W l o') (fun r e => by cases e; exact ⟨o, hlo, hc⟩)) (Below.refl _ _) (fun _ => rfl)
    (fun pre W => ((∃ v, Boxed W w.heap.size 51 v ∧ W.ownsRow w.heap.size 9 1 v pre.length (pre.map fun k => chS s k.val) ∧ True) ∧ Below w.heap.size w W) ∧ FB w.heap.size m cap row W)
    (fun _ _ _ => False)
    (OwnFrom.and (OwnFrom.and (Own.from (holdsRow_own w.heap.size w.heap.size 51 9 1 (fun pre : List (Fin N) => pre.length) (fun pre => pre.map fun k => chS s k.val) (fun _ _ => True)) _) (ownFrom_below (Nat.le_refl _) (by omega))) (Own.from (FB.own _ _ _ _) _))
    (fun _ _ _ _ _ hs _ _ => hs)
    ⟨⟨⟨_, b0, ⟨rfl, .inl ⟨rfl, rfl⟩⟩, trivial⟩, zB⟩, f1⟩
    (fun x => { tmps := #[.string s, undef, .slice none 0 0, .pointer (some ⟨w.heap.size, 0, none⟩), chV (w.heap.size + 1) (32 * x.val), .string s, .slice (some ⟨w.heap.size + 1, 0, none⟩) m cap, .func (.func 34) #[] #[.pointer (some ⟨w.heap.size + 2, 0, none⟩), .pointer (some ⟨w.heap.size + 2 + 1, 0, none⟩)], chV (w.heap.size + 1) (32 * x.val), undef, undef, undef, undef, undef, undef], defers := [] }) ?assign ?body ?done ?stop
  case assign =>
    intro l x W K hK
    gi_wp2
    exact hK
  case body =>
    rintro l pre x W ⟨⟨⟨v, hv, hrow, _⟩, hB⟩, hFB⟩ hlt
    have hcv := hv.cell
    have hBsz := hB.size
    have hconv := hFB
    rw [Hrow.out] at hconv
    have hconv := hconv.text x.val (by have := Hm0.out; have := x.isLt; omega)
    have hm1 : pre.length + 1 ≤ maxLen := by simp only [maxLen]; omega
    have hm2 : (pre.length + 1) * 16 ≤ 140737488355328 := by omega
    unfold chV chS at hconv
    unfold chV
    have hm3 : w.heap.size ≤ (W.alloc (.cells #[.string ⟨((s.data.toList.drop (32 * x.val)).take 32).toArray⟩] 9)).heap.size := by simp; omega
    gi_wp2_with (first
      | (gi_at_builtin; go_loud (refine wpListIn_append_own _ rfl _ _ 51 rfl w.heap.size 9 i0 (.string ByteArray.empty) 1 16 u51 hi0 hz0 hz1 hz2 rfl (by decide) _ _ _ rfl (hrow.alloc _) ⟨W.heap.size, 0, none⟩ 1 1 [.string ⟨((s.data.toList.drop (32 * x.val)).take 32).toArray⟩] rfl rfl (cell_one_new _ _ _) (by simp [Value.oneCell']) hm1 hm2 hm3 ?_); intro v' w3 hown' hg3 hnil3
         obtain ⟨k1, k2, k3, k4, k5⟩ := Boxed.appended hv (by decide) hrow hBsz (Nat.le_refl _) hown' hg3
         obtain ⟨g', cap', rfl⟩ := ownsRow_succ hown'
         have k1c := k1.cell
         have k1f := k1.frozen
         simp only [Act.put, List.setIfInBounds_toArray, List.set_cons_succ, List.set_cons_zero])
      | (rw [Oper.semAt_eq _ _ _ (fun c h => by cases h)]; go_simp; try go_bits))
    have kF : FB w.heap.size m cap row (w3.setCell ⟨w.heap.size, 0, none⟩ (.slice (some ⟨g', 0, none⟩) (pre.length + 1) cap')) := by
      have hne : ∀ j o, W.heap[j]? = some o → (∀ c fz, o ≠ .cells c 9 fz) → v.ownBlock ≠ some j := by
        intro j o ho hno e
        rcases hrow.2 with ⟨rfl, _⟩ | ⟨g, cp, cur, rfl, _, hgb, _⟩
        · cases e
        · simp only [Value.ownBlock, Option.some.injEq] at e
          subst e
          rw [hgb] at ho
          cases ho
          exact hno _ _ rfl
      have f2 := hFB.grown (World.grownBy_alloc W (.cells #[.string ⟨((s.data.toList.drop (32 * x.val)).take 32).toArray⟩] 9) none) (by simp) (by simp) (by simp)
      have f3 := f2.grown hg3 (hne _ _ hFB.r (fun c fz e => by cases e)) (hne _ _ hFB.b (fun c fz e => by cases e)) (hne _ _ hFB.n (fun c fz e => by cases e))
      exact ⟨by rw [Below.heap_setCell _ _ _ _ (by simp)]; exact f3.r, by rw [Below.heap_setCell _ _ _ _ (by simp)]; exact f3.b, by rw [Below.heap_setCell _ _ _ _ (by simp)]; exact f3.n⟩
    exact ⟨k4.from _, fun _ => kF, ⟨⟨_, k2, by simpa [chS] using k3, trivial⟩, hB.trans k5⟩, kF⟩
  case done =>
    rintro D ys W hD rfl ⟨⟨⟨v, hv, hrow, _⟩, hB⟩, hFB⟩ hK
    have hcv := hv.cell
    gi_wp2
    refine ⟨by simp, .inl ⟨_, _, rfl, run_takeDeferred hK, ?_⟩⟩
    rw [List.length_finRange] at hrow
    exact ⟨_, results_tmp rfl _ _ _, v, rfl, ownsRow_putObj hrow _ hK rfl, hB.trans (belowK_b (w := w) (Nat.le_refl _) W D _ _ (by omega) hK rfl rfl)⟩
  case stop =>
    rintro D c pre W _ _ h _
    exact h.elim
end Go.Proofs.YtdehjednpdbhaaaDoor

/- The block of an entry, the blocks of a journal: their contracts; the table is sound. -/
namespace Go.Proofs.YtdehjednpdbhaaaDoor
open Go.Dam Go.RowKit Go.Shelf
set_option linter.unusedVariables false
set_option linter.unusedSimpArgs false
theorem chunk_eq : ∀ (N k : Nat) (l : List UInt8), l.length = 32 * N → N ≤ k → chunkL k l = (List.range N).map fun j => (l.drop (32 * j)).take 32
  | 0, k, l, h, _ => by
    have : l = [] := List.eq_nil_of_length_eq_zero (by omega)
    subst this
    cases k <;> rfl
  | N + 1, 0, l, h, hk => by omega
  | N + 1, k + 1, l, h, hk => by
    unfold chunkL
    have hne : l.isEmpty = false := by
      cases l with
      | nil => simp at h
      | cons => rfl
    rw [hne, chunk_eq N k (l.drop 32) (by rw [List.length_drop]; omega) (by omega), List.range_succ_eq_map, List.map_cons, List.map_map]
    simp only [Bool.false_eq_true, if_false, Nat.mul_zero, List.drop_zero]
    congr 1
    refine List.map_congr_left fun j _ => ?_
    simp only [Function.comp]
    rw [List.drop_drop, show 32 + 32 * j = 32 * (j + 1) by omega]
theorem blocks_eq {l : List UInt8} {N : Nat} (h : l.length = 32 * N) : blocksL l = (List.range N).map fun j => (l.drop (32 * j)).take 32 := chunk_eq N _ l h (by omega)
theorem frz_ent {C : Tab} {S : Nat → Prop} {w : World} {v : Value} {s : ByteArray} {d x t : Int} (h : FrzV C S w v (.agg [.sc (.string s), .sc (.int .i64 d), .sc (.int .i64 x), .sc (.int .i64 t)])) : v = .agg #[.string s, .int .i64 d, .int .i64 x, .int .i64 t] := by
  rcases h with ⟨vs, la, rfl, e, hl, h⟩ | h
  · cases e
    have hs : vs.size = 4 := hl.symm
    have g : ∀ j (hj : j < 4) u, cellN (.agg [.sc (.string s), .sc (.int .i64 d), .sc (.int .i64 x), .sc (.int .i64 t)]) j = .sc u → vs[j]? = some u := fun j hj u hu => by
      have := h j (by omega)
      rw [hu] at this
      have e1 : vs.getD j undef = u := frzVsc (.inr this)
      have hlt : j < vs.size := by omega
      simpa [hlt] using e1
    congr 1
    apply Array.ext'
    apply List.ext_getElem?
    intro j
    rw [Array.getElem?_toList]
    rcases Nat.lt_or_ge j 4 with hj | hj
    · match j, hj with
      | 0, hj => rw [g 0 hj _ rfl]; rfl
      | 1, hj => rw [g 1 hj _ rfl]; rfl
      | 2, hj => rw [g 2 hj _ rfl]; rfl
      | 3, hj => rw [g 3 hj _ rfl]; rfl
    · rw [Array.getElem?_eq_none (by omega), List.getElem?_eq_none (by simpa using hj)]
  · cases h
section
variable {C : Tab}
set_option maxRecDepth 100000 in
theorem block_con (hres : C.res 19 = [9]) (hflat : C.flat 9 = true) (hag : isAggT C 9 = some false) {args : List AV} {r : AV} (h : extBlock args = some r) : ContractL C Tryd.prog 19 args r := by
  unfold extBlock at h
  split at h
  case h_2 => cases h
  rename_i s d v t
  split at h
  case isFalse => cases h
  rename_i hs
  have hs := Nat.le_of_ble_eq_true hs
  simp only [Option.some.injEq] at h
  subst h
  intro vals w Gin _ hGin hargs
  have h0 := frz_ent (hargs.2 0 (by simp)).1
  have hsz : vals.size = 1 := by have := hargs.1; simpa using this
  have hvals : vals = #[.agg #[.string s, .int .i64 d, .int .i64 v, .int .i64 t]] := by
    apply Array.ext
    · simpa using hsz
    · intro i h1 h2
      have : i = 0 := by simp at h2; omega
      subst this
      simpa [List.getD_eq_getElem?_getD, h1] using h0
  subst hvals
  refine callsTo' Tryd.func19 (by kernel_rfl) (by kernel_rfl) (blk_walk s d v t hs w) fun e w' he => ?_
  obtain ⟨rfl, hbel⟩ := he
  exact ⟨_, rfl, fun _ => False, hbel, fun _ h => h.elim, retScalar hres hflat hag rfl⟩
set_option maxRecDepth 100000 in
theorem blocks_con (hres : C.res 17 = [51]) (hflat : C.flat 51 = false) (hrt : C.roF 17 = false) (hi51 : C.info 51 = some ([.sl 9 []], 1, 24)) (hag51 : isAggT C 51 = some false) (hi9 : C.info 9 = some ([.sc (.string ByteArray.empty)], 1, 16)) (hag9 : isAggT C 9 = some false)
    {args : List AV} {r : AV} (h : extBlocks args = some r) : ContractL C Tryd.prog 17 args r := by
  unfold extBlocks at h
  split at h
  case h_2 => cases h
  rename_i s
  split at h
  case isFalse => cases h
  rename_i hs
  rw [Bool.and_eq_true] at hs
  obtain ⟨hs1, hs2⟩ := hs
  have hs1 := Nat.le_of_ble_eq_true hs1
  have hs2 := Nat.eq_of_beq_eq_true hs2
  simp only [Option.some.injEq] at h
  subst h
  intro vals w Gin _ hGin hargs
  have hv := args_sc (xs := [.string s]) hargs
  subst hv
  obtain ⟨N, hN⟩ : ∃ N, s.size = 32 * N := ⟨s.size / 32, by omega⟩
  have hsl : s.data.toList.length = s.size := by rw [Array.length_toList]; rfl
  have hbl := blocks_eq (l := s.data.toList) (N := N) (by omega)
  have hwalk : Calls Tryd.prog 17 #[.string s] w fun e W' => ∃ v, e = .returned v ∧ W'.ownsRow w.heap.size 9 1 v N ((List.finRange N).map fun k => chS s k.val) ∧ Below w.heap.size w W' := (callsIn_wide (n := 3)).1 (blk17 3 (by omega) s N hN (by omega) w)
  refine callsTo' Tryd.func17 (by kernel_rfl) (by kernel_rfl) hwalk fun e w' he => ?_
  obtain ⟨v, rfl, hrow, hbel⟩ := he
  refine ⟨_, rfl, fun _ => False, hbel, fun _ h => h.elim, retRow hres hflat hrt hi51 hag51 ?_⟩
  have hel : ∀ (a : AV) (j : Nat), elCell C 9 a j = a := fun a j => by
    unfold elCell
    rw [hag9]
  have hll : ((blocksL s.data.toList).map strA).length = N := by rw [hbl]; simp
  have hget : ∀ i, i < N → ((blocksL s.data.toList).map strA).getD i .undef = .sc (chS s i) := fun i hi => by
    rw [hbl]
    simp [List.getD_eq_getElem?_getD, hi, strA, chS]
  refine ⟨9, _, _, 1, 16, (List.finRange N).map fun k => chS s k.val, rfl, hi9, by rw [hll]; exact rowOf.of hrow, fun i j hi' hj _ => ?_, fun i j hi' hj => ?_⟩
  · rw [hel, hget i (by omega)]
    rfl
  · have hj0 : j = 0 := by omega
    subst hj0
    have hi2 : i < N := by omega
    refine ⟨chS s i, ?_, ?_⟩
    · simp [hi2]
    · rw [hel, hget i hi2]
      exact Frz.sc _ rfl
end
set_option maxRecDepth 100000 in
theorem tab_ext : ∀ f g, tabExt f = some g → ∀ args r, g args = some r → ContractL tab Tryd.prog f args r := by
  intro f g h args r hr
  unfold tabExt at h
  split at h
  · cases h; exact blocks_con (C := tab) rfl rfl rfl rfl rfl rfl rfl hr
  · cases h; exact block_con (C := tab) rfl rfl rfl hr
  · cases h
set_option maxRecDepth 100000 in
theorem tab_ok2 : Tab.Ok2 tab Tryd.prog := ⟨Tryd.checked.mixed, fun f fn h _ => res_ok f fn h, fun f fn h _ => plans_ok f fn h, fun _ _ _ _ _ _ hcp => (by cases hcp), tab_ext, fun _ _ _ _ => trivial⟩
end Go.Proofs.YtdehjednpdbhaaaDoor
