/- A part of an interpreter of the model's code that is proved sound, and of laws told by it: DamSeq, DamSeq2, DamSeq3, DamSeq4. -/
import Derived.RangeFuncBox
import Derived.RangeFuncLeaves
import Derived.RangeFuncWrites
import Derived.Shelf.Abstract
import Derived.WalkKit
import Derived.OwnWalkIn
import Derived.TacticsInMore
import Derived.LoopNIn
import Derived.LoopIn
import Derived.Lib.Walk
import Derived.Lib.Strings
import Derived.Laws.Strings3
import Derived.Lib.FieldsLaws
import Derived.Lib.SplitLaws
import Derived.Test.YtdhbhedfbdckaaaGreatDoorChecked
import Derived.Test.YtdhbhedfbdckaaaGreatDoorPuD1
import Derived.Maps.AppendAt
import Derived.Test.YtdhbhedfbdckaaaGreatDoorPuD3
import Derived.Sort.OwnSorted
set_option linter.unusedVariables false
set_option linter.unusedSimpArgs false
/- The words of a text, by way of the library's iterator strings.FieldsSeq: what the machine does. -/
namespace Go.Proofs.YtdhbhedfbdckaaaGreatDoor
open Go.RowKit Go.Shelf
set_option linter.unusedVariables false
set_option linter.unusedSimpArgs false
attribute [local go_sem] Oper.semAt_some
/-- A fact that the walk does not look at. -/
structure Asd (p : Prop) : Prop where
  out : p
def vS (x : List UInt8) : Value := .string ⟨x.toArray⟩
theorem piece_vS (s : ByteArray) (a b : Nat) : Value.string (s.extract a b) = vS ((s.data.toList.drop a).take (b - a)) := by
  unfold vS
  rw [← Lib.extract_data]
set_option maxRecDepth 100000 in
set_option maxHeartbeats 4000000 in
theorem fieldsC (n : Nat) (hn : 1 ≤ n) (l Bs ob n0 : Nat) (s : ByteArray) (hs : s.size < 4294967281) (hascii : ∀ (j : Nat) b, s.data.toList[j]? = some b → b.toNat < 128) (hb : Bs < n0) (hb0 : 0 < n0) (J Jx : List (List UInt8) → World → Prop)
    (hY : ∀ pre x W, J pre W → pre.length < (Lib.fields s.data.toList).length → YieldAt Fence.wide (n - 1) Tryz.prog l #[vS x] W fun e W' =>
      (e = .returned (.bool true) ∧ J (pre ++ [x]) W' ∧ Below n0 W W') ∨ (e = .returned (.bool false) ∧ Jx (pre ++ [x]) W'))
    (W : World) (hBs : W.cell? ⟨Bs, ob, none⟩ = some (.string s)) (hT : SpTab W) (h0 : J [] W) :
    CallsIn Fence.wide n Tryz.prog 97 #[.func (.yield l) #[] #[], .pointer (some ⟨Bs, ob, none⟩)] W fun e W' => (∃ v, e = .returned v) ∧ (J (Lib.fields s.data.toList) W' ∨ ∃ pre, Jx pre W') := by
  have HA : Asd (∀ (j : Nat) b, s.data.toList[j]? = some b → b.toNat < 128) := ⟨hascii⟩
  have HT : Asd (SpTab W) := ⟨hT⟩
  clear hascii hT
  have hlen : s.data.toList.length = s.size := (Lib.size_eq s).symm
  refine callsIn_of_wp Tryz.func97 rfl trivial ?_ rfl
  simp only [Tryz.ntmps97, List.size_toArray, List.length_cons, List.length_nil, Nat.reduceAdd, Nat.reduceSub, Array.replicate_succ, Array.replicate_zero, List.push_toArray, List.append_toArray, List.nil_append, List.cons_append]
  gi_wp2
  gi_loopw [3, 4] (fun st i wr => ∃ (done : List (List UInt8)) (k : Nat), k ≤ s.size ∧ i = .int .i64 k ∧ J done wr ∧ Below n0 W wr ∧
      ((st = .int .i64 (-1) ∧ done ++ Lib.fieldsGo [] (s.data.toList.drop k) = Lib.fields s.data.toList) ∨
       ∃ fs : Nat, fs < k ∧ st = .int .i64 fs ∧ done ++ Lib.fieldsGo ((s.data.toList.drop fs).take (k - fs)) (s.data.toList.drop k) = Lib.fields s.data.toList))
    (fun _ i _ => s.size - (intOf i).toNat)
  case atStart => exact ⟨[], 0, Nat.zero_le _, rfl, h0, Below.refl _ _, .inl ⟨rfl, rfl⟩⟩
  case round =>
    obtain ⟨done, k, hk, rfl, hJ, hnx, hst⟩ := hrel
    have hBw : wr.cell? ⟨Bs, ob, none⟩ = some (.string s) := (hnx.cell (p := ⟨Bs, ob, none⟩) hb).trans hBs
    by_cases hkn : k < s.size
    · have hkz : (k : Int) < (s.size : Int) := by omega
      obtain ⟨x, hx⟩ : ∃ x : UInt8, s[k] = x := ⟨_, rfl⟩
      have hxl : s.data.toList[k]? = some x := by rw [← hx]; exact Lib.data_getElem? s k hkn
      have hx128 : x.toNat < 128 := HA.out k x hxl
      have hxz : (x.toNat : Int) < 256 := by omega
      have hTx : wr.cell? ⟨0, x.toNat, none⟩ = some (.int .u8 (if Lib.isSp x then 1 else 0)) := by
        have := (hnx.cell (p := ⟨0, x.toNat, none⟩) hb0).trans (HT.out x.toNat (by omega))
        simpa using this
      have Hx : Asd (s.data.toList[k]? = some x) := ⟨hxl⟩
      clear hxl
      have hxu : ¬ ((128 : Int) ≤ (x.toNat : Int)) := by omega
      rcases hst with ⟨rfl, hd⟩ | ⟨fs, hf, rfl, hd⟩
      · have HD : Asd (done ++ Lib.fieldsGo [] (s.data.toList.drop k) = Lib.fields s.data.toList) := ⟨hd⟩
        clear hd
        cases hsx : Lib.isSp x <;> rw [hsx] at hTx <;> simp only [if_true, Bool.false_eq_true, if_false] at hTx
        · gi_wp2
          go_roundw
          case rel => exact ⟨done, k + 1, by omega, by first | rfl | simp, hJ, hnx, .inr ⟨k, by omega, rfl, by rw [Lib.piece_more (Nat.le_refl _) Hx.out, Lib.piece_nil, ← Lib.fieldsGo_more _ _ _ hsx, ← Lib.drop_at Hx.out]; exact HD.out⟩⟩
          case measure => simp [intOf]; omega
        · gi_wp2
          go_roundw
          case rel => exact ⟨done, k + 1, by omega, by first | rfl | simp, hJ, hnx, .inl ⟨rfl, by rw [← Lib.fieldsGo_sp _ _ hsx, ← Lib.drop_at Hx.out]; exact HD.out⟩⟩
          case measure => simp [intOf]; omega
      · have HD : Asd (done ++ Lib.fieldsGo ((s.data.toList.drop fs).take (k - fs)) (s.data.toList.drop k) = Lib.fields s.data.toList) := ⟨hd⟩
        have c1 : (fs : Int) ≤ (k : Int) := by omega
        have c2 : (k : Int) ≤ (s.size : Int) := by omega
        clear hd
        cases hsx : Lib.isSp x <;> rw [hsx] at hTx <;> simp only [if_true, Bool.false_eq_true, if_false] at hTx
        · gi_wp2
          go_roundw
          case rel => exact ⟨done, k + 1, by omega, by first | rfl | simp, hJ, hnx, .inr ⟨fs, by omega, rfl, by rw [Lib.piece_more (by omega) Hx.out, ← Lib.fieldsGo_more _ _ _ hsx, ← Lib.drop_at Hx.out]; exact HD.out⟩⟩
          case measure => simp [intOf]; omega
        · have hne := Lib.piece_ne (l := s.data.toList) hf (by omega)
          have hnext : (done ++ [(s.data.toList.drop fs).take (k - fs)]) ++ Lib.fieldsGo [] (s.data.toList.drop (k + 1)) = Lib.fields s.data.toList := by
            have := HD.out
            rw [Lib.drop_at Hx.out, Lib.fieldsGo_end _ _ _ hsx hne] at this
            rw [← this]
            simp
          have hdl : done.length < (Lib.fields s.data.toList).length := by rw [← hnext]; simp
          have hY' := hY done ((s.data.toList.drop fs).take (k - fs)) wr hJ hdl
          rw [← piece_vS] at hY'
          obtain ⟨fn, tmps, assign, body, hy, hR⟩ := hY'
          have HN : Asd ((done ++ [(s.data.toList.drop fs).take (k - fs)]) ++ Lib.fieldsGo [] (s.data.toList.drop (k + 1)) = Lib.fields s.data.toList) := ⟨hnext⟩
          clear hnext hdl hne
          gi_wp2
          refine hR.mono ?_
          rintro e W3 (⟨rfl, hJ3, hk3⟩ | ⟨rfl, hJx3⟩)
          · gi_wp2
            go_roundw
            case rel => exact ⟨_, k + 1, by omega, by first | rfl | simp, hJ3, hnx.trans hk3, .inl ⟨rfl, HN.out⟩⟩
            case measure => simp [intOf]; omega
          · gi_wp2
            refine bodyPost_ret (results_none rfl _ _ _) rfl ?_
            exact ⟨⟨_, rfl⟩, .inr ⟨_, hJx3⟩⟩
    · obtain rfl : k = s.size := by omega
      have hkz : ¬ ((s.size : Int) < (s.size : Int)) := by omega
      rw [← hlen, List.drop_length, hlen] at hst
      rcases hst with ⟨rfl, hd⟩ | ⟨fs, hf, rfl, hd⟩
      · have hfin : done = Lib.fields s.data.toList := by simpa [Lib.fieldsGo] using hd
        rw [hfin] at hJ
        gi_wp2
        go_end0
        exact ⟨⟨_, rfl⟩, .inl hJ⟩
      · have hne := Lib.piece_ne (l := s.data.toList) hf (by omega)
        have e1 : Lib.fieldsGo ((s.data.toList.drop fs).take (s.size - fs)) [] = [(s.data.toList.drop fs).take (s.size - fs)] := by
          cases hc : (s.data.toList.drop fs).take (s.size - fs) with
          | nil => exact absurd hc hne
          | cons _ _ => rfl
        rw [e1] at hd
        have hdl : done.length < (Lib.fields s.data.toList).length := by rw [← hd]; simp
        have c1 : (fs : Int) ≤ (s.size : Int) := by omega
        have hY' := hY done ((s.data.toList.drop fs).take (s.size - fs)) wr hJ hdl
        rw [← piece_vS] at hY'
        obtain ⟨fn, tmps, assign, body, hy, hR⟩ := hY'
        have HD : Asd (done ++ [(s.data.toList.drop fs).take (s.size - fs)] = Lib.fields s.data.toList) := ⟨hd⟩
        clear hd hne e1 hdl
        gi_wp2
        refine hR.mono ?_
        rintro e W3 (⟨rfl, hJ3, hk3⟩ | ⟨rfl, hJx3⟩)
        · gi_wp2
          go_end0
          rw [HD.out] at hJ3
          exact ⟨⟨_, rfl⟩, .inl hJ3⟩
        · gi_wp2
          go_end0
          exact ⟨⟨_, rfl⟩, .inr ⟨_, hJx3⟩⟩
set_option maxHeartbeats 1000000 in
/-- strings.FieldsSeq: the text is boxed; the function captures the box. -/
theorem fields70 (s : ByteArray) (w : World) :
    Calls Tryz.prog 70 #[.string s] w fun e w' => e = .returned (.func (.func 97) #[] #[.pointer (some ⟨w.heap.size, 0, none⟩)]) ∧ w' = w.alloc (.cells #[.string s] 9) := by
  refine (callsIn_wide (n := 1)).1 ?_
  refine callsIn_of_wp Tryz.func70 rfl trivial ?_ rfl
  simp only [Tryz.ntmps70, List.size_toArray, List.length_cons, List.length_nil, Nat.reduceAdd, Nat.reduceSub, Array.replicate_succ, Array.replicate_zero, List.push_toArray, List.append_toArray, List.nil_append, List.cons_append]
  gi_wp2
  go_ret
  exact ⟨rfl, rfl⟩
theorem fields_stops (n : Nat) (hn : 1 ≤ n) (Bs ob n0 : Nat) (s : ByteArray) (hs : s.size < 4294967281) (hascii : ∀ (j : Nat) b, s.data.toList[j]? = some b → b.toNat < 128) (w : World) (hb : Bs < n0) (hb0 : 0 < n0) (hn0 : n0 ≤ w.heap.size)
    (hc : w.cell? ⟨Bs, ob, none⟩ = some (.string s)) (hT : SpTab w) :
    SeqStopsK Fence.wide n Tryz.prog 97 #[.pointer (some ⟨Bs, ob, none⟩)] (fun x : List UInt8 => #[vS x]) (Below n0) (fun ys => ys = Lib.fields s.data.toList) (fun _ => True) (Lib.fields s.data.toList).length w := fun l J Jx W hW _ _ hY h0 => by
  have hc' := ((hW.mono hn0).cell (p := ⟨Bs, ob, none⟩) hb).trans hc
  refine (fieldsC n hn l Bs ob n0 s hs hascii hb hb0 J Jx hY W hc' (fun c hcc => ((hW.mono hn0).cell (p := ⟨0, c, none⟩) hb0).trans (hT c hcc)) h0).mono ?_
  rintro e W' ⟨he, hj | ⟨pre, hj⟩⟩
  · exact ⟨he, .inl ⟨_, rfl, hj⟩⟩
  · exact ⟨he, .inr ⟨_, trivial, hj⟩⟩
end Go.Proofs.YtdhbhedfbdckaaaGreatDoor

/- slices.AppendSeq of strings.FieldsSeq: what the machine does. -/
namespace Go.Proofs.YtdhbhedfbdckaaaGreatDoor
open Go.RowKit Go.Shelf
set_option linter.unusedVariables false
set_option linter.unusedSimpArgs false
attribute [local go_sem] Oper.semAt_some
theorem i9 : ∃ i, Tryz.prog.info? 9 = some i ∧ i.zero = some (.string ByteArray.empty) ∧ i.size = 1 ∧ i.bytes = 16 := by
  have h : (Tryz.prog.info? 9).map (fun i => (i.zero, i.size, i.bytes)) = some (some (.string ByteArray.empty), 1, 16) := by kernel_rfl
  obtain ⟨i, hi, hz⟩ := Option.map_eq_some_iff.1 h
  simp only [Prod.mk.injEq] at hz
  exact ⟨i, hi, hz.1, hz.2.1, hz.2.2⟩
theorem u54 : Tryz.prog.underlying 54 = some (.slice 9) := by kernel_rfl
set_option maxRecDepth 100000 in
set_option maxHeartbeats 4000000 in
theorem append109 (n : Nat) (hn : 3 ≤ n) (Bs ob : Nat) (s : ByteArray) (hs : s.size < 4294967281) (hascii : ∀ (j : Nat) b, s.data.toList[j]? = some b → b.toNat < 128) (hreach : (Lib.fields s.data.toList).length * 16 ≤ 140737488351232) (w : World) (hBs : Bs < w.heap.size) (hc : w.cell? ⟨Bs, ob, none⟩ = some (.string s)) (hT : SpTab w) (hb0 : 0 < w.heap.size) :
    CallsIn Fence.wide n Tryz.prog 109 #[.slice none 0 0, .func (.func 97) #[] #[.pointer (some ⟨Bs, ob, none⟩)]] w fun e W' => ∃ v, e = .returned v ∧ W'.ownsRow w.heap.size 9 1 v (Lib.fields s.data.toList).length ((Lib.fields s.data.toList).map vS) ∧ Below w.heap.size w W' := by
  have h1 : 1 ≤ n := by omega
  obtain ⟨i0, hi0, hz0, hz1, hz2⟩ := i9
  refine callsIn_of_wp_marks Tryz.func109 rfl trivial ?_ rfl
  simp only [Tryz.ntmps109, List.size_toArray, List.length_cons, List.length_nil, Nat.reduceAdd, Nat.reduceSub, Array.replicate_succ, Array.replicate_zero, List.push_toArray, List.append_toArray, List.nil_append, List.cons_append]
  gi_wp2
  have bS := Boxed.new w 54 (.slice none 0 0)
  have hB0 : Below w.heap.size w (w.alloc (.cells #[.slice none 0 0] 54)) := (Below.refl _ w).alloc (Nat.le_refl _) _
  have hT0 : SpTab (w.alloc (.cells #[.slice none 0 0] 54)) := fun c hcc => (hB0.cell (p := ⟨0, c, none⟩) hb0).trans (hT c hcc)
  refine wpIn_rangeFunc_ownG rfl h1 (gf := 97) (lb := #[.pointer (some ⟨Bs, ob, none⟩)]) rfl trivial (enters_of Tryz.func97 (by kernel_rfl) rfl)
    (fields_stops (n - 1) (by omega) Bs ob w.heap.size s hs hascii _ hBs hb0 (by simp) ((hB0.cell (p := ⟨Bs, ob, none⟩) hBs).trans hc) hT0) belowK_t (belowK_b (by simp)) (Below.refl _ _) (fun _ => rfl)
    (fun pre W => (∃ v, Boxed W w.heap.size 54 v ∧ W.ownsRow w.heap.size 9 1 v pre.length (pre.map vS) ∧ True) ∧ Below w.heap.size w W)
    (fun _ _ _ => False)
    (OwnFrom.and (Own.from (holdsRow_own w.heap.size w.heap.size 54 9 1 (fun pre : List (List UInt8) => pre.length) (fun pre => pre.map vS) (fun _ _ => True)) _) (ownFrom_below (Nat.le_refl _) (by simp)))
    (fun _ _ _ _ _ hs _ _ => hs)
    ⟨⟨_, bS, ⟨rfl, .inl ⟨rfl, rfl⟩⟩, trivial⟩, hB0⟩
    (fun x => { tmps := #[.slice none 0 0, .func (.func 97) #[] #[.pointer (some ⟨Bs, ob, none⟩)], .pointer (some ⟨w.heap.size, 0, none⟩), undef, .slice none 0 0, .string ⟨x.toArray⟩, .func (.func 97) #[] #[.pointer (some ⟨Bs, ob, none⟩)], .string ⟨x.toArray⟩, undef, undef, undef, undef, undef], defers := [] }) ?assign ?body ?done ?stop
  case assign =>
    intro l x W K hK
    gi_wp2
    exact hK
  case body =>
    rintro l pre x W ⟨⟨v, hv, hrow, _⟩, hB⟩ hlt
    have hcv := hv.cell
    have hBsz := hB.size
    have hm1 : pre.length + 1 ≤ maxLen := by simp only [maxLen]; omega
    have hm2 : (pre.length + 1) * 16 ≤ 140737488355328 := by omega
    have hm3 : w.heap.size ≤ (W.alloc (.cells #[.string ⟨x.toArray⟩] 9)).heap.size := by simp; omega
    gi_wp2_with (first
      | (gi_at_builtin; refine wpListIn_append_own _ rfl _ _ 54 rfl w.heap.size 9 i0 (.string ByteArray.empty) 1 16 u54 hi0 hz0 hz1 hz2 rfl (by decide) _ _ _ rfl (hrow.alloc _) ⟨W.heap.size, 0, none⟩ 1 1 [.string ⟨x.toArray⟩] rfl rfl (cell_one_new _ _ _) (by simp [Value.oneCell', vS]) hm1 hm2 hm3 ?_; intro v' w3 hown' hg3 hnil3
         obtain ⟨k1, k2, k3, k4, k5⟩ := Boxed.appended hv (by decide) hrow hBsz (Nat.le_refl _) hown' hg3
         obtain ⟨g', cap', rfl⟩ := ownsRow_succ hown'
         have k1c := k1.cell
         have k1f := k1.frozen
         simp only [Act.put, List.setIfInBounds_toArray, List.set_cons_succ, List.set_cons_zero])
      | (rw [Oper.semAt_eq _ _ _ (fun c h => by cases h)]; go_simp; try go_bits))
    exact ⟨k4.from _, k5, ⟨_, k2, by simpa [vS] using k3, trivial⟩, hB.trans k5⟩
  case done =>
    rintro D ys W hD rfl ⟨⟨v, hv, hrow, _⟩, hB⟩ hK
    have hcv := hv.cell
    gi_wp2
    refine ⟨by simp, .inl ⟨_, _, rfl, run_takeDeferred hK, ?_⟩⟩
    exact ⟨_, results_tmp rfl _ _ _, v, rfl, ownsRow_putObj hrow _ hK rfl, hB.trans (belowK_b (w := w) (Nat.le_refl _) W D _ _ (by simp at hD; omega) hK rfl rfl)⟩
  case stop =>
    rintro D c pre W _ _ h _
    exact h.elim
end Go.Proofs.YtdhbhedfbdckaaaGreatDoor

/- slices.Sorted of strings.FieldsSeq: what the machine does. -/
namespace Go.Proofs.YtdhbhedfbdckaaaGreatDoor
open Go.RowKit Go.Shelf Go.Sort
set_option linter.unusedVariables false
set_option linter.unusedSimpArgs false
attribute [local go_sem] Oper.semAt_some
set_option maxRecDepth 100000 in
set_option maxHeartbeats 1000000 in
theorem collect95 (n : Nat) (hn : 4 ≤ n) (Bs ob : Nat) (s : ByteArray) (hs : s.size < 4294967281) (hascii : ∀ (j : Nat) b, s.data.toList[j]? = some b → b.toNat < 128) (hreach : (Lib.fields s.data.toList).length * 16 ≤ 140737488351232) (w : World) (hBs : Bs < w.heap.size) (hc : w.cell? ⟨Bs, ob, none⟩ = some (.string s)) (hT : SpTab w) (hb0 : 0 < w.heap.size) :
    CallsIn Fence.wide n Tryz.prog 95 #[.func (.func 97) #[] #[.pointer (some ⟨Bs, ob, none⟩)]] w fun e W' => ∃ v, e = .returned v ∧ W'.ownsRow w.heap.size 9 1 v (Lib.fields s.data.toList).length ((Lib.fields s.data.toList).map vS) ∧ Below w.heap.size w W' := by
  have h1 : 1 ≤ n := by omega
  have e109 : ∀ args w, (callFunc 109 args).run Tryz.prog w = .ok (.enter 109 args) w := enters_of Tryz.func109 (by kernel_rfl) rfl
  have h109 : Fence.wide.fn 109 := trivial
  refine callsIn_of_wp Tryz.func95 rfl trivial ?_ rfl
  simp only [Tryz.ntmps95, List.size_toArray, List.length_cons, List.length_nil, Nat.reduceAdd, Nat.reduceSub, Array.replicate_succ, Array.replicate_zero, List.push_toArray, List.append_toArray, List.nil_append, List.cons_append]
  gi_wp2_with (gi_at_call 109; refine (append109 (n - 1) (by omega) Bs ob s hs hascii hreach _ hBs hc hT hb0).mono ?_; rintro e w' ⟨v, rfl, hrow, hb⟩)
  go_ret
  exact ⟨v, rfl, hrow, hb⟩
set_option maxRecDepth 100000 in
set_option maxHeartbeats 1000000 in
theorem sorted69 (n : Nat) (hn : 5 ≤ n) (Bs ob : Nat) (s : ByteArray) (hs : s.size < 4294967281) (hascii : ∀ (j : Nat) b, s.data.toList[j]? = some b → b.toNat < 128) (hreach : (Lib.fields s.data.toList).length * 16 ≤ 140737488351232) (hne : Lib.fields s.data.toList ≠ []) (w : World) (hBs : Bs < w.heap.size) (hc : w.cell? ⟨Bs, ob, none⟩ = some (.string s)) (hT : SpTab w) (hb0 : 0 < w.heap.size) :
    CallsIn Fence.wide n Tryz.prog 69 #[.func (.func 97) #[] #[.pointer (some ⟨Bs, ob, none⟩)]] w fun e W' => ∃ v, e = .returned v ∧ W'.ownsRow w.heap.size 9 1 v (Lib.fields s.data.toList).length (((Lib.fields s.data.toList).mergeSort fun x y => decide (x ≤ y)).map vS) ∧ Below w.heap.size w W' := by
  have h1 : 1 ≤ n := by omega
  have e95 : ∀ args w, (callFunc 95 args).run Tryz.prog w = .ok (.enter 95 args) w := enters_of Tryz.func95 (by kernel_rfl) rfl
  have e96 : ∀ args w, (callFunc 96 args).run Tryz.prog w = .ok (.enter 96 args) w := enters_of Tryz.func96 (by kernel_rfl) rfl
  have h95 : Fence.wide.fn 95 := trivial
  have h96 : Fence.wide.fn 96 := trivial
  have sS : ∀ (m blk off cap : Nat) (ss : List (List UInt8)) (W : World), Holds encStr W blk off ss.toArray → blk < W.heap.size → ss.length < 4611686018427387904 →
      CallsIn Fence.wide m Tryz.prog 96 #[.slice (some ⟨blk, off, none⟩) ss.length cap] W fun e w' => e = .returned (.tuple #[]) ∧ ∃ k os, w' = grow (putRow encStr (Sort.ahead W k) blk off (ss.mergeSort fun x y => decide (x ≤ y)).toArray) os :=
    fun m blk off cap ss W hH hblk hsz => callsIn_wide.2 (Any.slices_Sort_string Tryz.sortS blk off cap ss W hH hblk hsz)
  have hlen0 : 0 < (Lib.fields s.data.toList).length := List.length_pos_iff.2 hne
  generalize hzs : Lib.fields s.data.toList = zs at *
  refine callsIn_of_wp Tryz.func69 rfl trivial ?_ rfl
  simp only [Tryz.ntmps69, List.size_toArray, List.length_cons, List.length_nil, Nat.reduceAdd, Nat.reduceSub, Array.replicate_succ, Array.replicate_zero, List.push_toArray, List.append_toArray, List.nil_append, List.cons_append]
  have hcol := collect95 (n - 1) (by omega) Bs ob s hs hascii (by rw [hzs]; exact hreach) w hBs hc hT hb0
  rw [hzs] at hcol
  gi_wp2_with (gi_at_call 95; refine hcol.mono ?_; rintro e W ⟨v, rfl, hrow, hb⟩)
  rcases hrow.2 with ⟨rfl, hz⟩ | ⟨gb, cap, cur, rfl, hbase, hgb, r1, r2, r3, r4⟩
  · omega
  · have hH : Holds encStr W gb 0 zs.toArray := holds_of_block hgb (by rw [Nat.mul_one] at r4; exact r4)
    have hgl : gb < W.heap.size := (Array.getElem?_eq_some_iff.1 hgb).1
    have cS := sS (n - 1) gb 0 cap zs W hH hgl (by omega)
    gi_wp2_with (gi_at_call 96; refine cS.mono ?_; rintro e w' ⟨rfl, nn, os, rfl⟩)
    go_ret
    exact ⟨_, rfl, ownsRow_sorted (by simp) hbase hgb r1 r2 r3, hb.grown (grownBy_sorted _) hb.size (fun j hj => by cases hj; exact hbase)⟩
end Go.Proofs.YtdhbhedfbdckaaaGreatDoor

/- The words of a language: what the machine does. -/
namespace Go.Proofs.YtdhbhedfbdckaaaGreatDoor
open Go.RowKit Go.Shelf Go.Sort
set_option linter.unusedVariables false
set_option linter.unusedSimpArgs false
attribute [local go_sem] Oper.semAt_some
theorem ownsRow_low {w : World} {base base' : Nat} {e : TypeId} {size n : Nat} {v : Value} {xs : List Value} (h : w.ownsRow base e size v n xs) (hb : base' ≤ base) : w.ownsRow base' e size v n xs := by
  obtain ⟨hl, h⟩ := h
  refine ⟨hl, ?_⟩
  rcases h with h | ⟨g, cap, cur, rfl, hb', r⟩
  · exact .inl h
  · exact .inr ⟨g, cap, cur, rfl, Nat.le_trans hb hb', r⟩
set_option maxRecDepth 100000 in
set_option maxHeartbeats 1000000 in
theorem lang68 (s : ByteArray) (hs : s.size < 4294967281) (hascii : ∀ (j : Nat) b, s.data.toList[j]? = some b → b.toNat < 128) (hreach : (Lib.fields s.data.toList).length * 16 ≤ 140737488351232) (hne : Lib.fields s.data.toList ≠ []) (w : World) (hT : SpTab w) :
    Calls Tryz.prog 68 #[.string s] w fun e W' => ∃ v, e = .returned v ∧ W'.ownsRow w.heap.size 9 1 v (Lib.fields s.data.toList).length (((Lib.fields s.data.toList).mergeSort fun x y => decide (x ≤ y)).map vS) ∧ Below w.heap.size w W' := by
  refine (callsIn_wide (n := 7)).1 ?_
  have h1 : 1 ≤ 7 := by omega
  have hb0 : 0 < w.heap.size := World.block_lt_of_cell? _ _ (hT 0 (by omega))
  have e70 : ∀ args w, (callFunc 70 args).run Tryz.prog w = .ok (.enter 70 args) w := enters_of Tryz.func70 (by kernel_rfl) rfl
  have e69 : ∀ args w, (callFunc 69 args).run Tryz.prog w = .ok (.enter 69 args) w := enters_of Tryz.func69 (by kernel_rfl) rfl
  have h70 : Fence.wide.fn 70 := trivial
  have h69 : Fence.wide.fn 69 := trivial
  have hB0 : Below w.heap.size w (w.alloc (.cells #[.string s] 9)) := (Below.refl _ w).alloc (Nat.le_refl _) _
  have hT0 : SpTab (w.alloc (.cells #[.string s] 9)) := fun c hcc => (hB0.cell (p := ⟨0, c, none⟩) hb0).trans (hT c hcc)
  have c70 : CallsIn Fence.wide 6 Tryz.prog 70 #[.string s] w fun e w' => e = .returned (.func (.func 97) #[] #[.pointer (some ⟨w.heap.size, 0, none⟩)]) ∧ w' = w.alloc (.cells #[.string s] 9) := callsIn_wide.2 (fields70 s w)
  have c69 := sorted69 6 (by omega) w.heap.size 0 s hs hascii hreach hne (w.alloc (.cells #[.string s] 9)) (by simp) (by exact cell_one_new w (.string s) 9 0 _ rfl) hT0 (by simp)
  have hsz : w.heap.size ≤ (w.alloc (.cells #[.string s] 9)).heap.size := by simp
  refine callsIn_of_wp Tryz.func68 rfl trivial ?_ rfl
  simp only [Tryz.ntmps68, List.size_toArray, List.length_cons, List.length_nil, Nat.reduceAdd, Nat.reduceSub, Array.replicate_succ, Array.replicate_zero, List.push_toArray, List.append_toArray, List.nil_append, List.cons_append]
  gi_wp2_with (first
    | (gi_at_call 70; refine c70.mono ?_; rintro e w' ⟨rfl, rfl⟩)
    | (gi_at_call 69; refine c69.mono ?_; rintro e w' ⟨v, rfl, hrow, hb⟩))
  go_ret
  exact ⟨v, rfl, ownsRow_low hrow hsz, hB0.trans (hb.mono hsz)⟩
end Go.Proofs.YtdhbhedfbdckaaaGreatDoor
