/- A part of an interpreter of the model's code that is proved sound, and of laws told by it: DamW1, DamW2. -/
import Derived.Test.YtdehjednpdbhaaaDoorPvD1
import Derived.Test.YtdehjednpdbhaaaDoorChecked
import Derived.WalkKit
import Derived.WalkSpells
import Derived.LoopTactic
import Derived.Lib.AppendStr
import Derived.Lib.UnsafeStr
import Derived.Laws.AppendOwn
import Derived.Laws.IdiomStrings
import Derived.Laws.CopyRow
import Derived.RangeFuncBox
import Derived.RangeFuncLeaves
import Derived.RangeFuncWrites
import Derived.Shelf.Abstract
import Derived.OwnWalkIn
import Derived.TacticsInMore
import Derived.BigRegionIn
import Derived.LoopNIn
import Derived.LoopIn
import Derived.Lib.Walk
import Derived.Lib.Strings
set_option linter.unusedVariables false
set_option linter.unusedSimpArgs false
/- The block of an entry: what the machine does. -/
namespace Go.Proofs.YtdehjednpdbhaaaDoor
open Go.Dam Go.RowKit
set_option linter.unusedVariables false
set_option linter.unusedSimpArgs false
theorem hid {p : Prop} (h : p) : Hid p := h
theorem wpList_val {P : Program} {ops : Array Oper} {rest : List Oper} {o : Oper} {a : Act} {Q : Exit → Act → World → Prop} {w : World} (hgd : o.guard = none) {v' : Value} {w' : World}
    (hr : (execOp a.eval o).run P w = .ok (.value v') w') (h : wpList P ops Q rest (a.put o.dst v') w') : wpList P ops Q (o :: rest) a w :=
  wpList_plain hgd fun K hK => by
    unfold Oper.wp
    rw [hr]
    exact hK _ _ h
theorem exec_app {P : Program} {w : World} {o : Oper} {a : Act} (s x : Operand) (t u : TypeId) (ho : o.op = .call { callee := .builtin .append, args := #[s, x], argTypes := #[t, u] }) {v v' y : Value} {w' : World} (hs : a.eval s = v) (hx : a.eval x = y)
    (hr : (Builtin.append_ #[t, u] o.type #[v, y]).run P w = .ok v' w') : (execOp a.eval o).run P w = .ok (.value v') w' := by
  unfold execOp
  simp only [ho, resolve, invoke, builtin, Sem.run_bind, Sem.run_pure, Result.andThen_ok, List.map_toArray, List.map_cons, List.map_nil, hs, hx, hr]
def bc (l : List UInt8) : Array Value := (Lib.byteCells l).toArray
theorem bc_list (l : List UInt8) : (bc l).toList = Lib.byteCells l := rfl
theorem bc_size (l : List UInt8) : (bc l).size = l.length := by simp [bc, Lib.byteCells]
theorem byteCells_app (a b : List UInt8) : Lib.byteCells (a ++ b) = Lib.byteCells a ++ Lib.byteCells b := by simp [Lib.byteCells]
theorem byteCells_take (l : List UInt8) (n : Nat) : (Lib.byteCells l).take n = Lib.byteCells (l.take n) := by simp [Lib.byteCells, List.map_take]
theorem byteCells_drop (l : List UInt8) (n : Nat) : (Lib.byteCells l).drop n = Lib.byteCells (l.drop n) := by simp [Lib.byteCells, List.map_drop]
theorem padL_len {l : List UInt8} (h : l.length ≤ 32) : (padL l).length = 32 := by unfold padL; simp; omega
theorem pad_put (l x : List UInt8) (h : l.length + x.length ≤ 32) : (padL l).take l.length ++ x ++ (padL l).drop (l.length + x.length) = padL (l ++ x) := by
  unfold padL
  rw [List.take_left, List.drop_append, List.drop_of_length_le (by omega), List.nil_append, List.drop_replicate, List.length_append]
  congr 2
  omega
theorem byteZ_nat (n : Nat) (h : n ≤ 255) : ((byteZ n).toNat : Int) = n := by
  unfold byteZ
  rw [UInt8.toNat_ofNat']
  omega
theorem wrap_byteZ (n : Int) : IntKind.u8.wrap n = ((byteZ n).toNat : Int) := by
  unfold byteZ
  rw [UInt8.toNat_ofNat']
  rw [IntKind.wrap_u8]
  omega
section
variable {P : Program} {w : World}
/-- Onto a block's front: a row. -/
theorem app_row (ht : P.underlying 25 = some (.slice 5)) {i : TypeInfo} (hi : P.info? 5 = some i) (hsz : i.size = 1) (ty b : Nat) (l x : List UInt8) (c : Nat) (a : Addr) (T : TypeId) (hb : w.heap[b]? = some (.cells (bc (padL l)) T)) (hx : ∀ j u, (Lib.byteCells x)[j]? = some u → w.cell? (a.add j) = some u) (h : l.length + x.length ≤ 32) :
    (Builtin.append_ #[25, 25] ty #[.slice (some ⟨b, 0, none⟩) l.length 32, .slice (some a) x.length c]).run P w = .ok (.slice (some ⟨b, 0, none⟩) (l.length + x.length) 32) (w.setRow b (bc (padL (l ++ x)))) := by
  have hxl : (Lib.byteCells x).length = x.length := by simp [Lib.byteCells]
  have hf := run_firstCells_some (P := P) w 1 x.length a x.length c (Lib.byteCells x) (by rw [hxl, Nat.mul_one]) hx
  have hst := run_storeCells_at P b l.length T (Lib.byteCells x) 0 (bc (padL l)) w hb (by rw [bc_size, hxl, padL_len (by omega)]; omega) (by intro v hv; simp only [Lib.byteCells, List.mem_map] at hv; obtain ⟨u, _, rfl⟩ := hv; rfl)
  simp only [Nat.add_zero, hxl, bc_list, byteCells_take, byteCells_drop] at hst
  rw [← byteCells_app, ← byteCells_app, pad_put l x h] at hst
  have hr : l.length + x.length ≤ 32 := h
  simp [Builtin.append_, run_underlying ht, sizeOf, typeInfo, hi, hsz, Builtin.lenOf, hr, hf, Addr.add_lit, hst, bc]
/-- Onto a block's front: a text. -/
theorem app_str (ht : P.underlying 25 = some (.slice 5)) (hu : P.underlying 9 = some .string) {i : TypeInfo} (hi : P.info? 5 = some i) (hsz : i.size = 1) (ty b : Nat) (l : List UInt8) (s : ByteArray) (T : TypeId) (hb : w.heap[b]? = some (.cells (bc (padL l)) T)) (h : l.length + s.size ≤ 32) :
    (Builtin.append_ #[25, 9] ty #[.slice (some ⟨b, 0, none⟩) l.length 32, .string s]).run P w = .ok (.slice (some ⟨b, 0, none⟩) (l.length + s.size) 32) (w.setRow b (bc (padL (l ++ s.data.toList)))) := by
  have hsl : s.data.toList.length = s.size := by rw [Array.length_toList]; rfl
  have hxl : (Lib.strCells s).length = s.size := Lib.strCells_length s
  have hbc : Lib.strCells s = Lib.byteCells s.data.toList := rfl
  have hf := Lib.run_firstCells_string (P := P) w 1 s
  have hst := run_storeCells_at P b l.length T (Lib.strCells s) 0 (bc (padL l)) w hb (by rw [bc_size, hxl, padL_len (by omega)]; omega) (Lib.strCells_oneCell s)
  simp only [Nat.add_zero, hxl, bc_list, byteCells_take, byteCells_drop] at hst
  rw [hbc, ← byteCells_app, ← byteCells_app] at hst
  have hp := pad_put l s.data.toList (by omega)
  rw [hsl] at hp
  rw [hp, ← hbc] at hst
  have hr : l.length + s.size ≤ 32 := h
  simp [Builtin.append_, run_underlying ht, run_underlying hu, sizeOf, typeInfo, hi, hsz, Builtin.lenOf, hr, hf, Addr.add_lit, hst, bc]
end
theorem i5 : ∃ i, Tryd.prog.info? 5 = some i ∧ i.size = 1 := by
  have h : (Tryd.prog.info? 5).map (fun i => i.size) = some 1 := by kernel_rfl
  obtain ⟨i, hi, hz⟩ := Option.map_eq_some_iff.1 h
  exact ⟨i, hi, hz⟩
theorem u25 : Tryd.prog.underlying 25 = some (.slice 5) := by kernel_rfl
theorem u9 : Tryd.prog.underlying 9 = some .string := by kernel_rfl
theorem u5 : Tryd.prog.underlying 5 = some (.int .u8) := by kernel_rfl
def m0 (s : ByteArray) : List UInt8 := [165, byteZ s.size] ++ s.data.toList
def dig (d : Int) : List UInt8 := [byteZ (d / 4294967296), byteZ (d / 16777216), byteZ (d / 65536), byteZ (d / 256), byteZ d]
structure BW (w : World) (s : ByteArray) (d v t : Int) (l : List UInt8) (W : World) : Prop where
  below : Below w.heap.size w W
  size : w.heap.size + 2 ≤ W.heap.size
  bx : W.heap[w.heap.size]? = some (.cells #[.string s, .int .i64 d, .int .i64 v, .int .i64 t] 46)
  bb : W.heap[w.heap.size + 1]? = some (.cells (bc (padL l)) 60)
theorem BW.alloc {w W : World} {s : ByteArray} {d v t : Int} {l : List UInt8} (h : BW w s d v t l W) (o : Obj) : BW w s d v t l (W.alloc o) := by
  obtain ⟨h1, h2, h3, h4⟩ := h
  exact ⟨h1.alloc (by omega) o, by simp; omega, (Below.heap_alloc W o _ (by omega)).trans h3, (Below.heap_alloc W o _ (by omega)).trans h4⟩
theorem BW.put {w W : World} {s : ByteArray} {d v t : Int} {l : List UInt8} (h : BW w s d v t l W) (m : List UInt8) : BW w s d v t m (W.setRow (w.heap.size + 1) (bc (padL m))) := by
  obtain ⟨h1, h2, h3, h4⟩ := h
  exact ⟨⟨h1.os, h1.tape, h1.output, by simpa using h1.size, fun k hk => (setRow_other W _ k _ (by omega)).trans (h1.block k hk)⟩, by simpa using h2, (setRow_other W _ _ _ (by omega)).trans h3, setRow_heap W _ _ _ _ _ h4⟩
theorem alloc_at (w : World) (o : Obj) (k : Nat) (h : k = w.heap.size) : (w.alloc o).heap[k]? = some o := by
  subst h; exact heap_alloc_new w o
theorem alloc_was (w : World) (o : Obj) (k : Nat) (h : k < w.heap.size) : (w.alloc o).heap[k]? = w.heap[k]? := Below.heap_alloc w o k h
theorem drew_heap (w : World) : w.drew.heap = w.heap := rfl
theorem cellN_of {w : World} {b : Nat} {c : Array Value} {e : TypeId} (h : w.heap[b]? = some (.cells c e)) (j : Nat) : w.cell? ⟨b, j, none⟩ = c[j]? := by
  unfold World.cell?; simp [h]
theorem new_row (w : World) (x : List UInt8) (T : TypeId) : ∀ j u, (Lib.byteCells x)[j]? = some u → (w.alloc (.cells (bc x) T)).cell? ((⟨w.heap.size, 0, none⟩ : Addr).add j) = some u := by
  intro j u hj
  have hadd : (⟨w.heap.size, 0, none⟩ : Addr).add j = ⟨w.heap.size, j, none⟩ := by unfold Addr.add; split <;> simp_all
  rw [hadd, cellN_of (alloc_at w _ _ rfl)]
  simpa [bc] using hj
theorem u8v (n : Int) : Value.int .u8 (n % 256) = .int .u8 ((byteZ n).toNat : Int) := by rw [← wrap_byteZ, IntKind.wrap_u8]
/-- Bytes out of a new row onto the block's front. -/
theorem BW.more {w W : World} {s : ByteArray} {d v t : Int} {l : List UInt8} (h : BW w s d v t l W) {i : TypeInfo} (hi : Tryd.prog.info? 5 = some i) (hz : i.size = 1) (x : List UInt8) (n m : Nat) (hn : l.length = n) (hm : x.length = m) (hle : n + m ≤ 32) :
    ∃ W', (Builtin.append_ #[25, 25] 25 #[.slice (some ⟨w.heap.size + 1, 0, none⟩) n 32, .slice (some ⟨W.heap.size, 0, none⟩) m m]).run Tryd.prog (W.alloc (.cells (bc x) 5)) = .ok (.slice (some ⟨w.heap.size + 1, 0, none⟩) (n + m) 32) W' ∧ BW w s d v t (l ++ x) W' := by
  subst hn hm
  have hA := h.alloc (.cells (bc x) 5)
  exact ⟨_, app_row u25 hi hz 25 (w.heap.size + 1) l x _ ⟨W.heap.size, 0, none⟩ 60 hA.bb (new_row W x 5) hle, hA.put _⟩
theorem BW.str {w W : World} {s : ByteArray} {d v t : Int} {l : List UInt8} (h : BW w s d v t l W) {i : TypeInfo} (hi : Tryd.prog.info? 5 = some i) (hz : i.size = 1) (x : ByteArray) (n : Nat) (hn : l.length = n) (hle : n + x.size ≤ 32) :
    ∃ W', (Builtin.append_ #[25, 9] 25 #[.slice (some ⟨w.heap.size + 1, 0, none⟩) n 32, .string x]).run Tryd.prog W = .ok (.slice (some ⟨w.heap.size + 1, 0, none⟩) (n + x.size) 32) W' ∧ BW w s d v t (l ++ x.data.toList) W' := by
  subst hn
  exact ⟨_, app_str u25 u9 hi hz 25 (w.heap.size + 1) l x 60 h.bb hle, h.put _⟩
theorem BW.copy {w W : World} {s : ByteArray} {d v t : Int} {l : List UInt8} (h : BW w s d v t l W) (hi : (Tryd.prog.info? 5).map (·.size) = some 1) (n : Nat) (hn : l.length = n) (hle : n ≤ 32) :
    (Builtin.copy_ #[25, 25] 3 #[.slice (some ⟨w.heap.size + 1, 0, none⟩) 32 32, .slice (some ⟨w.heap.size + 1, 0, none⟩) n 32]).run Tryd.prog W = .ok (goInt n) W := by
  subst hn
  have hlen : (Lib.byteCells l).length = l.length := by simp [Lib.byteCells]
  have hpl := padL_len hle
  have hget : ∀ j u, (Lib.byteCells l)[j]? = some u → W.cell? ((⟨w.heap.size + 1, 0, none⟩ : Addr).add j) = some u := fun j u hj => by
    have hadd : (⟨w.heap.size + 1, 0, none⟩ : Addr).add j = ⟨w.heap.size + 1, j, none⟩ := by unfold Addr.add; split <;> simp_all
    rw [hadd, cellN_of h.bb]
    have hjl : j < l.length := by rw [← hlen]; exact (List.getElem?_eq_some_iff.1 hj).1
    have : bc (padL l) = (Lib.byteCells l ++ Lib.byteCells (List.replicate (32 - l.length) 0)).toArray := by unfold bc padL; rw [byteCells_app]
    rw [this, List.getElem?_toArray, List.getElem?_append_left (by omega)]
    exact hj
  have hr := run_copy_row (P := Tryd.prog) W 25 25 3 5 (w.heap.size + 1) 0 32 32 ⟨w.heap.size + 1, 0, none⟩ l.length 32 (bc (padL l)) 60 (Lib.byteCells l) u25 hi h.bb (by rw [hlen]; exact (Nat.min_eq_left hle).symm) hget (by rw [bc_size, hlen, hpl]; omega) (by intro v hv; simp only [Lib.byteCells, List.mem_map] at hv; obtain ⟨u, _, rfl⟩ := hv; rfl)
  have : (bc (padL l)).toList.take 0 ++ Lib.byteCells l ++ (bc (padL l)).toList.drop (0 + l.length) = Lib.byteCells (padL l) := by
    rw [bc_list, Nat.zero_add, byteCells_drop, List.take_zero, List.nil_append, ← byteCells_app]
    rw [show l ++ (padL l).drop l.length = padL l by unfold padL; rw [List.drop_left]]
  rw [hlen] at hr
  rw [this] at hr
  rw [hr]
  have e : W.setRow (w.heap.size + 1) (Lib.byteCells (padL l)).toArray = W := setRow_self W _ _ 60 (0, 0) h.bb
  rw [e]
theorem BW.text {w W : World} {s : ByteArray} {d v t : Int} {l : List UInt8} (h : BW w s d v t l W) (hle : l.length ≤ 32) :
    (convert 25 9 (.slice (some ⟨w.heap.size + 1, 0, none⟩) 32 32)).run Tryd.prog W = .ok (.string ⟨(padL l).toArray⟩) W := by
  have hpl := padL_len hle
  have := run_convert_bytes_back (P := Tryd.prog) W 25 9 5 ⟨w.heap.size + 1, 0, none⟩ 32 (padL l) u25 u5 u9 (fun j hj => by
    have hadd : (⟨w.heap.size + 1, 0, none⟩ : Addr).add j = ⟨w.heap.size + 1, j, none⟩ := by unfold Addr.add; split <;> simp_all
    rw [hadd, cellN_of h.bb]
    simp [bc, Lib.byteCells, hj])
  rw [hpl] at this
  exact this
set_option maxHeartbeats 8000000 in
set_option maxRecDepth 100000 in
theorem blk_walk (s : ByteArray) (d v t : Int) (hs : s.size ≤ 22) (w : World) :
    Calls Tryd.prog 19 #[.agg #[.string s, .int .i64 d, .int .i64 v, .int .i64 t]] w fun e w' => e = .returned (.string ⟨(padL (recL s.data.toList d v t)).toArray⟩) ∧ Below w.heap.size w w' := by
  obtain ⟨i0, hi0, hz0⟩ := i5
  go_enter Tryd.func19, Tryd.ntmps19
  go_wp2_with fail
  go_region
  generalize hW : World.drew _ = W
  have hB : BW w s d v t [165, byteZ s.size] W := by
    rw [← hW]
    refine ⟨((((Below.refl _ _).alloc (Nat.le_refl _) _).alloc (by simp) _).alloc (by simp; omega) _).drew, by simp [drew_heap], ?_, ?_⟩
    · rw [drew_heap, alloc_was _ _ _ (by simp; omega), alloc_was _ _ _ (by simp), alloc_at _ _ _ rfl]
    · rw [drew_heap, alloc_was _ _ _ (by simp), alloc_at _ _ _ (by simp)]
      simp only [bc, padL, Lib.byteCells, List.replicate, List.length_cons, List.length_nil, List.cons_append, List.nil_append, List.map_cons, List.map_nil, byteZ_nat s.size (by omega)]
      rfl
  clear hW
  have c0 : W.cell? ⟨w.heap.size, 0, none⟩ = some (.string s) := cellN_of hB.bx 0
  have hsl : s.data.toList.length = s.size := by rw [Array.length_toList]; rfl
  obtain ⟨W2, hr, hB2⟩ := hB.str hi0 hz0 s 2 rfl (by omega)
  have HB3 : Hid (BW w s d v t (m0 s ++ (dig d).take 0) W2) := hid (by rw [List.take_zero, List.append_nil]; exact hB2)
  clear hB2 hB
  go_wp2_with (at_builtin; go_loud (refine wpList_val rfl (exec_app (.tmp 13) (.tmp 15) 25 9 rfl rfl rfl hr) ?_))
  clear hr c0
  have hm0 : (m0 s).length = 2 + s.size := by simp [m0]; omega
  go_loopw [4, 5] (fun o i wr => ∃ j : Nat, j ≤ 5 ∧ i = .int .i64 (4 - (j : Int)) ∧ o = .slice (some ⟨w.heap.size + 1, 0, none⟩) (2 + s.size + j) 32 ∧ Hid (BW w s d v t (m0 s ++ (dig d).take j) wr)) (fun _ i _ => (intOf i + 1).toNat)
  case atStart => exact ⟨0, by omega, rfl, rfl, HB3⟩
  case round =>
    obtain ⟨j, hj, rfl, rfl, HB⟩ := hrel
    by_cases hj5 : j < 5
    · have c1 : wr.cell? ⟨w.heap.size, 1, none⟩ = some (.int .i64 d) := cellN_of HB.out.bx 1
      have hlen : (m0 s ++ (dig d).take j).length = 2 + s.size + j := by
        rw [List.length_append, hm0, List.length_take]
        simp [dig]; omega
      have hstep : ∀ z, (dig d)[j]? = some z → (m0 s ++ (dig d).take j) ++ [z] = m0 s ++ (dig d).take (j + 1) := fun z hz => by
        rw [List.append_assoc, List.take_add_one, hz]; rfl
      have : j = 0 ∨ j = 1 ∨ j = 2 ∨ j = 3 ∨ j = 4 := by omega
      rcases this with rfl | rfl | rfl | rfl | rfl
      · obtain ⟨W', hr, hW'⟩ := HB.out.more hi0 hz0 [byteZ (d / 4294967296)] _ 1 hlen rfl (by omega)
        rw [hstep _ rfl] at hW'
        rw [show bc [byteZ (d / 4294967296)] = #[.int .u8 (d / 4294967296 % 256)] by rw [u8v]; rfl] at hr
        have HB4 := hid hW'
        clear hW' hstep
        go_wp2_with (at_builtin; go_loud (refine wpList_val rfl (exec_app (.tmp 21) (.tmp 28) 25 25 rfl rfl rfl hr) ?_))
        exact ⟨⟨1, by omega, by go_num, by simp, HB4⟩, by simp [intOf]⟩
      · obtain ⟨W', hr, hW'⟩ := HB.out.more hi0 hz0 [byteZ (d / 16777216)] _ 1 hlen rfl (by omega)
        rw [hstep _ rfl] at hW'
        rw [show bc [byteZ (d / 16777216)] = #[.int .u8 (d / 16777216 % 256)] by rw [u8v]; rfl] at hr
        have HB4 := hid hW'
        clear hW' hstep
        go_wp2_with (at_builtin; go_loud (refine wpList_val rfl (exec_app (.tmp 21) (.tmp 28) 25 25 rfl rfl rfl hr) ?_))
        exact ⟨⟨2, by omega, by go_num, by simp, HB4⟩, by simp [intOf]⟩
      · obtain ⟨W', hr, hW'⟩ := HB.out.more hi0 hz0 [byteZ (d / 65536)] _ 1 hlen rfl (by omega)
        rw [hstep _ rfl] at hW'
        rw [show bc [byteZ (d / 65536)] = #[.int .u8 (d / 65536 % 256)] by rw [u8v]; rfl] at hr
        have HB4 := hid hW'
        clear hW' hstep
        go_wp2_with (at_builtin; go_loud (refine wpList_val rfl (exec_app (.tmp 21) (.tmp 28) 25 25 rfl rfl rfl hr) ?_))
        exact ⟨⟨3, by omega, by go_num, by simp, HB4⟩, by simp [intOf]⟩
      · obtain ⟨W', hr, hW'⟩ := HB.out.more hi0 hz0 [byteZ (d / 256)] _ 1 hlen rfl (by omega)
        rw [hstep _ rfl] at hW'
        rw [show bc [byteZ (d / 256)] = #[.int .u8 (d / 256 % 256)] by rw [u8v]; rfl] at hr
        have HB4 := hid hW'
        clear hW' hstep
        go_wp2_with (at_builtin; go_loud (refine wpList_val rfl (exec_app (.tmp 21) (.tmp 28) 25 25 rfl rfl rfl hr) ?_))
        exact ⟨⟨4, by omega, by go_num, by simp, HB4⟩, by simp [intOf]⟩
      · obtain ⟨W', hr, hW'⟩ := HB.out.more hi0 hz0 [byteZ (d)] _ 1 hlen rfl (by omega)
        rw [hstep _ rfl] at hW'
        rw [show bc [byteZ (d)] = #[.int .u8 (d % 256)] by rw [u8v]; rfl] at hr
        have HB4 := hid hW'
        clear hW' hstep
        go_wp2_with (at_builtin; go_loud (refine wpList_val rfl (exec_app (.tmp 21) (.tmp 28) 25 25 rfl rfl rfl hr) ?_))
        exact ⟨⟨5, by omega, by go_num, by simp, HB4⟩, by simp [intOf]⟩
    · have hje : j = 5 := by omega
      subst hje
      have c2 : wr.cell? ⟨w.heap.size, 2, none⟩ = some (.int .i64 v) := cellN_of HB.out.bx 2
      have c3 : wr.cell? ⟨w.heap.size, 3, none⟩ = some (.int .i64 t) := cellN_of HB.out.bx 3
      have hlen : (m0 s ++ (dig d).take 5).length = 2 + s.size + 5 := by
        rw [List.length_append, hm0, List.length_take]
        simp [dig]
      obtain ⟨W', hr, hW'⟩ := HB.out.more hi0 hz0 [byteZ v, byteZ t, 90] _ 3 hlen rfl (by omega)
      rw [show bc [byteZ v, byteZ t, 90] = #[.int .u8 (v % 256), .int .u8 (t % 256), .int .u8 90] by rw [u8v, u8v]; rfl] at hr
      have hrec : (m0 s ++ (dig d).take 5) ++ [byteZ v, byteZ t, 90] = recL s.data.toList d v t := by
        simp [m0, dig, recL, hsl]
      rw [hrec] at hW'
      have HB4 := hid hW'
      clear hW' hrec
      go_wp2_with (at_builtin; go_loud (refine wpList_val rfl (exec_app (.tmp 30) (.tmp 37) 25 25 rfl rfl rfl hr) ?_))
      have hrl : (recL s.data.toList d v t).length = 2 + s.size + 5 + 3 := by simp [recL, hsl]; omega
      have hcp := HB4.out.copy (by rw [hi0]; simp [hz0]) _ hrl (by omega)
      have htx := HB4.out.text (by omega)
      rw [hcp]
      go_wp2_with fail
      go_ret
      exact ⟨rfl, HB4.out.below⟩
end Go.Proofs.YtdehjednpdbhaaaDoor

/- The blocks of a journal, by way of slices.Chunk: what the machine does. -/
namespace Go.Proofs.YtdehjednpdbhaaaDoor
open Go.Dam Go.RowKit Go.Shelf
set_option linter.unusedVariables false
set_option linter.unusedSimpArgs false
attribute [local go_sem] Oper.semAt_some
def chV (R : Nat) (q : Nat) : Value := .slice (some ⟨R, q, none⟩) 32 32
set_option maxRecDepth 100000 in
set_option maxHeartbeats 4000000 in
theorem chunkC (n : Nat) (hn : 1 ≤ n) (l Bs R N cap m : Nat) (Hm : Hid (m = 32 * N)) (hcap : m ≤ cap) (hN : N ≤ 48) (F : World → Prop) (hF : ∀ W, F W → W.cell? ⟨Bs, 0, none⟩ = some (.slice (some ⟨R, 0, none⟩) m cap) ∧ W.cell? ⟨Bs + 1, 0, none⟩ = some (.int .i64 32)) (hFd : ∀ W, F W → F W.drew) (J Jx : List (Fin N) → World → Prop) (A : Nat) (hA : AbidesFrom A J)
    (hY : ∀ pre x W, J pre W → pre.length < N → YieldAt Fence.wide (n - 1) Tryd.prog l #[chV R (32 * x.val)] W fun e W' =>
      (e = .returned (.bool true) ∧ J (pre ++ [x]) W' ∧ (F W → F W')) ∨ (e = .returned (.bool false) ∧ Jx (pre ++ [x]) W'))
    (W : World) (hFW : F W) (h0 : J [] W) :
    CallsIn Fence.wide n Tryd.prog 34 #[.func (.yield l) #[] #[], .pointer (some ⟨Bs, 0, none⟩), .pointer (some ⟨Bs + 1, 0, none⟩)] W fun e W' => (∃ v, e = .returned v) ∧ (J (List.finRange N) W' ∨ ∃ pre, Jx pre W') := by
  refine callsIn_of_wp Tryd.func34 rfl trivial ?_ rfl
  simp only [Tryd.ntmps34, List.size_toArray, List.length_cons, List.length_nil, Nat.reduceAdd, Nat.reduceSub, Array.replicate_succ, Array.replicate_zero, List.push_toArray, List.append_toArray, List.nil_append, List.cons_append]
  gi_wp2
  gi_loopw [4] (fun i wr => ∃ (k q : Nat), k ≤ N ∧ Hid (q = 32 * k) ∧ i = .int .i64 (q : Int) ∧ J ((List.finRange N).take k) wr ∧ F wr)
    (fun i _ => m - (intOf i).toNat)
  case atStart => exact ⟨0, 0, Nat.zero_le _, hid rfl, rfl, by simpa using h0, hFW⟩
  case round =>
    obtain ⟨k, q, hk, Hq, rfl, hJ, hnx⟩ := hrel
    obtain ⟨hBw, hBm⟩ := hF wr hnx
    by_cases hkn : k < N
    · have hq := Hq.out
      have hm := Hm.out
      have hlt : (q : Int) < (m : Int) := by omega
      have hle0 : (q : Int) ≤ (m : Int) := by omega
      have hle : (q : Int) ≤ (cap : Int) := by omega
      have hle2 : (q : Int) + 32 ≤ (cap : Int) := by omega
      have hle3 : (q : Int) ≤ (q : Int) + 32 := by omega
      have hmin : min (32 : Int) ((m - q : Nat) : Int) = 32 := by omega
      have hqs : q ≤ 2000 := by omega
      have hqz : (q : Int) ≤ 2000 := by omega
      clear hq hm
      have hJd : J ((List.finRange N).take k) wr.drew := hA _ wr wr.drew none hJ ⟨rfl, rfl, rfl, Nat.le_refl _, fun _ _ _ => rfl⟩ (fun r e => by cases e)
      have hnd : F wr.drew := hFd wr hnx
      have hxq : 32 * (⟨k, hkn⟩ : Fin N).val = q := by have := Hq.out; simp only []; omega
      have htl : ((List.finRange N).take k).length < N := by rw [List.length_take, List.length_finRange]; omega
      have hnext : (List.finRange N).take k ++ [⟨k, hkn⟩] = (List.finRange N).take (k + 1) := by
        rw [List.take_add_one, List.getElem?_eq_getElem (by rw [List.length_finRange]; exact hkn)]
        simp
      have hY' := hY ((List.finRange N).take k) ⟨k, hkn⟩ wr.drew hJd htl
      rw [hxq, hnext] at hY'
      unfold chV at hY'
      obtain ⟨fn, tmps, assign, body, hy, hR⟩ := hY'
      have HF := hid hF
      have HFd := hid hFd
      clear hxq htl hnext hY hF hFd
      gi_wp2
      gi_region
      gi_wp2
      refine hR.mono ?_
      rintro e W3 (⟨rfl, hJ3, hk3⟩ | ⟨rfl, hJx3⟩)
      · obtain ⟨_, hB3⟩ := HF.out W3 (hk3 hnd)
        gi_wp2
        go_roundw
        case rel => exact ⟨k + 1, q + 32, by omega, hid (by have := Hq.out; omega), by first | rfl | simp, hJ3, hk3 hnd⟩
        case measure => simp [intOf]; omega
      · gi_wp2
        refine bodyPost_ret (results_none rfl _ _ _) rfl ?_
        exact ⟨⟨_, rfl⟩, .inr ⟨_, hJx3⟩⟩
    · have hkz : ¬ ((q : Int) < (m : Int)) := by have := Hq.out; have := Hm.out; omega
      have hkN : k = N := by omega
      subst hkN
      rw [List.take_of_length_le (by simp)] at hJ
      gi_wp2
      go_end0
      exact ⟨⟨_, rfl⟩, .inl hJ⟩
theorem chunk_stops (n : Nat) (hn : 1 ≤ n) (Bs R N cap m : Nat) (Hm : Hid (m = 32 * N)) (hcap : m ≤ cap) (hN : N ≤ 48) (F : World → Prop) (hF : ∀ W, F W → W.cell? ⟨Bs, 0, none⟩ = some (.slice (some ⟨R, 0, none⟩) m cap) ∧ W.cell? ⟨Bs + 1, 0, none⟩ = some (.int .i64 32)) (hFd : ∀ W, F W → F W.drew) (w : World) (hFb : ∀ W, Below w.heap.size w W → F W) :
    SeqStopsK Fence.wide n Tryd.prog 34 #[.pointer (some ⟨Bs, 0, none⟩), .pointer (some ⟨Bs + 1, 0, none⟩)] (fun x : Fin N => #[chV R (32 * x.val)]) (fun A B => F A → F B) (fun ys => ys = List.finRange N) (fun _ => True) N w := fun l J Jx W hW hA _ hY h0 => by
  refine (chunkC n hn l Bs R N cap m Hm hcap hN F hF hFd J Jx _ hA hY W (hFb W hW) h0).mono ?_
  rintro e W' ⟨he, hj | ⟨pre, hj⟩⟩
  · exact ⟨he, .inl ⟨_, rfl, hj⟩⟩
  · exact ⟨he, .inr ⟨_, trivial, hj⟩⟩
end Go.Proofs.YtdehjednpdbhaaaDoor
