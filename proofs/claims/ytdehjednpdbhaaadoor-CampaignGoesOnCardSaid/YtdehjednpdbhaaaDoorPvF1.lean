/- A part of an interpreter of the model's code that is proved sound, and of laws told by it: DamZ1, DamJ1. -/
import Derived.Test.YtdehjednpdbhaaaDoorPvE3
import Derived.Test.YtdehjednpdbhaaaDoorPvD4
import Derived.Test.YtdehjednpdbhaaaDoorPvB6
import Derived.Lib.AppendZeros
import Derived.Lib.AppendZerosOnto
import Derived.Test.YtdehjednpdbhaaaDoorPvD3
set_option linter.unusedVariables false
set_option linter.unusedSimpArgs false
/- A row of bytes of the call's own: zeros behind it, a text over a part of it, its text. -/
namespace Go.Proofs.YtdehjednpdbhaaaDoor
open Go.Dam Go.RowKit
set_option linter.unusedVariables false
set_option linter.unusedSimpArgs false
/-- A row of bytes of the call's own, with its address and its capacity. -/
def Rw (base : Nat) (w : World) (g cap : Nat) (l : List UInt8) : Prop :=
  base ≤ g ∧ ∃ cur fz, w.heap[g]? = some (.cells cur 5 fz) ∧ okFz cur.size fz ∧ l.length ≤ cap ∧ cap ≤ maxLen ∧ cur.size = cap ∧ cur.toList.take l.length = Lib.byteCells l
theorem Rw.lt {base : Nat} {w : World} {g cap : Nat} {l : List UInt8} (h : Rw base w g cap l) : g < w.heap.size := by
  obtain ⟨_, cur, fz, hg, _⟩ := h
  exact (Array.getElem?_eq_some_iff.1 hg).1
theorem Rw.le {base : Nat} {w : World} {g cap : Nat} {l : List UInt8} (h : Rw base w g cap l) : l.length ≤ cap := by
  obtain ⟨_, cur, fz, _, _, h3, _⟩ := h
  exact h3
theorem Rw.mv {base : Nat} {w w' : World} {g cap : Nat} {l : List UInt8} (h : Rw base w g cap l) (hw : w'.heap[g]? = w.heap[g]?) : Rw base w' g cap l := by
  obtain ⟨h1, cur, fz, hg, h2⟩ := h
  exact ⟨h1, cur, fz, hw.trans hg, h2⟩
theorem Rw.alloc {base : Nat} {w : World} {g cap : Nat} {l : List UInt8} (h : Rw base w g cap l) (o : Obj) : Rw base (w.alloc o) g cap l := h.mv (alloc_was w o g h.lt)
theorem Rw.drew {base : Nat} {w : World} {g cap : Nat} {l : List UInt8} (h : Rw base w g cap l) : Rw base w.drew g cap l := h.mv rfl
theorem Rw.cell {base : Nat} {w : World} {g cap : Nat} {l : List UInt8} (h : Rw base w g cap l) (j : Nat) (hj : j < l.length) : w.cell? ⟨g, j, none⟩ = some (.int .u8 (l[j].toNat : Int)) := by
  obtain ⟨h1, cur, fz, hg, h2, h3, h4, h5, h6⟩ := h
  rw [cell_of_row w g j cur _ fz hg]
  have : (cur.toList.take l.length)[j]? = (Lib.byteCells l)[j]? := by rw [h6]
  rw [List.getElem?_take, if_pos hj] at this
  rw [← Array.getElem?_toList, this]
  simp [Lib.byteCells, hj]
theorem Rw.text {base : Nat} {w : World} {g cap : Nat} {l : List UInt8} (h : Rw base w g cap l) : (convert 25 9 (.slice (some ⟨g, 0, none⟩) l.length cap)).run Tryd.prog w = .ok (.string (sb l)) w :=
  run_convert_bytes_back (P := Tryd.prog) w 25 9 5 ⟨g, 0, none⟩ cap l u25 u5 u9 (fun j hj => by
    have hadd : (⟨g, 0, none⟩ : Addr).add j = ⟨g, j, none⟩ := by unfold Addr.add; split <;> simp_all
    rw [hadd]
    exact h.cell j hj)
theorem ty5 : ∃ i, Tryd.prog.info? 5 = some i ∧ i.zero = some (.int .u8 0) ∧ i.size = 1 ∧ i.bytes = 1 := by
  have h : (Tryd.prog.info? 5).map (fun i => (i.zero, i.size, i.bytes)) = some (some (.int .u8 0), 1, 1) := by kernel_rfl
  obtain ⟨i, hi, hz⟩ := Option.map_eq_some_iff.1 h
  simp only [Prod.mk.injEq] at hz
  exact ⟨i, hi, hz.1, hz.2.1, hz.2.2⟩
theorem u3 : Tryd.prog.underlying 3 = some (.int .i64) := by kernel_rfl
theorem zeroC (n : Nat) : Builtin.zeroCells (Value.int .u8 0).cells n = (Lib.byteCells (List.replicate n 0)).toArray := by
  apply Array.ext'
  have hc : (Value.int .u8 0).cells = #[.int .u8 0] := rfl
  unfold Builtin.zeroCells Lib.byteCells
  rw [hc]
  apply List.ext_getElem
  · simp
  · intro i h1 h2
    simp [Nat.mod_one]
theorem zeroC_list (n : Nat) : (Builtin.zeroCells (Value.int .u8 0).cells n).toList = Lib.byteCells (List.replicate n 0) := by rw [zeroC]
theorem byteC_len (l : List UInt8) : (Lib.byteCells l).length = l.length := by simp [Lib.byteCells]
theorem byteC_one (l : List UInt8) : ∀ v ∈ Lib.byteCells l, v.oneCell' = true := by
  intro v hv
  simp only [Lib.byteCells, List.mem_map] at hv
  obtain ⟨u, _, rfl⟩ := hv
  rfl
/-- What is written into the row. -/
theorem Rw.store {base : Nat} {w : World} {g cap : Nat} {l : List UInt8} (h : Rw base w g cap l) (o : Nat) (x m : List UInt8) (ho : o + x.length ≤ cap) (hm : m.length = max l.length (o + x.length)) (hol : o ≤ l.length) (hmx : m = l.take o ++ x ++ l.drop (o + x.length)) :
    ∃ w', (storeCells ((⟨g, 0, none⟩ : Addr).add o) (Lib.byteCells x)).run Tryd.prog w = .ok () w' ∧ (storeCells (⟨g, o, none⟩ : Addr) (Lib.byteCells x)).run Tryd.prog w = .ok () w' ∧ Rw base w' g cap m ∧ w.grownBy w' (some g) := by
  obtain ⟨h1, cur, fz, hg, h2, h3, h4, h5, h6⟩ := h
  have hadd : (⟨g, 0, none⟩ : Addr).add o = ⟨g, o, none⟩ := by unfold Addr.add; split <;> simp_all
  have hadd0 : (⟨g, o, none⟩ : Addr).add 0 = ⟨g, o, none⟩ := by unfold Addr.add; split <;> simp_all
  have hst := run_storeCells_fz (P := Tryd.prog) g o 5 fz (Lib.byteCells x) 0 cur w hg h2 (by rw [byteC_len]; omega) (byteC_one x)
  simp only [Nat.add_zero, hadd0] at hst
  rw [byteC_len] at hst
  refine ⟨_, by rw [hadd]; exact hst, hst, ⟨h1, _, fz, setRow_heap w g cur _ 5 _ hg, ?_, by omega, h4, ?_, ?_⟩, ⟨rfl, rfl, rfl, by simp, fun k hk hne => setRow_other _ _ k _ (fun e => hne (by rw [e]))⟩⟩
  · have : (cur.toList.take o ++ Lib.byteCells x ++ cur.toList.drop (o + x.length)).toArray.size = cur.size := by simp [byteC_len]; omega
    rw [this]; exact h2
  · simp [byteC_len]; omega
  · rw [hmx]
    have e1 : cur.toList.take o = Lib.byteCells (l.take o) := by
      rw [← byteCells_take, ← h6, List.take_take, Nat.min_eq_left hol]
    have e2 : (cur.toList.drop (o + x.length)).take (l.length - (o + x.length)) = Lib.byteCells (l.drop (o + x.length)) := by
      rw [← byteCells_drop, ← h6, List.drop_take]
    have hl1 : (Lib.byteCells (l.take o)).length = o := by rw [byteC_len, List.length_take, Nat.min_eq_left hol]
    rw [byteCells_app, byteCells_app, ← e2, e1]
    rw [List.take_append, List.take_of_length_le (by simp [byteC_len])]
    congr 2
    simp [byteC_len]
    omega
/-- Zeros behind the row. -/
theorem Rw.zeros {base : Nat} {w : World} {g cap : Nat} {l : List UInt8} (h : Rw base w g cap l) (ty k : Nat) (hk : 0 < k) (hle : l.length + k ≤ 100000) (hb : base ≤ w.heap.size) :
    ∃ g' cap' w', (Builtin.append_ #[25, 3] ty #[.slice (some ⟨g, 0, none⟩) l.length cap, .int .i64 k]).run Tryd.prog w = .ok (.slice (some ⟨g', 0, none⟩) (l.length + k) cap') w' ∧ Rw base w' g' cap' (l ++ List.replicate k 0) ∧ w.grownBy w' (some g) := by
  obtain ⟨i, hi, hz, hs, hby⟩ := ty5
  have hw : IntKind.i64.wrap (k : Int) = k := by rw [IntKind.wrap_i64]; omega
  have hneg : ¬ ((k : Int) < 0) := by omega
  have h48i : ¬ (281474976710656 < (k : Int)) := by omega
  have hk0 : ¬ k = 0 := by omega
  have hrep : (l ++ List.replicate k (0 : UInt8)).length = l.length + k := by simp
  by_cases hroom : l.length + k ≤ cap
  · obtain ⟨w', hr, _, hrw, hgr⟩ := h.store l.length (List.replicate k 0) (l ++ List.replicate k 0) (by simp; omega) (by simp) (Nat.le_refl _) (by rw [List.take_length, List.drop_of_length_le (by simp), List.append_nil])
    refine ⟨g, cap, w', ?_, hrw, hgr⟩
    simp [Builtin.append_, run_underlying u25, run_underlying u3, sizeOf, typeInfo, zeroValue, hi, hz, hs, hby, hw, hneg, h48i, hroom, asInt, asIntOf, Question.forced, hk0, zeroC_list, hr]
  · obtain ⟨h1, cur, fz, hg, h2, h3, h4, h5, h6⟩ := h
    have hr := Lib.run_append_grow_zeros (P := Tryd.prog) w 25 3 ty 5 i (.int .u8 0) .i64 .i64 u25 u3 hi hz (some ⟨g, 0, none⟩) l.length cap (Lib.byteCells l) (by
      have := run_firstCells_some (P := Tryd.prog) w.drew i.size l.length ⟨g, 0, none⟩ l.length cap (Lib.byteCells l) (by rw [byteC_len, hs, Nat.mul_one]) (fun j u hj => by
        have hadd : (⟨g, 0, none⟩ : Addr).add j = ⟨g, j, none⟩ := by unfold Addr.add; split <;> simp_all
        have hjl : j < l.length := by rw [← byteC_len]; exact (List.getElem?_eq_some_iff.1 hj).1
        rw [hadd, Rw.cell (base := base) (w := w.drew) ⟨h1, cur, fz, hg, h2, h3, h4, h5, h6⟩ j hjl]
        rw [← hj]
        simp [Lib.byteCells, hjl])
      exact this) k hk (by omega) (by omega) (by omega) (by rw [hby]; omega) (growslice_fits (by omega) (by rw [hby]; omega))
    have hge := grownCap_ge w (l.length + k) cap 5
    have hcm := grownCap_le_maxLen w (l.length + k) cap 5 (by simp only [maxLen]; omega)
    refine ⟨_, _, _, hr, ⟨hb, _, (0, 0), heap_alloc_new w.drew _, .inl rfl, by rw [hrep]; exact hge, hcm, ?_, ?_⟩, ⟨rfl, rfl, rfl, by simp, fun k hk _ => alloc_was w.drew _ k hk⟩⟩
    · simp [zeroC, byteC_len]; omega
    · rw [hrep]
      simp only [Array.toList_append, zeroC, List.toList_toArray]
      rw [← byteCells_app, List.take_left' (by rw [byteC_len, hrep])]
/-- A text over a part of the row. -/
theorem Rw.over {base : Nat} {w : World} {g cap : Nat} {l : List UInt8} (h : Rw base w g cap l) (ty o : Nat) (x : List UInt8) (hx : o + x.length ≤ l.length) :
    ∃ w', (Builtin.copy_ #[25, 9] ty #[.slice (some ⟨g, o, none⟩) (l.length - o) (cap - o), .string (sb x)]).run Tryd.prog w = .ok (goInt x.length) w' ∧ Rw base w' g cap (l.take o ++ x ++ l.drop (o + x.length)) ∧ w.grownBy w' (some g) := by
  obtain ⟨i, hi, hz, hs, hby⟩ := ty5
  have hcap : l.length ≤ cap := by obtain ⟨_, cur, fz, _, _, h3, _⟩ := h; exact h3
  obtain ⟨w', _, hr, hrw, hgr⟩ := h.store o x (l.take o ++ x ++ l.drop (o + x.length)) (by omega) (by simp; omega) (by omega) rfl
  refine ⟨w', ?_, hrw, hgr⟩
  have hn : Nat.min (sb x).size (l.length - o) = x.length := by
    rw [sb_size]
    exact Nat.min_eq_left (by omega)
  have hf := Lib.run_firstCells_string (P := Tryd.prog) w 1 (sb x)
  have hsc : Lib.strCells (sb x) = Lib.byteCells x := Lib.strCells_eq (sb x)
  rw [hsc, sb_size] at hf
  simp [Builtin.copy_, run_underlying u25, Builtin.lenOf, sizeOf, typeInfo, hi, hs, hn, hf, hr]
/-- The bytes of a text are a row of the call's own. -/
theorem Rw.make (w : World) (l : List UInt8) (base : Nat) (hb : base ≤ w.heap.size) (hl : l.length ≤ 100000) :
    ∃ g cap w', (convert 9 25 (.string (sb l))).run Tryd.prog w = .ok (.slice (some ⟨g, 0, none⟩) l.length cap) w' ∧ Rw base w' g cap l ∧ w.grownBy w' none := by
  have hr := run_bytes_of_string (P := Tryd.prog) w 9 25 5 (sb l) u9 u25 u5
  have hge := grownCap_ge w l.length 0 5
  have hcm := grownCap_le_maxLen w l.length 0 5 (by simp only [maxLen]; omega)
  have hsz : (bytesRow (sb l) (grownCap w l.length 0 5)).size = grownCap w l.length 0 5 := by
    have h2 : (⟨l.toArray⟩ : ByteArray).size = l.length := rfl
    unfold bytesRow sb
    simp only [Array.size_append, Array.size_map, Array.size_replicate, List.size_toArray, h2]
    omega
  refine ⟨_, _, _, hr, ⟨hb, _, _, heap_alloc_new w.drew _, .inr (Nat.le_refl _), hge, hcm, hsz, ?_⟩, ⟨rfl, rfl, rfl, by simp, fun k hk _ => alloc_was w.drew _ k hk⟩⟩
  unfold bytesRow sb Lib.byteCells
  simp
end Go.Proofs.YtdehjednpdbhaaaDoor

/- JournalOf: what the machine does with right entries. -/
namespace Go.Proofs.YtdehjednpdbhaaaDoor
open Go.Dam Go.RowKit
set_option linter.unusedVariables false
set_option linter.unusedSimpArgs false
theorem ownsRow_mv {w w' : World} {base : Nat} {e : TypeId} {size n : Nat} {v : Value} {xs : List Value} (h : w.ownsRow base e size v n xs) (hw : ∀ k, v.ownBlock = some k → w'.heap[k]? = w.heap[k]?) : w'.ownsRow base e size v n xs := by
  obtain ⟨hl, h⟩ := h
  refine ⟨hl, ?_⟩
  rcases h with h | ⟨g, cap, cur, rfl, hb, hh, r⟩
  · exact .inl h
  · exact .inr ⟨g, cap, cur, rfl, hb, (hw g rfl).trans hh, r⟩
theorem bd_below {T e : TypeId} {B b : Nat} {bs : List Value} {w w' : World} (h : Lib.IsBuilder T e B b bs w) (hb : Below w.heap.size w w') : Lib.IsBuilder T e B b bs w' := by
  have key : ∀ p, Lib.BuilderAt T e B b p bs w → Lib.BuilderAt T e B b p bs w' := fun p h => by
    obtain ⟨h1, v, h2, h3, h4⟩ := h
    have hlt : b < w.heap.size := (Array.getElem?_eq_some_iff.1 h2).1
    exact ⟨h1, v, (hb.block b hlt).trans h2, ownsRow_mv h3 (fun k hk => hb.block k (h3.lt k hk).2), h4⟩
  exact h.elim (fun h => .inl (key _ h)) (fun h => .inr (key _ h))
def enD (es : List En) (k : Nat) : En := es.getD k noE
theorem enD_get (es : List En) (k : Nat) (h : k < es.length) : enD es k = es[k] := by
  unfold enD
  rw [List.getD_eq_getElem?_getD, List.getElem?_eq_getElem h]
  rfl
def jrn (es : List En) : List (List UInt8) := es.map blk
def jnA (es : List En) (k : Nat) : List UInt8 := (jrn (es.take k)).flatten
theorem jnA_succ (es : List En) (k : Nat) (h : k < es.length) : jnA es (k + 1) = jnA es k ++ blk (enD es k) := by
  unfold jnA jrn
  rw [List.take_succ_eq_append_getElem h, List.map_append, List.flatten_append, enD_get es k h]
  simp
theorem jnA_all (es : List En) : jnA es es.length = (jrn es).flatten := by
  unfold jnA
  rw [List.take_length]
theorem jrn32 {es : List En} (h : ∀ e ∈ es, e.nm.length ≤ 22) : W32 (jrn es) := fun b hb => by
  obtain ⟨e, he, rfl⟩ := List.mem_map.mp hb
  exact blk_len (h e he)
theorem jnA_len (es : List En) (h : ∀ e ∈ es, e.nm.length ≤ 22) (k : Nat) (hk : k ≤ es.length) : (jnA es k).length = 32 * k := by
  unfold jnA
  rw [flat_len (jrn32 (fun e he => h e (List.mem_of_mem_take he)))]
  unfold jrn
  rw [List.length_map, List.length_take, Nat.min_eq_left hk]
theorem cell_at {w : World} {b j : Nat} {c : Array Value} {e : TypeId} {v : Value} (h : w.heap[b]? = some (.cells c e)) (hj : c[j]? = some v) : w.cell? ⟨b, j, none⟩ = some v := by
  rw [cellN_of h]; exact hj
set_option maxHeartbeats 8000000 in
set_option maxRecDepth 100000 in
theorem jn_walk (bk o c n : Nat) (es : List En) (hn : n = es.length) (hn48 : n ≤ 48) (w : World) (hs0 : ∀ e ∈ es, e.nm.length ≤ 22)
    (h18 : Calls Tryd.prog 18 #[.slice (some ⟨bk, o, none⟩) n c] w fun e w' => (∃ i, e = .returned (.tuple #[.int .i64 i, .int .i64 0])) ∧ Below w.heap.size w w')
    (hc0 : ∀ j, j < es.length → w.cell? ⟨bk, o + j * 4, none⟩ = some (.string (sb (enD es j).nm)) ∧ w.cell? ⟨bk, o + j * 4 + 1, none⟩ = some (.int .i64 (enD es j).dg) ∧ w.cell? ⟨bk, o + j * 4 + 2, none⟩ = some (.int .i64 (enD es j).vd) ∧ w.cell? ⟨bk, o + j * 4 + 3, none⟩ = some (.int .i64 (enD es j).tn))
    (hbk : bk < w.heap.size) (hcap : n ≤ c) :
    Calls Tryd.prog 13 #[.slice (some ⟨bk, o, none⟩) n c] w fun e w' => e = .returned (.tuple #[.string (sb (jrn es).flatten), .int .i64 0]) ∧ Below w.heap.size w w' := by
  have HC := hid hc0
  have HS := hid hs0
  have HN := hid hn
  have HCAP := hid hcap
  clear hc0 hs0 hn
  go_enter Tryd.func13, Tryd.ntmps13
  go_wp2_with fail
  refine h18.mono ?_
  rintro e w1 ⟨⟨i, rfl⟩, hb1⟩
  have HB1 := hid hb1
  have hsz1 := hb1.size
  clear hb1 h18
  have HB0 := hid (Or.inl ⟨hsz1, .slice none 0 0, heap_alloc_new w1 _, World.ownsRow_nil _ _ _ _, by simp [Value.ownBlock]⟩ : Lib.IsBuilder 63 5 w.heap.size w1.heap.size (Lib.byteCells (jnA es 0)) (w1.alloc (.cells #[.pointer none, .slice none 0 0] 63)))
  have HBA := hid (HB1.out.alloc hsz1 (.cells #[.pointer none, .slice none 0 0] 63))
  go_wp2_with fail
  go_loopw [22] (fun i wr3 => ∃ m : Nat, m ≤ n ∧ i = .int .i64 m ∧ Hid (Lib.IsBuilder 63 5 w.heap.size w1.heap.size (Lib.byteCells (jnA es m)) wr3) ∧ Hid (Below w.heap.size w wr3)) (fun i _ => n - (intOf i).toNat)
  case atStart => exact ⟨0, Nat.zero_le _, rfl, HB0, HBA⟩
  case round =>
    obtain ⟨m, hm, rfl, HBB, HBW⟩ := hrel
    by_cases hmk : m < n
    · have hm3 : m < es.length := by have := HN.out; omega
      obtain ⟨h1, h2, h3, h4⟩ := HC.out m hm3
      rw [← HBW.out.cell (p := ⟨bk, o + m * 4, none⟩) hbk] at h1
      rw [← HBW.out.cell (p := ⟨bk, o + m * 4 + 1, none⟩) hbk] at h2
      rw [← HBW.out.cell (p := ⟨bk, o + m * 4 + 2, none⟩) hbk] at h3
      rw [← HBW.out.cell (p := ⟨bk, o + m * 4 + 3, none⟩) hbk] at h4
      go_wp2_with fail
      obtain ⟨B11, hB11⟩ : ∃ x : Array Value, x = #[.string (sb (enD es m).nm), .int .i64 (enD es m).dg, .int .i64 (enD es m).vd, .int .i64 (enD es m).tn] := ⟨_, rfl⟩
      rw [← hB11]
      have hbA : Below wr.heap.size wr (wr.alloc (.cells B11 46)) := (Below.refl _ _).alloc (Nat.le_refl _) _
      have hwA : Below w.heap.size w (wr.alloc (.cells B11 46)) := HBW.out.trans (hbA.mono HBW.out.size)
      have HIB := bd_below HBB.out hbA
      generalize wr.alloc (.cells B11 46) = W at *
      rw [hB11]
      have hlen := jnA_len es HS.out m (by omega)
      have hJ : (Lib.byteCells (jnA es m)).length = 32 * m := by rw [Lib.byteCells_length, hlen]
      have hnm := HS.out es[m] (List.getElem_mem hm3)
      rw [← enD_get es m hm3] at hnm
      have hsb : (sb (blk (enD es m))).size = 32 := by rw [sb_size, blk_len hnm]
      have hstep : Lib.byteCells (jnA es m) ++ Lib.strCells (sb (blk (enD es m))) = Lib.byteCells (jnA es (m + 1)) := by
        rw [Lib.strCells_eq, ← Lib.byteCells_append, jnA_succ es m hm3]
        rfl
      have Hst := hid hstep
      clear hstep hlen
      refine (blk_walk (sb (enD es m).nm) _ _ _ (by rw [sb_size]; exact hnm) W).mono ?_
      rintro e w2 ⟨rfl, hb2⟩
      have HI2 := hid (bd_below HIB hb2)
      have HW2 := hid (hwA.trans (hb2.mono hwA.size))
      clear hb2 HIB hbA hwA
      have heq : (Value.string ⟨(padL (recL (sb (enD es m).nm).data.toList (enD es m).dg (enD es m).vd (enD es m).tn)).toArray⟩) = .string (sb (blk (enD es m))) := rfl
      rw [heq]
      go_wp2_with fail
      refine (Tryd.bd_str w.heap.size w1.heap.size _ (sb (blk (enD es m))) w2 HI2.out (by rw [hJ, hsb]; omega) HW2.out.size).mono ?_
      rintro e w3 ⟨rfl, hb3, hbl3⟩
      rw [Hst.out] at hb3
      have HI3 := hid (Or.inr hb3 : Lib.IsBuilder 63 5 w.heap.size w1.heap.size _ w3)
      have HW3 := hid (HW2.out.trans hbl3)
      clear hb3 hbl3
      go_wp2
      exact ⟨⟨m + 1, by omega, by go_num, HI3, HW3⟩, by simp [intOf]; omega⟩
    · have hmk' : m = n := by omega
      subst hmk'
      go_wp2_with fail
      refine (Tryd.bd_all w.heap.size w1.heap.size (jnA es m) _ HBB.out HBW.out.size).mono ?_
      rintro e w3 ⟨rfl, hb3⟩
      have HW3 := hid (HBW.out.trans hb3)
      clear hb3
      go_wp2
      go_ret2
      refine ⟨?_, HW3.out⟩
      have := jnA_all es
      rw [← HN.out] at this
      rw [this]
      rfl
set_option maxHeartbeats 8000000 in
set_option maxRecDepth 100000 in
theorem jn_nil (A : Option Addr) (c : Nat) (w : World) (h18 : Calls Tryd.prog 18 #[.slice A 0 c] w fun e w' => (∃ i, e = .returned (.tuple #[.int .i64 i, .int .i64 0])) ∧ Below w.heap.size w w') :
    Calls Tryd.prog 13 #[.slice A 0 c] w fun e w' => e = .returned (.tuple #[.string (sb []), .int .i64 0]) ∧ Below w.heap.size w w' := by
  go_enter Tryd.func13, Tryd.ntmps13
  go_wp2_with fail
  refine h18.mono ?_
  rintro e w1 ⟨⟨i, rfl⟩, hb1⟩
  have HB1 := hid hb1
  have hsz1 := hb1.size
  clear hb1 h18
  have HB0 := hid (Or.inl ⟨hsz1, .slice none 0 0, heap_alloc_new w1 _, World.ownsRow_nil _ _ _ _, by simp [Value.ownBlock]⟩ : Lib.IsBuilder 63 5 w.heap.size w1.heap.size (Lib.byteCells []) (w1.alloc (.cells #[.pointer none, .slice none 0 0] 63)))
  have HBA := hid (HB1.out.alloc hsz1 (.cells #[.pointer none, .slice none 0 0] 63))
  go_wp2_with fail
  go_loopw [22] (fun i wr3 => i = .int .i64 ((0 : Nat) : Int) ∧ Hid (Lib.IsBuilder 63 5 w.heap.size w1.heap.size (Lib.byteCells []) wr3) ∧ Hid (Below w.heap.size w wr3)) (fun i _ => 0)
  case atStart => exact ⟨rfl, HB0, HBA⟩
  case round =>
    obtain ⟨rfl, HBB, HBW⟩ := hrel
    go_wp2_with fail
    refine (Tryd.bd_all w.heap.size w1.heap.size [] _ HBB.out HBW.out.size).mono ?_
    rintro e w3 ⟨rfl, hb3⟩
    have HW3 := hid (HBW.out.trans hb3)
    clear hb3
    go_wp2
    go_ret2
    exact ⟨rfl, HW3.out⟩
end Go.Proofs.YtdehjednpdbhaaaDoor
