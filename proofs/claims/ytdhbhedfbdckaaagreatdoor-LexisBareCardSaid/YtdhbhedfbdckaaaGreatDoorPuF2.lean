/- A part of an interpreter of the model's code that is proved sound, and of laws told by it: DamX18, DamX19. -/
import Derived.Test.YtdhbhedfbdckaaaGreatDoorPuF1
set_option linter.unusedVariables false
set_option linter.unusedSimpArgs false
/- JoinedText: a drawn region, in whatever order. -/
namespace Go.Proofs.YtdhbhedfbdckaaaGreatDoor
open Go.Dam Go.RowKit
set_option linter.unusedVariables false
set_option linter.unusedSimpArgs false
set_option maxHeartbeats 40000000 in
set_option maxRecDepth 100000 in
theorem reg16c (L : Int) (bk o n c m b11 q : Nat) (t u : Tk) (W : World) (hlay : layF W) (ht : t.s.length ≤ 20000) (hu : u.s.length ≤ 20000) (u2 u3 u4 u5 u6 u7 u8 u9 u12 u13 u14 u15 u16 u17 u18 u19 u20 u21 u22 u23 u24 u25 u26 u27 u28 u29 u30 u31 u32 u33 u34 u35 u36 u37 u38 u39 u40 u41 u42 u43 u44 u45 u46 u47 u48 u49 u50 u51 u52 u53 u54 u55 u56 u57 u58 u59 u60 u61 : Value)
    (Q : Exit → Act → World → Prop) (hP : ∀ c a d v w, Q (.panic c) (Act.put a d v) w → Q (.panic c) a w) (ds : List Deferred) (hQ : ∀ v41 v42 v43 v44 v45 v46 v47 v48 v49 v50 v51 v52 W', Below W.heap.size W W' → Q .normal { tmps := #[.int .i64 L, .slice (some ⟨bk, o, none⟩) n c, u2, u3, u4, u5, u6, u7, u8, u9, .int .i64 m, .pointer (some ⟨b11, 0, none⟩), u12, u13, u14, u15, u16, u17, u18, u19, u20, u21, u22, u23, u24, u25, u26, u27, u28, u29, u30, u31, u32, u33, u34, u35, u36, u37, u38, u39, u40, v41, v42, v43, v44, v45, v46, v47, v48, v49, v50, v51, v52, .bool (!togT L t u), u54, u55, u56, u57, u58, u59, u60, u61], defers := ds } W') :
    wpAny Tryz.prog .any ops16 Q 3 #[true, true, true, true, true, true, true, true, true, true, false, false, false] { tmps := #[.int .i64 L, .slice (some ⟨bk, o, none⟩) n c, u2, u3, u4, u5, u6, u7, u8, u9, .int .i64 m, .pointer (some ⟨b11, 0, none⟩), u12, u13, u14, u15, u16, u17, u18, u19, u20, u21, u22, u23, u24, u25, u26, u27, u28, u29, u30, u31, u32, u33, u34, u35, u36, u37, u38, u39, u40, .int .i64 m, .bool true, .bool true, .int .i64 L, .slice (some ⟨bk, o, none⟩) n c, .int .i64 m, .int .i64 (q : Int), .pointer (some ⟨bk, o + q * 3, none⟩), .agg #[.int .i64 t.k, .string (sb t.s), .int .i64 t.a], .agg #[.int .i64 u.k, .string (sb u.s), .int .i64 u.a], u51, u52, u53, u54, u55, u56, u57, u58, u59, u60, u61], defers := ds } W := by
  refine wpAny_ready (rs := [10]) (by kernel_rfl) (by simp) ?_
  refine AllReady.cons (o := { dst := some 51, op := Op.call { callee := Callee.value (Operand.func 41), args := #[Operand.tmp 44, Operand.tmp 49, Operand.tmp 50], argTypes := #[3, 35, 35] }, type := 4, pos := "lexis.go:356", after := #[{ on := 3, ground := Ground.data }, { on := 8, ground := Ground.data }, { on := 9, ground := Ground.data }, { on := 2, ground := Ground.chain }, { on := 2, ground := Ground.guard }], guard := some (2, true) }) rfl (fun K hK => ?_) AllReady.nil
  rw [if_pos (by kernel_rfl)]
  go_simp
  go_wp2_with fail
  refine (call41 L t u ht hu _ hlay).mono ?_
  rintro e w1 ⟨rfl, hb⟩
  simp only []
  refine hK _ _ ?_
  clear hK K
  refine wpAny_take (i := 11) (oi := { dst := some 52, op := Op.unOp UnOp.not 4 (Operand.tmp 51), type := 4, pos := "lexis.go:356", after := #[{ on := 10, ground := Ground.data }, { on := 2, ground := Ground.guard }], guard := some (2, true) }) (v := .bool (!togT L t u)) rfl (by kernel_rfl) (by kernel_rfl) (by kernel_rfl) (fun _ _ _ h => hP _ _ _ _ _ h) (Or.inl ⟨by kernel_rfl, ?_⟩) ?_
  · intro w
    go_simp
  refine wpAny_take (i := 12) (oi := { dst := some 53, op := Op.pick (Operand.tmp 43) (Operand.tmp 52) (Operand.const (Value.bool false)), type := 4, pos := "lexis.go:356", after := #[{ on := 2, ground := Ground.data }, { on := 11, ground := Ground.data }], guard := none }) (v := .bool (!togT L t u)) rfl (by kernel_rfl) (by kernel_rfl) (by kernel_rfl) (fun _ _ _ h => hP _ _ _ _ _ h) (Or.inl ⟨by kernel_rfl, ?_⟩) ?_
  · intro w
    go_simp
  refine wpAny_done (by kernel_rfl) ?_ _
  exact hQ _ _ _ _ _ _ _ _ _ _ _ _ _ hb
set_option maxHeartbeats 40000000 in
set_option maxRecDepth 100000 in
theorem reg16p (L : Int) (bk o n c m b11 q : Nat) (t u : Tk) (hqk : q < n) (hn : n ≤ 100000) (hmq : m = q + 1) (W : World) (hlay : layF W) (ht : t.s.length ≤ 20000) (hu : u.s.length ≤ 20000) (u2 u3 u4 u5 u6 u7 u8 u9 u12 u13 u14 u15 u16 u17 u18 u19 u20 u21 u22 u23 u24 u25 u26 u27 u28 u29 u30 u31 u32 u33 u34 u35 u36 u37 u38 u39 u40 u41 u42 u43 u44 u45 u46 u47 u48 u49 u50 u51 u52 u53 u54 u55 u56 u57 u58 u59 u60 u61 : Value)
    (g1 : W.cell? ⟨bk, o + q * 3, none⟩ = some (.int .i64 t.k)) (g2 : W.cell? ⟨bk, o + q * 3 + 1, none⟩ = some (.string (sb t.s))) (g3 : W.cell? ⟨bk, o + q * 3 + 2, none⟩ = some (.int .i64 t.a))
    (d1 : W.cell? ⟨b11, 0, none⟩ = some (.int .i64 u.k)) (d2 : W.cell? ⟨b11, 1, none⟩ = some (.string (sb u.s))) (d3 : W.cell? ⟨b11, 2, none⟩ = some (.int .i64 u.a))
    (Q : Exit → Act → World → Prop) (hP : ∀ c a d v w, Q (.panic c) (Act.put a d v) w → Q (.panic c) a w) (ds : List Deferred) (hQ : ∀ v41 v42 v43 v44 v45 v46 v47 v48 v49 v50 v51 v52 W', Below W.heap.size W W' → Q .normal { tmps := #[.int .i64 L, .slice (some ⟨bk, o, none⟩) n c, u2, u3, u4, u5, u6, u7, u8, u9, .int .i64 m, .pointer (some ⟨b11, 0, none⟩), u12, u13, u14, u15, u16, u17, u18, u19, u20, u21, u22, u23, u24, u25, u26, u27, u28, u29, u30, u31, u32, u33, u34, u35, u36, u37, u38, u39, u40, v41, v42, v43, v44, v45, v46, v47, v48, v49, v50, v51, v52, .bool (!togT L t u), u54, u55, u56, u57, u58, u59, u60, u61], defers := ds } W') :
    Code.wp Tryz.prog (.region 16 ops16 true) Q { tmps := #[.int .i64 L, .slice (some ⟨bk, o, none⟩) n c, u2, u3, u4, u5, u6, u7, u8, u9, .int .i64 m, .pointer (some ⟨b11, 0, none⟩), u12, u13, u14, u15, u16, u17, u18, u19, u20, u21, u22, u23, u24, u25, u26, u27, u28, u29, u30, u31, u32, u33, u34, u35, u36, u37, u38, u39, u40, u41, u42, u43, u44, u45, u46, u47, u48, u49, u50, u51, u52, u53, u54, u55, u56, u57, u58, u59, u60, u61], defers := ds } W := by
  have hm0 : (0 : Int) < (m : Int) := by omega
  have hw : IntKind.i64.wrap ((m : Int) - 1) = (q : Int) := by rw [wrapI ⟨by omega, by omega⟩]; omega
  have key := reg16c L bk o n c m b11 q t u W.drew (lay_below _ _ hlay (Below.refl _ _).drew) ht hu u2 u3 u4 u5 u6 u7 u8 u9 u12 u13 u14 u15 u16 u17 u18 u19 u20 u21 u22 u23 u24 u25 u26 u27 u28 u29 u30 u31 u32 u33 u34 u35 u36 u37 u38 u39 u40 u41 u42 u43 u44 u45 u46 u47 u48 u49 u50 u51 u52 u53 u54 u55 u56 u57 u58 u59 u60 u61 Q hP ds (fun a b c d e f g h i j k l W' hb => hQ a b c d e f g h i j k l W' ((Below.refl _ _).drew.trans hb))
  have Key := hid key
  clear key hmq hQ hlay
  refine wp_region_any (by kernel_rfl) ?_
  try (change wpAny _ _ _ _ _ _ _ (World.drew _))
  refine wpAny_take (i := 0) (oi := { dst := some 41, op := Op.move (Operand.tmp 10), type := 3, pos := "lexis.go:356", after := #[], guard := none }) (v := ?_) rfl (by kernel_rfl) (by kernel_rfl) (by kernel_rfl) (fun _ _ _ h => hP _ _ _ _ _ h) (Or.inl ⟨by kernel_rfl, ?_⟩) ?_
  rotate_left
  · intro w
    go_simp
    try with_reducible rfl
  refine wpAny_take (i := 1) (oi := { dst := some 42, op := Op.binOp BinOp.gtr 3 (Operand.tmp 41) (Operand.const (Value.int IntKind.i64 0)) 3, type := 4, pos := "lexis.go:356", after := #[{ on := 0, ground := Ground.data }], guard := none }) (v := .bool true) rfl (by kernel_rfl) (by kernel_rfl) (by kernel_rfl) (fun _ _ _ h => hP _ _ _ _ _ h) (Or.inl ⟨by kernel_rfl, ?_⟩) ?_
  · intro w
    go_simp
    try omega
  refine wpAny_take (i := 2) (oi := { dst := some 43, op := Op.move (Operand.tmp 42), type := 4, pos := "lexis.go:356", after := #[{ on := 1, ground := Ground.data }], guard := none }) (v := ?_) rfl (by kernel_rfl) (by kernel_rfl) (by kernel_rfl) (fun _ _ _ h => hP _ _ _ _ _ h) (Or.inl ⟨by kernel_rfl, ?_⟩) ?_
  rotate_left
  · intro w
    go_simp
    try with_reducible rfl
  refine wpAny_take (i := 3) (oi := { dst := some 44, op := Op.move (Operand.tmp 0), type := 3, pos := "lexis.go:356", after := #[{ on := 2, ground := Ground.guard }], guard := some (2, true) }) (v := ?_) rfl (by kernel_rfl) (by kernel_rfl) (by kernel_rfl) (fun _ _ _ h => hP _ _ _ _ _ h) (Or.inl ⟨by kernel_rfl, ?_⟩) ?_
  rotate_left
  · intro w
    go_simp
    try with_reducible rfl
  refine wpAny_take (i := 4) (oi := { dst := some 45, op := Op.move (Operand.tmp 1), type := 24, pos := "lexis.go:356", after := #[{ on := 2, ground := Ground.guard }], guard := some (2, true) }) (v := ?_) rfl (by kernel_rfl) (by kernel_rfl) (by kernel_rfl) (fun _ _ _ h => hP _ _ _ _ _ h) (Or.inl ⟨by kernel_rfl, ?_⟩) ?_
  rotate_left
  · intro w
    go_simp
    try with_reducible rfl
  refine wpAny_take (i := 5) (oi := { dst := some 46, op := Op.move (Operand.tmp 10), type := 3, pos := "lexis.go:356", after := #[{ on := 2, ground := Ground.guard }], guard := some (2, true) }) (v := ?_) rfl (by kernel_rfl) (by kernel_rfl) (by kernel_rfl) (fun _ _ _ h => hP _ _ _ _ _ h) (Or.inl ⟨by kernel_rfl, ?_⟩) ?_
  rotate_left
  · intro w
    go_simp
    try with_reducible rfl
  refine wpAny_take (i := 6) (oi := { dst := some 47, op := Op.binOp BinOp.sub 3 (Operand.tmp 46) (Operand.const (Value.int IntKind.i64 1)) 3, type := 3, pos := "lexis.go:356", after := #[{ on := 5, ground := Ground.data }, { on := 2, ground := Ground.guard }], guard := some (2, true) }) (v := .int .i64 (q : Int)) rfl (by kernel_rfl) (by kernel_rfl) (by kernel_rfl) (fun _ _ _ h => hP _ _ _ _ _ h) (Or.inl ⟨by kernel_rfl, ?_⟩) ?_
  · intro w
    go_simp
    try exact hw
  refine wpAny_take (i := 7) (oi := { dst := some 48, op := Op.indexAddr 24 (Operand.tmp 45) (Operand.tmp 47), type := 0, pos := "lexis.go:356", after := #[{ on := 4, ground := Ground.data }, { on := 6, ground := Ground.data }, { on := 2, ground := Ground.guard }], guard := some (2, true) }) (v := ?_) rfl (by kernel_rfl) (by kernel_rfl) (by kernel_rfl) (fun _ _ _ h => hP _ _ _ _ _ h) (Or.inl ⟨by kernel_rfl, ?_⟩) ?_
  rotate_left
  · intro w
    go_simp
    try with_reducible rfl
  refine wpAny_ready (rs := [8, 9]) (by kernel_rfl) (by simp) ?_
  refine AllReady.cons (o := { dst := some 49, op := Op.load 35 (Operand.tmp 48), type := 35, pos := "lexis.go:356", after := #[{ on := 7, ground := Ground.data }, { on := 2, ground := Ground.guard }], guard := some (2, true) }) rfl (fun K hK => ?_) (AllReady.cons (o := { dst := some 50, op := Op.load 35 (Operand.tmp 11), type := 35, pos := "lexis.go:356", after := #[{ on := 2, ground := Ground.guard }], guard := some (2, true) }) rfl (fun K hK => ?_) AllReady.nil)
  · go_simp
    refine hK _ _ ?_
    clear hK K
    refine wpAny_ready (rs := [9]) (by kernel_rfl) (by simp) ?_
    refine AllReady.cons (o := { dst := some 50, op := Op.load 35 (Operand.tmp 11), type := 35, pos := "lexis.go:356", after := #[{ on := 2, ground := Ground.guard }], guard := some (2, true) }) rfl (fun K hK => ?_) AllReady.nil
    go_simp
    refine hK _ _ ?_
    clear hK K
    exact Key.out
  · go_simp
    refine hK _ _ ?_
    clear hK K
    refine wpAny_ready (rs := [8]) (by kernel_rfl) (by simp) ?_
    refine AllReady.cons (o := { dst := some 49, op := Op.load 35 (Operand.tmp 48), type := 35, pos := "lexis.go:356", after := #[{ on := 7, ground := Ground.data }, { on := 2, ground := Ground.guard }], guard := some (2, true) }) rfl (fun K hK => ?_) AllReady.nil
    go_simp
    refine hK _ _ ?_
    clear hK K
    exact Key.out
end Go.Proofs.YtdhbhedfbdckaaaGreatDoor

/- A byte written into a builder: what stays as it was. -/
namespace Go.Proofs.YtdhbhedfbdckaaaGreatDoor
open Go.Dam Go.RowKit
set_option linter.unusedVariables false
set_option linter.unusedSimpArgs false
/-- Blocks that hold structs of type 35 stay. -/
def Stay (w w' : World) : Prop := ∀ (k : Nat) (cs : Array Value), w.heap[k]? = some (Obj.cells cs 35 (0, 0)) → w'.heap[k]? = some (Obj.cells cs 35 (0, 0))
theorem cc_walk (B b : Nat) (bs : List Value) (w : World) (h : Lib.IsBuilder 83 5 B b bs w) :
    Calls Tryz.prog 67 #[.pointer (some ⟨b, 0, none⟩)] w fun e w' => e = .returned (.tuple #[]) ∧ Lib.BuilderAt 83 5 B b (.pointer (some ⟨b, 0, none⟩)) bs w' ∧ Below B w w' ∧ Stay w w' := by
  rcases h with h | h
  · have hB := h.1
    obtain ⟨_, v, hb, _⟩ := id h
    refine (Any.Builder_copyCheck_fresh (ρ := Tryz.wbS_ren) { Tryz.wbS with } Tryz.wbSX.toX72 b w h.cell0 h.shape h.frozen0).mono ?_
    rintro e w' ⟨rfl, rfl⟩
    refine ⟨rfl, h.used _, (Below.refl _ _).setCell (p := ⟨b, 0, none⟩) hB _, fun k cs hk => ?_⟩
    have hne : k ≠ b := fun e => by
      subst e
      rw [hb] at hk
      simp at hk
    rw [Below.heap_setCell _ _ _ _ hne]
    exact hk
  · refine (Any.Builder_copyCheck_used (ρ := Tryz.wbS_ren) { Tryz.wbS with } Tryz.wbSX.toX72 b w h.cell0).mono ?_
    rintro e w' ⟨rfl, rfl⟩
    exact ⟨rfl, h, Below.refl _ _, fun k cs hk => hk⟩
set_option maxHeartbeats 2000000 in
set_option maxRecDepth 100000 in
theorem wb_walk (B b : Nat) (bs : List Value) (w : World) (h : Lib.IsBuilder 83 5 B b bs w) (hlen : bs.length + 1 ≤ 100000000) (hBw : B ≤ w.heap.size) :
    Calls Tryz.prog 42 #[.pointer (some ⟨b, 0, none⟩), .int .u8 32] w fun e w' => e = .returned .nilIface ∧ Lib.IsBuilder 83 5 B b (bs ++ [.int .u8 32]) w' ∧ Below B w w' ∧ Stay w w' := by
  obtain ⟨i0, hi, hz0, hz1, hz2⟩ := info_parts Tryz.wbSX.infoByte
  have hu52 : Tryz.prog.underlying 52 = some (.slice 5) := Tryz.wbS.t37
  have e67 : ∀ args w, (callFunc 67 args).run Tryz.prog w = .ok (.enter 67 args) w := enters_of Tryz.func67 (by kernel_rfl) rfl
  go_enter Tryz.func42, Tryz.ntmps42
  go_wp2_with fail
  refine (cc_walk B b bs _ h).mono ?_
  rintro e w1 ⟨rfl, ⟨hB, v, hbk, hown, hne⟩, hb1, hs1⟩
  have c0 : w1.cell? ⟨b, 0, none⟩ = some (.pointer (some ⟨b, 0, none⟩)) := by rw [Lib.cell_of_heap hbk]; rfl
  have c1 : w1.cell? ⟨b, 1, none⟩ = some v := by rw [Lib.cell_of_heap hbk]; rfl
  go_wp2_with (at_builtin; refine wpList_append_own _ rfl _ _ 52 rfl B 5 i0 (.int .u8 0) 1 1 hu52 hi hz0 hz1 hz2 rfl (by decide) _ _ _ rfl (hown.alloc _) ⟨w1.heap.size, 0, none⟩ 1 1 [.int .u8 32] rfl rfl ?p1 ?p2 ?p3 ?p4 ?p5 ?_)
  case p1 =>
    intro j u hj
    match j, hj with
    | 0, hj => simp at hj; subst hj; simp [Addr.add]
  case p2 => intro u hu; simp at hu; subst hu; rfl
  case p3 => unfold maxLen; omega
  case p4 => omega
  case p5 => have := hb1.size; simp; omega
  intro v' w2 hown' hgrow _
  have hlt : b < w1.heap.size := (Array.getElem?_eq_some_iff.1 hbk).1
  have hb2 : w2.heap[b]? = some (.cells #[.pointer (some ⟨b, 0, none⟩), v] 83 (0, 0)) := by
    rw [hgrow.block b (by simp; omega) (fun e => hne e.symm), Lib.alloc_old w1 _ b hlt]
    exact hbk
  have d0 : w2.cell? ⟨b, 0, none⟩ = some (.pointer (some ⟨b, 0, none⟩)) := by rw [Lib.cell_of_heap hb2]; rfl
  have d1 : w2.cell? ⟨b, 1, none⟩ = some v := by rw [Lib.cell_of_heap hb2]; rfl
  have f1 : w2.frozen? ⟨b, 1, none⟩ = false := Lib.frozen_of_heap hb2 1
  obtain ⟨g, cap, rfl⟩ : ∃ g cap, v' = .slice (some ⟨g, 0, none⟩) (bs.length + 1) cap := by
    rcases hown'.2 with ⟨_, h0⟩ | ⟨g, cap, cur, hv, _⟩
    · omega
    · exact ⟨g, cap, hv⟩
  go_wp2
  go_ret
  refine ⟨rfl, .inr (Lib.BuilderAt.put (T := 83) (e := 5) hB hb2 (bs' := bs ++ [.int .u8 32]) (by simpa using hown') Tryz.wbSX.neB5), ?_, fun k cs hk => ?_⟩
  · exact ((hb1.alloc (by have := hb1.size; omega) _).grown hgrow (by have := hb1.size; simp; omega) (fun k hk => (hown.lt k hk).1)).setCell (p := ⟨b, 1, none⟩) hB _
  · have hk1 := hs1 k cs hk
    have hlk : k < w1.heap.size := (Array.getElem?_eq_some_iff.1 hk1).1
    have hkb : k ≠ b := fun e => by
      subst e
      rw [hbk] at hk1
      simp at hk1
    have hkr : some k ≠ v.ownBlock := fun e => by
      rcases hown.2 with ⟨rfl, _⟩ | ⟨g, cap, cur, rfl, _, hg, _⟩
      · simp [Value.ownBlock] at e
      · simp only [Value.ownBlock, Option.some.injEq] at e
        subst e
        rw [hg] at hk1
        simp at hk1
    rw [Below.heap_setCell _ _ _ _ hkb, hgrow.block k (by simp; omega) hkr, Lib.alloc_old w1 _ k hlk]
    exact hk1
end Go.Proofs.YtdhbhedfbdckaaaGreatDoor
