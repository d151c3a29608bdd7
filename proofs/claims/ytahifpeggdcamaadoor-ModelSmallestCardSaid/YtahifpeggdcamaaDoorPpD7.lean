/- A part of an interpreter of the model's code that is proved sound, and of laws told by it: DamCopy. -/
import Derived.Test.YtahifpeggdcamaaDoorChecked
import Derived.Test.YtahifpeggdcamaaDoorPpC5
import Derived.Test.YtahifpeggdcamaaDoorPpD1
import Derived.WalkKit
import Derived.WalkSpells
import Derived.Outline
set_option linter.unusedVariables false
set_option linter.unusedSimpArgs false
/- The drawn region of ModelCompleted that copies two numbers: whatever the order. -/
namespace Go.Proofs.YtahifpeggdcamaaDoor
open Go.RowKit Go.Dam
set_option linter.unusedVariables false
set_option linter.unusedSimpArgs false
def ops93 : Array Oper := #[{ dst := some 15, op := Go.Op.fieldAddr 30 (Go.Operand.tmp 2) 1, type := 0, pos := "law.go:320", after := #[], guard := none }, { dst := some 16, op := Go.Op.load 3 (Go.Operand.tmp 15), type := 3, pos := "law.go:320", after := #[{ on := 0, ground := Go.Ground.data }], guard := none }, { dst := some 17, op := Go.Op.fieldAddr 30 (Go.Operand.tmp 2) 2, type := 0, pos := "law.go:320", after := #[{ on := 5, ground := Go.Ground.gcOnly Go.Departure.lateStores }], guard := none }, { dst := some 18, op := Go.Op.load 3 (Go.Operand.tmp 17), type := 3, pos := "law.go:320", after := #[{ on := 2, ground := Go.Ground.data }, { on := 5, ground := Go.Ground.gcOnly Go.Departure.lateStores }], guard := none }, { dst := some 19, op := Go.Op.fieldAddr 30 (Go.Operand.tmp 3) 1, type := 0, pos := "law.go:320", after := #[{ on := 0, ground := Go.Ground.phase }, { on := 1, ground := Go.Ground.phase }, { on := 2, ground := Go.Ground.textOnly Go.Departure.lateStores }, { on := 3, ground := Go.Ground.textOnly Go.Departure.lateStores }], guard := none }, { dst := none, op := Go.Op.store 3 (Go.Operand.tmp 19) (Go.Operand.tmp 16), type := 0, pos := "law.go:320", after := #[{ on := 4, ground := Go.Ground.data }, { on := 1, ground := Go.Ground.data }, { on := 0, ground := Go.Ground.phase }, { on := 1, ground := Go.Ground.phase }, { on := 2, ground := Go.Ground.textOnly Go.Departure.lateStores }, { on := 3, ground := Go.Ground.textOnly Go.Departure.lateStores }], guard := none }, { dst := some 20, op := Go.Op.fieldAddr 30 (Go.Operand.tmp 3) 2, type := 0, pos := "law.go:320", after := #[{ on := 0, ground := Go.Ground.phase }, { on := 1, ground := Go.Ground.phase }, { on := 2, ground := Go.Ground.phase }, { on := 3, ground := Go.Ground.phase }, { on := 4, ground := Go.Ground.phase }, { on := 5, ground := Go.Ground.phase }], guard := none }, { dst := none, op := Go.Op.store 3 (Go.Operand.tmp 20) (Go.Operand.tmp 18), type := 0, pos := "law.go:320", after := #[{ on := 6, ground := Go.Ground.data }, { on := 3, ground := Go.Ground.data }, { on := 5, ground := Go.Ground.chain }, { on := 0, ground := Go.Ground.phase }, { on := 1, ground := Go.Ground.phase }, { on := 2, ground := Go.Ground.phase }, { on := 3, ground := Go.Ground.phase }, { on := 4, ground := Go.Ground.phase }, { on := 5, ground := Go.Ground.phase }], guard := none }]
set_option maxHeartbeats 4000000 in
set_option maxRecDepth 100000 in
theorem copy93_core (t0 t1 t4 t5 t6 t7 t8 t9 t10 t11 t12 t13 t14 t15 t16 t17 t18 t19 t20 t21 t22 t23 t24 t25 t26 t27 t28 t29 t30 t31 t32 t33 t34 t35 t36 t37 t38 t39 t40 t41 t42 t43 t44 t45 t46 t47 t48 t49 t50 t51 t52 t53 t54 t55 t56 t57 t58 t59 t60 t61 t62 t63 t64 t65 t66 t67 t68 t69 t70 t71 t72 t73 t74 t75 t76 t77 t78 t79 t80 t81 t82 t83 t84 t85 t86 t87 t88 t89 t90 t91 t92 t93 t94 t95 t96 t97 t98 t99 t100 t101 t102 t103 t104 t105 t106 t107 : Value) (ds : List Deferred) (w : World) (b b' : Nat) (n1 n2 m1 m2 : Int) (R : Act → World → Prop) (hne : b ≠ b')
    (h1 : w.cell? ⟨b, 1, none⟩ = some (.int .i64 n1)) (h2 : w.cell? ⟨b, 2, none⟩ = some (.int .i64 n2)) (h3 : w.cell? ⟨b', 1, none⟩ = some (.int .i64 m1)) (h4 : w.cell? ⟨b', 2, none⟩ = some (.int .i64 m2))
    (h5 : ∀ j, w.frozen? ⟨b', j, none⟩ = false)
    (hR : R { tmps := #[t0, t1, .pointer (some ⟨b, 0, none⟩), .pointer (some ⟨b', 0, none⟩), t4, t5, t6, t7, t8, t9, t10, t11, t12, t13, t14, .pointer (some ⟨b, 1, none⟩), .int .i64 n1, .pointer (some ⟨b, 2, none⟩), .int .i64 n2, .pointer (some ⟨b', 1, none⟩), .pointer (some ⟨b', 2, none⟩), t21, t22, t23, t24, t25, t26, t27, t28, t29, t30, t31, t32, t33, t34, t35, t36, t37, t38, t39, t40, t41, t42, t43, t44, t45, t46, t47, t48, t49, t50, t51, t52, t53, t54, t55, t56, t57, t58, t59, t60, t61, t62, t63, t64, t65, t66, t67, t68, t69, t70, t71, t72, t73, t74, t75, t76, t77, t78, t79, t80, t81, t82, t83, t84, t85, t86, t87, t88, t89, t90, t91, t92, t93, t94, t95, t96, t97, t98, t99, t100, t101, t102, t103, t104, t105, t106, t107], defers := ds } (((w.setCell ⟨b', 1, none⟩ (.int .i64 n1)).setCell ⟨b', 2, none⟩ (.int .i64 n2)).drew)) :
    (Code.region 3 #[{ dst := some 15, op := Go.Op.fieldAddr 30 (Go.Operand.tmp 2) 1, type := 0, pos := "law.go:320", after := #[], guard := none }, { dst := some 16, op := Go.Op.load 3 (Go.Operand.tmp 15), type := 3, pos := "law.go:320", after := #[{ on := 0, ground := Go.Ground.data }], guard := none }, { dst := some 17, op := Go.Op.fieldAddr 30 (Go.Operand.tmp 2) 2, type := 0, pos := "law.go:320", after := #[{ on := 5, ground := Go.Ground.gcOnly Go.Departure.lateStores }], guard := none }, { dst := some 18, op := Go.Op.load 3 (Go.Operand.tmp 17), type := 3, pos := "law.go:320", after := #[{ on := 2, ground := Go.Ground.data }, { on := 5, ground := Go.Ground.gcOnly Go.Departure.lateStores }], guard := none }, { dst := some 19, op := Go.Op.fieldAddr 30 (Go.Operand.tmp 3) 1, type := 0, pos := "law.go:320", after := #[{ on := 0, ground := Go.Ground.phase }, { on := 1, ground := Go.Ground.phase }, { on := 2, ground := Go.Ground.textOnly Go.Departure.lateStores }, { on := 3, ground := Go.Ground.textOnly Go.Departure.lateStores }], guard := none }, { dst := none, op := Go.Op.store 3 (Go.Operand.tmp 19) (Go.Operand.tmp 16), type := 0, pos := "law.go:320", after := #[{ on := 4, ground := Go.Ground.data }, { on := 1, ground := Go.Ground.data }, { on := 0, ground := Go.Ground.phase }, { on := 1, ground := Go.Ground.phase }, { on := 2, ground := Go.Ground.textOnly Go.Departure.lateStores }, { on := 3, ground := Go.Ground.textOnly Go.Departure.lateStores }], guard := none }, { dst := some 20, op := Go.Op.fieldAddr 30 (Go.Operand.tmp 3) 2, type := 0, pos := "law.go:320", after := #[{ on := 0, ground := Go.Ground.phase }, { on := 1, ground := Go.Ground.phase }, { on := 2, ground := Go.Ground.phase }, { on := 3, ground := Go.Ground.phase }, { on := 4, ground := Go.Ground.phase }, { on := 5, ground := Go.Ground.phase }], guard := none }, { dst := none, op := Go.Op.store 3 (Go.Operand.tmp 20) (Go.Operand.tmp 18), type := 0, pos := "law.go:320", after := #[{ on := 6, ground := Go.Ground.data }, { on := 3, ground := Go.Ground.data }, { on := 5, ground := Go.Ground.chain }, { on := 0, ground := Go.Ground.phase }, { on := 1, ground := Go.Ground.phase }, { on := 2, ground := Go.Ground.phase }, { on := 3, ground := Go.Ground.phase }, { on := 4, ground := Go.Ground.phase }, { on := 5, ground := Go.Ground.phase }], guard := none }] true).wp Tryd.prog (fun e a w => match e with | .normal => R a w | _ => False) { tmps := #[t0, t1, .pointer (some ⟨b, 0, none⟩), .pointer (some ⟨b', 0, none⟩), t4, t5, t6, t7, t8, t9, t10, t11, t12, t13, t14, t15, t16, t17, t18, t19, t20, t21, t22, t23, t24, t25, t26, t27, t28, t29, t30, t31, t32, t33, t34, t35, t36, t37, t38, t39, t40, t41, t42, t43, t44, t45, t46, t47, t48, t49, t50, t51, t52, t53, t54, t55, t56, t57, t58, t59, t60, t61, t62, t63, t64, t65, t66, t67, t68, t69, t70, t71, t72, t73, t74, t75, t76, t77, t78, t79, t80, t81, t82, t83, t84, t85, t86, t87, t88, t89, t90, t91, t92, t93, t94, t95, t96, t97, t98, t99, t100, t101, t102, t103, t104, t105, t106, t107], defers := ds } w := by
  have f1 := h5 1
  have f2 := h5 2
  go_region
  all_goals exact hR
theorem arr108 (ts : Array Value) (h : ts.size = 108) : ∃ t0 t1 t2 t3 t4 t5 t6 t7 t8 t9 t10 t11 t12 t13 t14 t15 t16 t17 t18 t19 t20 t21 t22 t23 t24 t25 t26 t27 t28 t29 t30 t31 t32 t33 t34 t35 t36 t37 t38 t39 t40 t41 t42 t43 t44 t45 t46 t47 t48 t49 t50 t51 t52 t53 t54 t55 t56 t57 t58 t59 t60 t61 t62 t63 t64 t65 t66 t67 t68 t69 t70 t71 t72 t73 t74 t75 t76 t77 t78 t79 t80 t81 t82 t83 t84 t85 t86 t87 t88 t89 t90 t91 t92 t93 t94 t95 t96 t97 t98 t99 t100 t101 t102 t103 t104 t105 t106 t107, ts = #[t0, t1, t2, t3, t4, t5, t6, t7, t8, t9, t10, t11, t12, t13, t14, t15, t16, t17, t18, t19, t20, t21, t22, t23, t24, t25, t26, t27, t28, t29, t30, t31, t32, t33, t34, t35, t36, t37, t38, t39, t40, t41, t42, t43, t44, t45, t46, t47, t48, t49, t50, t51, t52, t53, t54, t55, t56, t57, t58, t59, t60, t61, t62, t63, t64, t65, t66, t67, t68, t69, t70, t71, t72, t73, t74, t75, t76, t77, t78, t79, t80, t81, t82, t83, t84, t85, t86, t87, t88, t89, t90, t91, t92, t93, t94, t95, t96, t97, t98, t99, t100, t101, t102, t103, t104, t105, t106, t107] := by
  have e : ts.toList = (List.range 108).map fun i => ts.getD i undef := by
    apply List.ext_getElem
    · simp [h]
    · intro i h1 h2
      simp only [List.length_map, List.length_range] at h2
      simp [Array.getD, show i < ts.size by omega]
  have : ts = ((List.range 108).map fun i => ts.getD i undef).toArray := by rw [← e]
  exact ⟨_, _, _, _, _, _, _, _, _, _, _, _, _, _, _, _, _, _, _, _, _, _, _, _, _, _, _, _, _, _, _, _, _, _, _, _, _, _, _, _, _, _, _, _, _, _, _, _, _, _, _, _, _, _, _, _, _, _, _, _, _, _, _, _, _, _, _, _, _, _, _, _, _, _, _, _, _, _, _, _, _, _, _, _, _, _, _, _, _, _, _, _, _, _, _, _, _, _, _, _, _, _, _, _, _, _, _, _, this⟩
set_option maxHeartbeats 4000000 in
set_option maxRecDepth 100000 in
theorem copy93_ok : CopyOk Tryd.prog ⟨2, 3, 1, 2, [15, 16, 17, 18, 19, 20], 108⟩ 3 ops93 := by
  intro ts ds w b b' cx cy ex ey Q hm h2 h3 hne hx hy hlx hly hix hiy hQ
  simp only at hm hlx hly hix hiy hQ
  obtain ⟨t0, t1, t2, t3, t4, t5, t6, t7, t8, t9, t10, t11, t12, t13, t14, t15, t16, t17, t18, t19, t20, t21, t22, t23, t24, t25, t26, t27, t28, t29, t30, t31, t32, t33, t34, t35, t36, t37, t38, t39, t40, t41, t42, t43, t44, t45, t46, t47, t48, t49, t50, t51, t52, t53, t54, t55, t56, t57, t58, t59, t60, t61, t62, t63, t64, t65, t66, t67, t68, t69, t70, t71, t72, t73, t74, t75, t76, t77, t78, t79, t80, t81, t82, t83, t84, t85, t86, t87, t88, t89, t90, t91, t92, t93, t94, t95, t96, t97, t98, t99, t100, t101, t102, t103, t104, t105, t106, t107, rfl⟩ := arr108 ts hm
  obtain rfl : t2 = .pointer (some ⟨b, 0, none⟩) := h2
  obtain rfl : t3 = .pointer (some ⟨b', 0, none⟩) := h3
  obtain ⟨n1, e1⟩ := hix 0 (by omega)
  obtain ⟨n2, e2⟩ := hix 1 (by omega)
  obtain ⟨m1, e3⟩ := hiy 0 (by omega)
  obtain ⟨m2, e4⟩ := hiy 1 (by omega)
  have get : ∀ {c : Array Value} {j : Nat} {v : Value}, c.getD j undef = v → j < c.size → c[j]? = some v := fun h hj => by
    rw [← h]; simp [Array.getD, hj]
  have cell : ∀ {k j : Nat} {c : Array Value} {e : TypeId} {v : Value}, w.heap[k]? = some (.cells c e (0, 0)) → c[j]? = some v → w.cell? ⟨k, j, none⟩ = some v := fun h hj => by
    unfold World.cell?; simp [h, hj]
  have hfr : ∀ j, w.frozen? ⟨b', j, none⟩ = false := fun j => by unfold World.frozen?; simp [hy]
  have core := copy93_core t0 t1 t4 t5 t6 t7 t8 t9 t10 t11 t12 t13 t14 t15 t16 t17 t18 t19 t20 t21 t22 t23 t24 t25 t26 t27 t28 t29 t30 t31 t32 t33 t34 t35 t36 t37 t38 t39 t40 t41 t42 t43 t44 t45 t46 t47 t48 t49 t50 t51 t52 t53 t54 t55 t56 t57 t58 t59 t60 t61 t62 t63 t64 t65 t66 t67 t68 t69 t70 t71 t72 t73 t74 t75 t76 t77 t78 t79 t80 t81 t82 t83 t84 t85 t86 t87 t88 t89 t90 t91 t92 t93 t94 t95 t96 t97 t98 t99 t100 t101 t102 t103 t104 t105 t106 t107 ds w b b' n1 n2 m1 m2 (fun a w => Q .normal a w) hne (cell hx (get e1 (by omega))) (cell hx (get e2 (by omega))) (cell hy (get e3 (by omega))) (cell hy (get e4 (by omega))) hfr ?_
  · exact wp_mono core fun e a' w' h => by
      cases e <;> first | exact h | exact h.elim
  · have hset : ∀ (w : World) (j : Nat) (c : Array Value) (e : TypeId) (v : Value), w.heap[b']? = some (.cells c e (0, 0)) → (w.setCell ⟨b', j, none⟩ v).heap[b']? = some (.cells (c.setIfInBounds j v) e (0, 0)) := fun w j c e v h => by
      simp [World.setCell, Array.getElem?_modify, h]
    have := hQ [.pointer (some ⟨b, 1, none⟩), .int .i64 n1, .pointer (some ⟨b, 2, none⟩), .int .i64 n2, .pointer (some ⟨b', 1, none⟩), .pointer (some ⟨b', 2, none⟩)]
      (((w.setCell ⟨b', 1, none⟩ (.int .i64 n1)).setCell ⟨b', 2, none⟩ (.int .i64 n2)).drew) ((cy.setIfInBounds 1 (.int .i64 n1)).setIfInBounds 2 (.int .i64 n2)) rfl rfl rfl rfl
      (by show ((w.setCell _ _).setCell _ _).heap.size = _; simp [World.setCell])
      (fun k hk => by
        show ((w.setCell _ _).setCell _ _).heap[k]? = _
        rw [Below.heap_setCell _ _ _ _ hk, Below.heap_setCell _ _ _ _ hk])
      (hset _ _ _ _ _ (hset _ _ _ _ _ hy)) (by simp)
      (fun j => by
        simp only [Array.getD_eq_getD_getElem?, Array.getElem?_setIfInBounds, Array.size_setIfInBounds] at e1 e2 ⊢
        by_cases j2 : 2 = j
        · subst j2
          rw [if_pos rfl, if_pos (by omega), if_pos (by omega)]
          exact e2.symm
        · rw [if_neg j2]
          by_cases j1 : 1 = j
          · subst j1
            rw [if_pos rfl, if_pos (by omega), if_pos (by omega)]
            exact e1.symm
          · rw [if_neg j1, if_neg (by omega)])
    have hput : putAll #[t0, t1, .pointer (some ⟨b, 0, none⟩), .pointer (some ⟨b', 0, none⟩), t4, t5, t6, t7, t8, t9, t10, t11, t12, t13, t14, t15, t16, t17, t18, t19, t20, t21, t22, t23, t24, t25, t26, t27, t28, t29, t30, t31, t32, t33, t34, t35, t36, t37, t38, t39, t40, t41, t42, t43, t44, t45, t46, t47, t48, t49, t50, t51, t52, t53, t54, t55, t56, t57, t58, t59, t60, t61, t62, t63, t64, t65, t66, t67, t68, t69, t70, t71, t72, t73, t74, t75, t76, t77, t78, t79, t80, t81, t82, t83, t84, t85, t86, t87, t88, t89, t90, t91, t92, t93, t94, t95, t96, t97, t98, t99, t100, t101, t102, t103, t104, t105, t106, t107] [15, 16, 17, 18, 19, 20] [.pointer (some ⟨b, 1, none⟩), .int .i64 n1, .pointer (some ⟨b, 2, none⟩), .int .i64 n2, .pointer (some ⟨b', 1, none⟩), .pointer (some ⟨b', 2, none⟩)] = #[t0, t1, .pointer (some ⟨b, 0, none⟩), .pointer (some ⟨b', 0, none⟩), t4, t5, t6, t7, t8, t9, t10, t11, t12, t13, t14, .pointer (some ⟨b, 1, none⟩), .int .i64 n1, .pointer (some ⟨b, 2, none⟩), .int .i64 n2, .pointer (some ⟨b', 1, none⟩), .pointer (some ⟨b', 2, none⟩), t21, t22, t23, t24, t25, t26, t27, t28, t29, t30, t31, t32, t33, t34, t35, t36, t37, t38, t39, t40, t41, t42, t43, t44, t45, t46, t47, t48, t49, t50, t51, t52, t53, t54, t55, t56, t57, t58, t59, t60, t61, t62, t63, t64, t65, t66, t67, t68, t69, t70, t71, t72, t73, t74, t75, t76, t77, t78, t79, t80, t81, t82, t83, t84, t85, t86, t87, t88, t89, t90, t91, t92, t93, t94, t95, t96, t97, t98, t99, t100, t101, t102, t103, t104, t105, t106, t107] := by kernel_rfl
    rw [hput] at this
    exact this
theorem drawn93 : drawnAt 3 (bodyOf Tryd.f9) = [ops93] := by kernel_rfl
theorem tab_copies : ∀ f fn, tabFn f = some fn → copiesOk Tryd.prog (tabCopy f) (bodyOf fn) := by
  intro f fn hf id c hcp ops hops
  unfold tabCopy at hcp
  split at hcp
  · cases hcp
    have e : fn = Tryd.f9 := (Option.some.inj ((show tabFn 9 = some Tryd.f9 from rfl).symm.trans hf)).symm
    rw [e, drawn93, List.mem_singleton] at hops
    rw [hops]
    exact copy93_ok
  · cases hcp
end Go.Proofs.YtahifpeggdcamaaDoor
