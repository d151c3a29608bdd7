/- A part of an interpreter of the model's code that is proved sound, and of laws told by it: DamRowBase, DamDec. -/
import Derived.Test.YtdhbhedfbdckaaaGreatDoorRows
import Derived.Test.YtdhbhedfbdckaaaGreatDoorPuF4
import Derived.Test.YtdhbhedfbdckaaaGreatDoorPuC7
import Derived.WalkKit
import Derived.ProofKit
import Derived.OpenShut
import Derived.ShutString
import Derived.ChangeOld
import Derived.Below
import Derived.SizedLaws
import Derived.HandedShaped
import Derived.ChangeSame
import Derived.ChangeVars
import Derived.JoinedOf
import Derived.RowKit
import Derived.RowKitTokens
import Derived.LaidLaws
import Derived.LaidHandle
import Derived.Lay
import Derived.MakeChecks
import Derived.Shelf.Vars
import Derived.Lib.LaidTab
import Derived.Stop.LaidErr
import Derived.Stop.Joined
set_option linter.unusedVariables false
set_option linter.unusedSimpArgs false
/- What all rows of chapter 01 share. -/
namespace Go.Proofs.YtdhbhedfbdckaaaGreatDoor
open Go.ChangeShapes Go.WideShapes Go.ChangeAt Go.RowKit Go.Dam
theorem own : ownKnob Tryz.prog.godebug = none := by kernel_rfl
theorem laidOut : laidOutB Tryz.prog = true := by kernel_rfl
/-- The types of arguments, and what they hold. -/
def goods : List Nat := [3, 9, 24, 35]
theorem goods_ok : ∀ t ∈ goods, goodOne tab2 goods t = true := by
  intro t ht
  simp only [goods, List.mem_cons, List.not_mem_nil, or_false] at ht
  rcases ht with rfl | rfl | rfl | rfl <;> kernel_rfl
theorem goods_readable : goods.all (fun t => Tryz.prog.readableRec t && decide (t < Tryz.prog.types.size)) = true := by kernel_rfl
theorem readable (ts : List Nat) (h : ∀ t ∈ ts, t ∈ goods) : ∀ t ∈ ts, Tryz.prog.readableRec t = true ∧ t < Tryz.prog.types.size := fun t ht => by
  have := List.all_eq_true.1 goods_readable t (h t ht)
  simpa using this
noncomputable def lxLaid : List (String × DataW Unit) := Rows.lexisTokensRow.laid
noncomputable def laidWorld (os : Os) : World := World.laidAll Tryz.prog os lxLaid
theorem laid_plain : (lxLaid.all fun x => x.2.handleName?.isNone) = true := by kernel_rfl
theorem laidWorld_met (os : Os) (args : Array Value) : laidMetH Tryz.prog lxLaid ((laidWorld os).forCall (fun _ _ => 0) ⟨#[], args, []⟩).memory := by
  rw [MakeChecks.laidMetH_plain _ _ _ laid_plain]
  exact laidMet_laidAll _ (by kernel_rfl) (by kernel_rfl)
theorem laidWorld_shaped (os : Os) (args : Array Value) : ((laidWorld os).forCall (fun _ _ => 0) ⟨#[], args, []⟩).Shaped Tryz.prog :=
  World.shaped_of_RefB (by kernel_rfl) (by kernel_rfl)
theorem starErr : "*" ++ "errors.errorString" = "*errors.errorString" := by decide
theorem rowErr (u : TypeId) (h : Tryz.prog.typeName? 3 u = some "*errors.errorString") : u = 193 :=
  typeName_ptr_named (nm := "errors.errorString") (by rw [starErr]; kernel_rfl) (by kernel_rfl) (by decide) u (by rw [starErr]; exact h)
/-- A row whose call is handed the variables as they are laid, and the world's shape. -/
theorem returns_laid {H : Type} {enc : TypeId × Value → H} {a : Assume} {C : Checked} {os : Os} {f : FuncId} {fn : Func} {s : ChangeSpec} {conds : List PathCond} {apart fresh handsOn again : Bool} {X : World → Array Value → Prop}
    (hX : ∀ (w w' : World) (args : Array Value), w.heap = w'.heap → X w args → X w' args)
    (ow : ownKnob C.prog.godebug = none) (started : os.Started) (noInit : C.prog.inits.idxOf? f = none) (hfn : C.prog.funcs[f]? = some fn)
    (witness : ∃ (w : World) (tape : Tape) (i : Input), w.os = os ∧ (w.forCall tape i).Shaped C.prog ∧ i.vars = [] ∧ Input.okWide C.prog (w.forCall tape i) .any w.heap.size f i ∧
      ((s.pre enc C.prog fn conds apart (w.forCall tape i).memory i.args ∧ X (w.forCall tape i).memory i.args) ∧ sizedMet enc C.prog fn (OpenSpec.ofChange s) apart (w.forCall tape i).memory i.args) ∧ a.holds C.prog (lone (Frame.enter C.prog f i.args .normal) [] (w.forCall tape i)))
    (contract : ∀ (W : World) (base : Nat) (args : Array Value) (ds gs : List (DataW H)) (before : List MemPlace),
      (∀ (j : Nat) t v, fn.params[j]? = some t → args[j]? = some v → Value.okWide C.prog W .any base t v) →
      DataW.Whole enc C.prog fn.params.toList s.vars apart W args.toList ds gs before →
      (DataW.weightsEach C.prog (fn.params.toList ++ s.plain.varTypes C.prog) (ds ++ gs)).all (· ≤ reachBytes) = true → X W args → W.ShapedOpen C.prog →
      Calls C.prog f args W fun e W' => ∃ v, e = .returned v ∧ s.post enc C.prog fn apart fresh handsOn again W args v W') :
    ReturnsInHanded a C os f .any (fun w args => (s.pre enc C.prog fn conds apart w args ∧ X w args) ∧ sizedMet enc C.prog fn (OpenSpec.ofChange s) apart w args) (s.post enc C.prog fn apart fresh handsOn again) := by
  refine returnsInHanded_of_calls ow started noInit witness ?_
  intro w tape i _ hsh _ hok hpre hholds
  obtain ⟨_, _, _, fn', hfn', _, _, _, _, hval⟩ := hok
  obtain rfl : fn' = fn := Option.some.inj (hfn'.symm.trans hfn)
  obtain ⟨⟨⟨ds, gs, before, hw, hc⟩, hx⟩, hz⟩ := hpre
  refine (contract (w.forCall tape i) w.heap.size i.args ds gs before hval (DataW.Whole.of_heap (w' := w.forCall tape i) (by rfl) hw) (hz.weights hw) (hX _ _ _ (by rfl) hx) hsh).mono fun e W' he => ?_
  obtain ⟨v, rfl, hp⟩ := he
  exact ChangeSpec.post_blind hp
def spZ : List Int := (List.range 256).map fun c => if Lib.isSp (UInt8.ofNat c) then 1 else 0
theorem spZ_is : (Rows.laid_strings_asciiSpace : DataW Unit) = Lib.tabData .u8 spZ := by kernel_rfl
/-- What the variables hold, out of the row's cell and the world's shape. -/
theorem lay_of {W : World} (hl : laidMetH Tryz.prog lxLaid W) (hs : W.ShapedOpen Tryz.prog) : layF W := by
  rw [MakeChecks.laidMetH_plain _ _ _ laid_plain] at hl
  have hl : laidMet Tryz.prog Rows.lexisTokensRow.laid W := hl
  have h4 := hl.tail.tail.tail.tail
  have h7 := h4.tail.tail.tail
  refine ⟨⟨cell_of_shapedOpen_int (t := 3) (zero := #[.int .i64 0]) hs (by decide) (by kernel_rfl) (by kernel_rfl) (by kernel_rfl) (by kernel_rfl) Tryz.underlying3, ?_, ?_⟩, ?_⟩
  · obtain ⟨a, s, h, _⟩ := laid_sentinel (g := 5) (ti := 86) (tp := 193) (te := 195) (ts := 9) h4.tail (by kernel_rfl) (by kernel_rfl) Tryz.underlying86 rowErr Tryz.underlying193 Tryz.underlying195 rfl rfl Tryz.underlying9 (by kernel_rfl) (by kernel_rfl)
    exact ⟨_, _, h⟩
  · obtain ⟨a, s, h, _⟩ := laid_sentinel (g := 6) (ti := 86) (tp := 193) (te := 195) (ts := 9) h4 (by kernel_rfl) (by kernel_rfl) Tryz.underlying86 rowErr Tryz.underlying193 Tryz.underlying195 rfl rfl Tryz.underlying9 (by kernel_rfl) (by kernel_rfl)
    exact ⟨_, _, h⟩
  · intro c hc
    have h7 : laidMet Tryz.prog (("strings.asciiSpace", Rows.laid_strings_asciiSpace) :: [("unicode/utf8.first", Rows.laid_unicode_utf8_first)]) W := h7
    rw [spZ_is] at h7
    have ht := Lib.tabIs_of_head (g := 0) (t := 121) (e := 5) (n := 256) (by kernel_rfl) (by kernel_rfl) Tryz.underlying121 Tryz.underlying5 (by kernel_rfl) (by kernel_rfl) h7
    have hg : Tryz.prog.globalNamed "strings.asciiSpace" = some 0 := by kernel_rfl
    have hz : (spZ.map fun z => Value.int .u8 z).toArray[c]? = some (.int .u8 (if Lib.isSp (UInt8.ofNat c) then 1 else 0)) := by
      unfold spZ
      rw [List.getElem?_toArray, List.getElem?_map, List.getElem?_map, List.getElem?_range hc]
      rfl
    exact (World.var?_cell hg ht c).trans hz
end Go.Proofs.YtdhbhedfbdckaaaGreatDoor

/- Arguments that are well formed: numbers, texts, tokens. -/
namespace Go.Proofs.YtdhbhedfbdckaaaGreatDoor
open Go.Dam
set_option linter.unusedVariables false
set_option linter.unusedSimpArgs false
theorem dec3 {a : AV} (h : WfA tab2 3 a) : ∃ n : Int, a = I n := by
  obtain ⟨z, s, b, hi, _, h2⟩ := h
  have hi' : tabInfo 3 = some (z, s, b) := hi
  cases hi'
  have : Wf tab2 (I 0) a := h2 0 (by omega)
  cases this with
  | int k n0 n h => exact ⟨n, rfl⟩
theorem dec9 {a : AV} (h : WfA tab2 9 a) : ∃ l : List UInt8, a = St (sb l) := by
  obtain ⟨z, s, b, hi, _, h2⟩ := h
  have hi' : tabInfo 9 = some (z, s, b) := hi
  cases hi'
  have : Wf tab2 (St ⟨#[]⟩) a := h2 0 (by omega)
  cases this with
  | string s0 s h => exact ⟨bl s, rfl⟩
end Go.Proofs.YtdhbhedfbdckaaaGreatDoor
