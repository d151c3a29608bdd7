/- A part of an interpreter of the model's code that is proved sound, and of laws told by it: DamExtS, DamExtL, DamOk. -/
import Derived.Test.YtdhbhedfbdckaaaGreatDoorPuD3
import Derived.Test.YtdhbhedfbdckaaaGreatDoorPuC6
import Derived.Test.YtdhbhedfbdckaaaGreatDoorPuD1
import Derived.Test.YtdhbhedfbdckaaaGreatDoorChecked
import Derived.Test.YtdhbhedfbdckaaaGreatDoorPuD4
import Derived.Test.YtdhbhedfbdckaaaGreatDoorPuD2
import Derived.Test.YtdhbhedfbdckaaaGreatDoorPuC7
set_option linter.unusedVariables false
set_option linter.unusedSimpArgs false
/- Searches in strings and strconv.Atoi: what the machine does. -/
namespace Go.Proofs.YtdhbhedfbdckaaaGreatDoor
open Go.Dam Go.RowKit
set_option linter.unusedVariables false
section
variable {C : Tab}
set_option maxRecDepth 100000 in
theorem count_con (hres : C.res 55 = [3]) (hflat : C.flat 3 = true) (hag : isAggT C 3 = some false) {args : List AV} {r : AV} (h : extCount1 args = some r) : ContractL C Tryz.prog 55 args r := by
  unfold extCount1 at h
  split at h
  case h_2 => simp at h
  rename_i s c
  simp only [Option.some.injEq] at h
  subst h
  exact con_sc (xs := [.string s, .string ⟨⟨[c]⟩⟩]) Tryz.func55 (by kernel_rfl) (by kernel_rfl) hres hflat hag rfl fun w _ => (Any.strings_Count_one Tryz.cntS s c w).mono fun e w' ⟨h1, h2⟩ => ⟨h1, h2 ▸ Below.refl _ _⟩
set_option maxRecDepth 100000 in
theorem last_con (hres : C.res 56 = [3]) (hflat : C.flat 3 = true) (hag : isAggT C 3 = some false) {args : List AV} {r : AV} (h : extLast1 args = some r) : ContractL C Tryz.prog 56 args r := by
  unfold extLast1 at h
  split at h
  case h_2 => simp at h
  rename_i s c
  split at h
  case isFalse => simp at h
  rename_i hs
  simp only [Option.some.injEq] at h
  subst h
  exact con_sc (xs := [.string s, .string ⟨⟨[c]⟩⟩]) Tryz.func56 (by kernel_rfl) (by kernel_rfl) hres hflat hag rfl fun w _ => (Any.strings_LastIndex_one Tryz.lastS s ⟨⟨[c]⟩⟩ rfl (by simpa using hs) w).mono fun e w' ⟨h1, h2⟩ => ⟨h1, h2 ▸ Below.refl _ _⟩
set_option maxRecDepth 100000 in
theorem ixb_con (hres : C.res 57 = [3]) (hflat : C.flat 3 = true) (hag : isAggT C 3 = some false) {args : List AV} {r : AV} (h : extIdxB args = some r) : ContractL C Tryz.prog 57 args r := by
  unfold extIdxB at h
  split at h
  case h_2 => simp at h
  rename_i s c
  simp only [Option.some.injEq] at h
  subst h
  exact con_sc (xs := [.string s, .int .u8 c]) Tryz.func57 (by kernel_rfl) (by kernel_rfl) hres hflat hag rfl fun w _ => (Any.strings_IndexByte Tryz.ixbS s c w).mono fun e w' ⟨h1, h2⟩ => ⟨h1, h2 ▸ Below.refl _ _⟩
set_option maxRecDepth 100000 in
theorem index_con (hlay : ∀ w, C.lay w → layL w) (hres : C.res 77 = [3]) (hflat : C.flat 3 = true) (hag : isAggT C 3 = some false) {args : List AV} {r : AV} (h : extIndex args = some r) : ContractL C Tryz.prog 77 args r := by
  unfold extIndex at h
  split at h
  case h_2 => simp at h
  rename_i s t
  split at h
  case isFalse => simp at h
  rename_i hs
  simp only [Option.some.injEq] at h
  subst h
  exact con_sc (xs := [.string s, .string t]) Tryz.func77 (by kernel_rfl) (by kernel_rfl) hres hflat hag rfl fun w hl => by
    obtain ⟨⟨m, hm⟩, _⟩ := hlay w hl
    exact (Any.strings_Index Tryz.idxS s t m w (by simpa using hs) hm).mono fun e w' ⟨h1, h2⟩ => ⟨h1, h2 ▸ Below.refl _ _⟩
theorem ascii_at {l : List UInt8} (h : asciiL l = true) : ∀ (j : Nat) b, l[j]? = some b → b.toNat < 128 := fun j b hj => by
  have := List.all_eq_true.1 h b (List.mem_of_getElem? hj)
  simpa using this
set_option maxRecDepth 100000 in
theorem ixany_con (hres : C.res 107 = [3]) (hflat : C.flat 3 = true) (hag : isAggT C 3 = some false) {args : List AV} {r : AV} (h : extIxAny args = some r) : ContractL C Tryz.prog 107 args r := by
  unfold extIxAny at h
  split at h
  case h_2 => simp at h
  rename_i s t
  split at h
  case isFalse => simp at h
  rename_i hs
  simp only [Bool.and_eq_true] at hs
  simp only [Option.some.injEq] at h
  subst h
  exact con_sc (xs := [.string s, .string t]) Tryz.func107 (by kernel_rfl) (by kernel_rfl) hres hflat hag rfl fun w _ => Any.strings_IndexAny_laid Tryz.anyS (by kernel_rfl) s t w (by simpa using hs.1) (by simpa using hs.2.1) (ascii_at hs.2.2.1) (ascii_at hs.2.2.2)
set_option maxRecDepth 100000 in
theorem trim_con (hres : C.res 108 = [9]) (hflat : C.flat 9 = true) (hag : isAggT C 9 = some false) {args : List AV} {r : AV} (h : extTrim args = some r) : ContractL C Tryz.prog 108 args r := by
  unfold extTrim at h
  split at h
  case h_2 => simp at h
  rename_i s t
  split at h
  case isFalse => simp at h
  rename_i hs
  simp only [Bool.and_eq_true] at hs
  simp only [Option.some.injEq] at h
  subst h
  exact con_sc (xs := [.string s, .string t]) Tryz.func108 (by kernel_rfl) (by kernel_rfl) hres hflat hag rfl fun w _ => Any.strings_Trim_laid Tryz.trimS (by kernel_rfl) s t w (by simpa using hs.1) (by simpa using hs.2.1) (ascii_at hs.2.2)
set_option maxRecDepth 100000 in
theorem atoi_con (hlay : ∀ w, C.lay w → layL w) (hres : C.res 106 = [3, 86]) (hm : retMd C (C.roF 106) (C.res 106) = .tup [.uni .ro, .uni .ro]) (hag : isAggT C 3 = some false) (hag4 : isAggT C 86 = some false) {args : List AV} {r : AV} (h : extAtoiE args = some r) : ContractL C Tryz.prog 106 args r := by
  unfold extAtoiE at h
  split at h
  case h_2 => simp at h
  rename_i s
  split at h
  case isFalse => simp at h
  rename_i hs
  have hs' : s.size ≤ 281474976710656 := Nat.le_of_ble_eq_true hs
  cases hv : Lib.atoiAll s.data.toList with
  | ok v =>
    rw [hv] at h
    simp only [Option.some.injEq] at h
    subst h
    exact con_err (xs := [.string s]) Tryz.func106 (by kernel_rfl) (by kernel_rfl) hres hm hag hag4 rfl fun w _ => (Any.strconv_Atoi_ok Tryz.atoiS s (by omega) v hv w).mono fun e w' ⟨h1, h2⟩ => ⟨_, h1, .inl ⟨rfl, rfl⟩, by
      rcases h2 with rfl | ⟨t, rfl⟩
      · exact Below.refl _ _
      · exact Lib.bytesWorld_below w _ t⟩
  | range =>
    rw [hv] at h
    simp only [Option.some.injEq] at h
    subst h
    exact con_err (xs := [.string s]) Tryz.func106 (by kernel_rfl) (by kernel_rfl) hres hm hag hag4 rfl fun w hl => by
      obtain ⟨_, _, ⟨t, p, hp⟩⟩ := hlay w hl
      exact (Any.strconv_Atoi_range_var Tryz.atoiS s hs' hv t p w hp).mono fun e w' ⟨N, h1, _, _, h2⟩ => ⟨_, h1, .inr ⟨rfl, _, _, rfl⟩, h2⟩
  | _ =>
    rw [hv] at h
    simp only [Option.some.injEq] at h
    subst h
    exact con_err (xs := [.string s]) Tryz.func106 (by kernel_rfl) (by kernel_rfl) hres hm hag hag4 rfl fun w hl => by
      obtain ⟨_, ⟨t, p, hp⟩, _⟩ := hlay w hl
      exact (Any.strconv_Atoi_syntax_var Tryz.atoiS s hs' hv t p w hp).mono fun e w' ⟨N, h1, _, _, h2⟩ => ⟨_, h1, .inr ⟨rfl, _, _, rfl⟩, h2⟩
end
end Go.Proofs.YtdhbhedfbdckaaaGreatDoor

/- The words and symbols of the languages: the contract. -/
namespace Go.Proofs.YtdhbhedfbdckaaaGreatDoor
open Go.Dam Go.RowKit
set_option linter.unusedVariables false
set_option linter.unusedSimpArgs false
theorem eqBs_eq : ∀ {l m : List UInt8}, eqBs l m = true → l = m
  | [], [], _ => rfl
  | [], _ :: _, h => by simp [eqBs] at h
  | _ :: _, [], h => by simp [eqBs] at h
  | a :: l, b :: m, h => by
    simp only [eqBs, Bool.and_eq_true] at h
    have h1 : a.toNat = b.toNat := Nat.eq_of_beq_eq_true h.1
    rw [UInt8.toNat.inj h1, eqBs_eq h.2]
/-- In the order of texts. -/
def leBs : List UInt8 → List UInt8 → Bool
  | [], _ => true
  | _ :: _, [] => false
  | a :: l, b :: m => Nat.blt a.toNat b.toNat || (Nat.beq a.toNat b.toNat && leBs l m)
theorem leBs_le : ∀ {l m : List UInt8}, leBs l m = true → l ≤ m
  | [], m, _ => List.nil_le m
  | _ :: _, [], h => by simp [leBs] at h
  | a :: l, b :: m, h => by
    simp only [leBs, Bool.or_eq_true, Bool.and_eq_true] at h
    rw [List.cons_le_cons_iff]
    rcases h with h | ⟨h1, h2⟩
    · exact .inl (UInt8.lt_iff_toNat_lt.2 (by simpa using h))
    · exact .inr ⟨UInt8.toNat.inj (Nat.eq_of_beq_eq_true h1), leBs_le h2⟩
def upBs : List (List UInt8) → Bool
  | a :: b :: l => leBs a b && upBs (b :: l)
  | _ => true
theorem upBs_pw : ∀ {l : List (List UInt8)}, upBs l = true → l.Pairwise fun a b => decide (a ≤ b) = true
  | [], _ => .nil
  | [a], _ => by simp
  | a :: b :: l, h => by
    simp only [upBs, Bool.and_eq_true] at h
    have ih := upBs_pw h.2
    refine .cons (fun c hc => ?_) ih
    have hab := leBs_le h.1
    rcases List.mem_cons.1 hc with rfl | hc
    · simpa using hab
    · have := (List.pairwise_cons.1 ih).1 c hc
      simp only [decide_eq_true_eq] at this ⊢
      exact List.le_trans hab this
theorem sort_eq {B S : List (List UInt8)} (hp : B.isPerm S = true) (hs : upBs S = true) : (B.mergeSort fun x y => decide (x ≤ y)) = S := by
  refine List.Perm.eq_of_pairwise (le := fun a b => decide (a ≤ b) = true) (fun a b _ _ h1 h2 => ?_) (List.pairwise_mergeSort (fun a b c h1 h2 => ?_) (fun a b => ?_) B) (upBs_pw hs) ((List.mergeSort_perm B _).trans (List.isPerm_iff.1 hp))
  · simp only [decide_eq_true_eq] at h1 h2
    exact List.le_antisymm h1 h2
  · simp only [decide_eq_true_eq] at h1 h2 ⊢
    exact List.le_trans h1 h2
  · rw [Bool.or_eq_true, decide_eq_true_eq, decide_eq_true_eq]
    exact List.le_total a b
section
variable {C : Tab}
set_option maxRecDepth 100000 in
theorem lang_one (hlay : ∀ w, C.lay w → layF w) (hres : C.res 68 = [54]) (hflat : C.flat 54 = false) (hrt : C.roF 68 = false) (hi54 : C.info 54 = some ([.sl 9 []], 1, 24)) (hag54 : isAggT C 54 = some false) (hi9 : C.info 9 = some ([.sc (.string ByteArray.empty)], 1, 16)) (hag9 : isAggT C 9 = some false)
    {s : ByteArray} {B S : List (List UInt8)} (hb : s.data.toList = joinSp B) (hF : Lib.fields (joinSp B) = B) (hp : B.isPerm S = true) (hS : upBs S = true) (hsz : (joinSp B).length < 4294967281) (ha : asciiL (joinSp B) = true) (hne : B ≠ []) (hl : B.length * 16 ≤ 140737488351232) :
    ContractL C Tryz.prog 68 [.sc (.string s)] (.sl 9 (strsA S)) := by
  intro vals w Gin hw hGin hargs
  have hv := args_sc (xs := [.string s]) hargs
  subst hv
  have hf : Lib.fields s.data.toList = B := by rw [hb, hF]
  have hsl : S.length = B.length := (List.isPerm_iff.1 hp).length_eq.symm
  have hc := lang68 s (by rw [Lib.size_eq, hb]; exact hsz) (by rw [hb]; exact ascii_at ha) (by rw [hf]; exact hl) (by rw [hf]; exact hne) w (hlay w hw).2
  rw [hf, sort_eq hp hS] at hc
  refine callsTo' Tryz.func68 (by kernel_rfl) (by kernel_rfl) hc fun e w' he => ?_
  obtain ⟨v, rfl, hrow, hbel⟩ := he
  refine ⟨_, rfl, fun _ => False, hbel, fun _ h => h.elim, retRow hres hflat hrt hi54 hag54 ?_⟩
  have hel : ∀ i j : Nat, j < 1 → elCell C 9 ((strsA S).getD i .undef) j = (strsA S).getD i .undef := fun i j _ => by
    unfold elCell
    rw [hag9]
  have hget : ∀ i, i < S.length → (strsA S).getD i .undef = .sc (vS (S.getD i [])) := fun i hi => by
    simp [strsA, List.getD_eq_getElem?_getD, hi, vS]
  have hll : (strsA S).length = S.length := by simp [strsA]
  refine ⟨9, strsA S, _, 1, 16, S.map vS, rfl, hi9, by rw [hll, hsl]; exact rowOf.of hrow, fun i j hi' hj _ => ?_, fun i j hi' hj => ?_⟩
  · rw [hel i j hj, hget i (by omega)]
    rfl
  · have hj0 : j = 0 := by omega
    subst hj0
    have hi2 : i < S.length := by omega
    refine ⟨vS (S.getD i []), ?_, ?_⟩
    · simp [List.getD_eq_getElem?_getD, hi2]
    · rw [hel i 0 hj, hget i hi2]
      exact Frz.sc _ rfl
set_option maxRecDepth 100000 in
theorem lang_con (hlay : ∀ w, C.lay w → layF w) (hres : C.res 68 = [54]) (hflat : C.flat 54 = false) (hrt : C.roF 68 = false) (hi54 : C.info 54 = some ([.sl 9 []], 1, 24)) (hag54 : isAggT C 54 = some false) (hi9 : C.info 9 = some ([.sc (.string ByteArray.empty)], 1, 16)) (hag9 : isAggT C 9 = some false)
    {args : List AV} {r : AV} (h : extLang args = some r) : ContractL C Tryz.prog 68 args r := by
  unfold extLang at h
  split at h
  case h_2 => simp at h
  rename_i s
  split at h
  · rename_i hb
    simp only [Option.some.injEq] at h
    subst h
    exact lang_one hlay hres hflat hrt hi54 hag54 hi9 hag9 (eqBs_eq hb) (by kernel_rfl) (by kernel_rfl) (by kernel_rfl) (of_decide_eq_true (by kernel_rfl)) (by kernel_rfl) (by simp [asnWordsB]) (of_decide_eq_true (by kernel_rfl))
  split at h
  · rename_i hb
    simp only [Option.some.injEq] at h
    subst h
    exact lang_one hlay hres hflat hrt hi54 hag54 hi9 hag9 (eqBs_eq hb) (by kernel_rfl) (by kernel_rfl) (by kernel_rfl) (of_decide_eq_true (by kernel_rfl)) (by kernel_rfl) (by simp [ttcnWordsB]) (of_decide_eq_true (by kernel_rfl))
  split at h
  · rename_i hb
    simp only [Option.some.injEq] at h
    subst h
    exact lang_one hlay hres hflat hrt hi54 hag54 hi9 hag9 (eqBs_eq hb) (by kernel_rfl) (by kernel_rfl) (by kernel_rfl) (of_decide_eq_true (by kernel_rfl)) (by kernel_rfl) (by simp [asnSignsB]) (of_decide_eq_true (by kernel_rfl))
  split at h
  · rename_i hb
    simp only [Option.some.injEq] at h
    subst h
    exact lang_one hlay hres hflat hrt hi54 hag54 hi9 hag9 (eqBs_eq hb) (by kernel_rfl) (by kernel_rfl) (by kernel_rfl) (of_decide_eq_true (by kernel_rfl)) (by kernel_rfl) (by simp [ttcnSignsB]) (of_decide_eq_true (by kernel_rfl))
  · simp at h
end
end Go.Proofs.YtdhbhedfbdckaaaGreatDoor

/- The table of chapter 01 is sound. -/
namespace Go.Proofs.YtdhbhedfbdckaaaGreatDoor
open Go.Dam Go.RowKit
set_option maxRecDepth 100000 in
theorem tab_ext : ∀ f g, tabExt f = some g → ∀ args r, g args = some r → ContractL tab Tryz.prog f args r := by
  intro f g h args r hr
  unfold tabExt at h
  split at h
  · cases h; exact count_con (C := tab) rfl rfl rfl hr
  · cases h; exact last_con (C := tab) rfl rfl rfl hr
  · cases h; exact ixb_con (C := tab) rfl rfl rfl hr
  · cases h; exact index_con (C := tab) (fun w h => h.1) rfl rfl rfl hr
  · cases h; exact atoi_con (C := tab) (fun w h => h.1) rfl rfl rfl rfl hr
  · cases h; exact ixany_con (C := tab) rfl rfl rfl hr
  · cases h; exact trim_con (C := tab) rfl rfl rfl hr
  · cases h; exact lang_con (C := tab) (fun w h => h) rfl rfl rfl rfl rfl rfl rfl hr
  · cases h
theorem var_below {w w' : World} {name : String} {cs : Array Value} (h : w.var? Tryz.prog name = some cs) (hb : Below w.heap.size w w') : w'.var? Tryz.prog name = some cs := by
  unfold World.var? at h ⊢
  rw [Option.bind_eq_some_iff] at h ⊢
  obtain ⟨g, hg, h⟩ := h
  refine ⟨g, hg, ?_⟩
  cases hh : w.heap[g]? with
  | none => rw [hh] at h; cases h
  | some o =>
    have hlt : g < w.heap.size := (Array.getElem?_eq_some_iff.1 hh).1
    rw [hb.block g hlt, hh]
    rw [hh] at h
    exact h
theorem lay_below (w w' : World) (h : layF w) (hb : Below w.heap.size w w') : layF w' := by
  obtain ⟨⟨⟨m, hm⟩, ⟨t, p, h1⟩, ⟨t', p', h2⟩⟩, hT⟩ := h
  have hc : ∀ {a : Addr} {v : Value}, w.cell? a = some v → w'.cell? a = some v := fun {a v} ha => (hb.cell (World.block_lt_of_cell? _ _ ha)).trans ha
  exact ⟨⟨⟨m, hc hm⟩, ⟨t, p, var_below h1 hb⟩, ⟨t', p', var_below h2 hb⟩⟩, fun c hcc => hc (hT c hcc)⟩
set_option maxRecDepth 100000 in
theorem tab_ok2 : Tab.Ok2 tab Tryz.prog := ⟨Tryz.checked.mixed, fun f fn h _ => res_ok f fn h, fun f fn h _ => plans_ok f fn h, fun _ _ _ _ _ _ hcp => (by cases hcp), tab_ext, lay_below⟩
set_option maxRecDepth 100000 in
theorem tab_run (k : Nat) (w : World) (h : layF w) : CallOk tab Tryz.prog w (run tab k) := run_ok tab_ok tab_ok2 tab_eq k w h
end Go.Proofs.YtdhbhedfbdckaaaGreatDoor
