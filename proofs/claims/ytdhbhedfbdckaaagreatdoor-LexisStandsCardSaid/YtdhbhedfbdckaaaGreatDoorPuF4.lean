/- A part of an interpreter of the model's code that is proved sound, and of laws told by it: DamX21, DamX22, DamTb2. -/
import Derived.Test.YtdhbhedfbdckaaaGreatDoorPuF3
import Derived.Test.YtdhbhedfbdckaaaGreatDoorPuF2
import Derived.Test.YtdhbhedfbdckaaaGreatDoorPuD5
import Derived.Test.YtdhbhedfbdckaaaGreatDoorChecked
import Derived.WalkKit
import Derived.WalkSpells
import Derived.LoopTactic
import Derived.Test.YtdhbhedfbdckaaaGreatDoorPuC6
import Derived.Test.YtdhbhedfbdckaaaGreatDoorPuC7
set_option linter.unusedVariables false
set_option linter.unusedSimpArgs false
/- JoinedText: no language, no tokens, too many. -/
namespace Go.Proofs.YtdhbhedfbdckaaaGreatDoor
open Go.Dam Go.RowKit
set_option linter.unusedVariables false
set_option linter.unusedSimpArgs false
set_option maxHeartbeats 40000000 in
set_option maxRecDepth 100000 in
theorem jt_nil0 (A : Option Addr) (c : Nat) (w : World) :
    Calls Tryz.prog 22 #[.int .i64 0, .slice A 0 c] w fun e w' => e = .returned (.tuple #[.string (sb []), .int .i64 0]) ∧ Below w.heap.size w w' := by
  go_enter Tryz.func22, Tryz.ntmps22
  go_wp2_with fail
  go_loopw [23] (fun i wr => i = .int .i64 ((0 : Nat) : Int) ∧ Hid (Below w.heap.size w wr)) (fun i _ => 0)
  case atStart => exact ⟨rfl, hid (Below.refl _ _)⟩
  case round =>
    obtain ⟨rfl, HB⟩ := hrel
    rename World => wr2
    have HB0 := hid (Or.inl ⟨HB.out.size, .slice none 0 0, heap_alloc_new wr2 _, World.ownsRow_nil _ _ _ _, by simp [Value.ownBlock]⟩ : Lib.IsBuilder 83 5 w.heap.size wr2.heap.size (Lib.byteCells []) (wr2.alloc (.cells #[.pointer none, .slice none 0 0] 83)))
    have HBA := hid (HB.out.alloc HB.out.size (.cells #[.pointer none, .slice none 0 0] 83))
    go_wp2_with fail
    go_loopw [36] (fun i wr3 => i = .int .i64 ((0 : Nat) : Int) ∧ Hid (Lib.IsBuilder 83 5 w.heap.size wr2.heap.size (Lib.byteCells []) wr3) ∧ Hid (Below w.heap.size w wr3)) (fun i _ => 0)
    case atStart => exact ⟨rfl, HB0, HBA⟩
    case round =>
      obtain ⟨rfl, HBB, HBW⟩ := hrel
      go_wp2_with fail
      refine (Tryz.bd_len w.heap.size wr2.heap.size _ wr HBB.out).mono ?_
      rintro e w2 ⟨rfl, rfl⟩
      go_wp2_with fail
      refine (Tryz.bd_all w.heap.size wr2.heap.size [] _ HBB.out HBW.out.size).mono ?_
      rintro e w3 ⟨rfl, hb3⟩
      have HW3 := hid (HBW.out.trans hb3)
      clear hb3
      go_wp2
      go_ret2
      exact ⟨rfl, HW3.out⟩
set_option maxRecDepth 100000 in
theorem jt_long0 (A : Option Addr) (n c : Nat) (h : 1500 < n) (w : World) :
    Calls Tryz.prog 22 #[.int .i64 0, .slice A n c] w fun e w' => e = .returned (.tuple #[.string (sb []), .int .i64 2]) ∧ Below w.heap.size w w' := by
  go_enter Tryz.func22, Tryz.ntmps22
  go_wp2
  go_ret2
  exact ⟨rfl, Below.refl _ _⟩
set_option maxHeartbeats 40000000 in
set_option maxRecDepth 100000 in
theorem jt_nil1 (A : Option Addr) (c : Nat) (w : World) :
    Calls Tryz.prog 22 #[.int .i64 1, .slice A 0 c] w fun e w' => e = .returned (.tuple #[.string (sb []), .int .i64 0]) ∧ Below w.heap.size w w' := by
  go_enter Tryz.func22, Tryz.ntmps22
  go_wp2_with fail
  go_loopw [23] (fun i wr => i = .int .i64 ((0 : Nat) : Int) ∧ Hid (Below w.heap.size w wr)) (fun i _ => 0)
  case atStart => exact ⟨rfl, hid (Below.refl _ _)⟩
  case round =>
    obtain ⟨rfl, HB⟩ := hrel
    rename World => wr2
    have HB0 := hid (Or.inl ⟨HB.out.size, .slice none 0 0, heap_alloc_new wr2 _, World.ownsRow_nil _ _ _ _, by simp [Value.ownBlock]⟩ : Lib.IsBuilder 83 5 w.heap.size wr2.heap.size (Lib.byteCells []) (wr2.alloc (.cells #[.pointer none, .slice none 0 0] 83)))
    have HBA := hid (HB.out.alloc HB.out.size (.cells #[.pointer none, .slice none 0 0] 83))
    go_wp2_with fail
    go_loopw [36] (fun i wr3 => i = .int .i64 ((0 : Nat) : Int) ∧ Hid (Lib.IsBuilder 83 5 w.heap.size wr2.heap.size (Lib.byteCells []) wr3) ∧ Hid (Below w.heap.size w wr3)) (fun i _ => 0)
    case atStart => exact ⟨rfl, HB0, HBA⟩
    case round =>
      obtain ⟨rfl, HBB, HBW⟩ := hrel
      go_wp2_with fail
      refine (Tryz.bd_len w.heap.size wr2.heap.size _ wr HBB.out).mono ?_
      rintro e w2 ⟨rfl, rfl⟩
      go_wp2_with fail
      refine (Tryz.bd_all w.heap.size wr2.heap.size [] _ HBB.out HBW.out.size).mono ?_
      rintro e w3 ⟨rfl, hb3⟩
      have HW3 := hid (HBW.out.trans hb3)
      clear hb3
      go_wp2
      go_ret2
      exact ⟨rfl, HW3.out⟩
set_option maxRecDepth 100000 in
theorem jt_long1 (A : Option Addr) (n c : Nat) (h : 1500 < n) (w : World) :
    Calls Tryz.prog 22 #[.int .i64 1, .slice A n c] w fun e w' => e = .returned (.tuple #[.string (sb []), .int .i64 2]) ∧ Below w.heap.size w w' := by
  go_enter Tryz.func22, Tryz.ntmps22
  go_wp2
  go_ret2
  exact ⟨rfl, Below.refl _ _⟩
set_option maxRecDepth 100000 in
theorem jt_bad (lang : Int) (h0 : lang ≠ 0) (h1 : lang ≠ 1) (v : Value) (w : World) :
    Calls Tryz.prog 22 #[.int .i64 lang, v] w fun e w' => e = .returned (.tuple #[.string (sb []), .int .i64 4]) ∧ Below w.heap.size w w' := by
  have z0 : (lang != 0) = true := by simpa using h0
  have z1 : (lang != 1) = true := by simpa using h1
  go_enter Tryz.func22, Tryz.ntmps22
  go_wp2
  all_goals (first | (go_ret2; exact ⟨rfl, Below.refl _ _⟩) | skip)
end Go.Proofs.YtdhbhedfbdckaaaGreatDoor

/- JoinedText: its contract. -/
namespace Go.Proofs.YtdhbhedfbdckaaaGreatDoor
open Go.Dam Go.RowKit
set_option linter.unusedVariables false
set_option linter.unusedSimpArgs false
def tkOf : AV → Option Tk
  | .agg [.sc (.int .i64 k), .sc (.string s), .sc (.int .i64 a)] => some ⟨k, bl s, a⟩
  | _ => none
def tksOf : List AV → Option (List Tk)
  | [] => some []
  | a :: l => match tkOf a, tksOf l with
    | some t, some ts => some (t :: ts)
    | _, _ => none
def smallT (ts : List Tk) : Bool := Nat.ble 1501 ts.length || ts.all fun t => Nat.ble t.s.length 20000
def extJoin : List AV → Option AV
  | [.sc (.int .i64 lang), .sl 35 l] => match tksOf l with
    | some ts => if smallT ts then some (.tup [.sc (.string (sb (joinT lang ts).1)), .sc (.int .i64 (joinT lang ts).2)]) else none
    | none => none
  | _ => none
theorem tkOf_some {a : AV} {t : Tk} (h : tkOf a = some t) : a = tkA t := by
  unfold tkOf at h
  split at h
  · cases h; rfl
  · cases h
theorem tksOf_some : ∀ {l : List AV} {ts : List Tk}, tksOf l = some ts → l = ts.map tkA
  | [], ts, h => by cases h; rfl
  | a :: l, ts, h => by
    unfold tksOf at h
    split at h
    · rename_i t ts' h1 h2
      cases h
      rw [tkOf_some h1, tksOf_some h2]
      rfl
    · cases h
theorem tkOf_tkA (t : Tk) : tkOf (tkA t) = some t := rfl
theorem tksOf_map : ∀ ts : List Tk, tksOf (ts.map tkA) = some ts
  | [] => rfl
  | t :: ts => by
    show (match tkOf (tkA t), tksOf (ts.map tkA) with | some t, some ts => some (t :: ts) | _, _ => none) = _
    rw [tkOf_tkA, tksOf_map ts]
section
variable {C : Tab}
theorem ret2 {f t u : Nat} (hres : C.res f = [t, u]) (hm : retMd C (C.roF f) (C.res f) = .tup [.uni .ro, .uni .ro]) (hag : isAggT C t = some false) (hagu : isAggT C u = some false)
    {n v : Value} (h1 : n.oneCell' = true) (h2 : v.oneCell' = true) {base : Nat} {w : World} : RetOk C (C.roF f) (fun _ => False) base w (C.res f) (.tuple #[n, v]) (.tup [.sc n, .sc v]) := by
  refine ⟨?_, fun c j x u' k hx => ?_, fun j t' ht => ?_⟩
  · rw [hm]
    refine ⟨#[n, v], _, rfl, rfl, rfl, fun c hc => ?_⟩
    have : c = 0 ∨ c = 1 := by simp at hc; omega
    rcases this with rfl | rfl
    · exact .inl (Frz.sc _ h1)
    · exact .inl (Frz.sc _ h2)
  · rw [hm] at hx
    simp only [homeS] at hx
    obtain ⟨h1, _⟩ := own?_some hx
    exfalso
    have : ([Md.uni Own.ro, Md.uni Own.ro].getD c (.uni .ro)) = .uni .ro := by
      match c with
      | 0 => rfl
      | 1 => rfl
      | _ + 2 => rfl
    rw [this] at h1
    simp only [Md.home1] at h1
    split at h1 <;> cases h1
  · rw [hres] at ht
    intro h
    have : t' = t ∨ t' = u := by
      match j with
      | 0 => left; simpa using ht.symm
      | 1 => right; simpa using ht.symm
      | _ + 2 => simp at ht
    rcases this with rfl | rfl
    · rw [hag] at h; simp at h
    · rw [hagu] at h; simp at h
theorem frz_sl {S : Nat → Prop} {w : World} {v : Value} {T : Nat} {l : List AV} (h : FrzV C S w v (.sl T l)) : ∃ (A : Option Addr) (cap s b : Nat) (z : List AV) (ad : Addr) (cv : Nat → Nat → Value), v = .slice A l.length cap ∧ C.info T = some (z, s, b) ∧ l.length ≤ cap ∧ (0 < l.length → A = some ad ∧ S ad.block ∧ ad.spot = none) ∧ ∀ i j, i < l.length → j < s → w.cell? (Addr.add ad (i * s + j)) = some (cv i j) ∧ Frz C S w (cv i j) (elCell C T (l.getD i .undef) j) := by
  rcases h with ⟨_, _, _, e, _⟩ | h
  · simp at e
  · cases h with
    | sl T l A cap s b z ad cv hi hcap hm hA hc hp hr => exact ⟨A, cap, s, b, z, ad, cv, rfl, hi, hcap, hA, fun i j hi hj => ⟨hc i j hi hj, hr i j hi hj⟩⟩
set_option maxRecDepth 100000 in
theorem join_con (hlay : ∀ w, C.lay w → layF w) (hres : C.res 22 = [9, 25]) (hm : retMd C (C.roF 22) (C.res 22) = .tup [.uni .ro, .uni .ro]) (h9 : isAggT C 9 = some false) (h25 : isAggT C 25 = some false) (h35 : isAggT C 35 = some true) {z : List AV} {b : Nat} (hi35 : C.info 35 = some (z, 3, b))
    {args : List AV} {r : AV} (h : extJoin args = some r) : ContractL C Tryz.prog 22 args r := by
  unfold extJoin at h
  split at h
  case h_2 => cases h
  rename_i lang l
  split at h
  case h_2 => cases h
  rename_i ts hts
  split at h
  case isFalse => cases h
  rename_i hsm
  simp only [Option.some.injEq] at h
  subst h
  have hl := tksOf_some hts
  subst hl
  intro vals w Gin hlw hGin hargs
  have hsz : vals.size = 2 := by have := hargs.1; simpa using this
  have v0 : vals.toList.getD 0 undef = .int .i64 lang := frzVsc (hargs.2 0 (by simp)).1
  obtain ⟨A, cap, s, b', z', ad, cv, v1, hi, hcap, hA, hc⟩ := frz_sl (hargs.2 1 (by simp)).1
  have hvals : vals = #[.int .i64 lang, .slice A (ts.map tkA).length cap] := by
    apply Array.ext
    · simpa using hsz
    · intro i h1 h2
      have : i = 0 ∨ i = 1 := by simp at h2; omega
      rcases this with rfl | rfl
      · simpa [List.getD_eq_getElem?_getD, h1] using v0
      · simpa [List.getD_eq_getElem?_getD, h1] using v1
  subst hvals
  rw [hi35] at hi
  have hs3 : s = 3 := by cases hi; rfl
  subst hs3
  rw [List.length_map] at *
  have hsm' : ts.length ≤ 1500 → ∀ t ∈ ts, t.s.length ≤ 20000 := fun h15 t ht => by
    unfold smallT at hsm
    rw [Bool.or_eq_true] at hsm
    rcases hsm with h | h
    · have := Nat.le_of_ble_eq_true h
      omega
    · rw [List.all_eq_true] at h
      exact Nat.le_of_ble_eq_true (h t ht)
  have main : Calls Tryz.prog 22 #[.int .i64 lang, .slice A ts.length cap] w fun e w' => e = .returned (.tuple #[.string (sb (joinT lang ts).1), .int .i64 (joinT lang ts).2]) ∧ Below w.heap.size w w' := by
    by_cases hlang : lang = 0 ∨ lang = 1
    · by_cases h15 : 1500 < ts.length
      · have hj : joinT lang ts = ([], 2) := by
          unfold joinT
          rw [if_pos hlang, if_pos h15]
        rw [hj]
        rcases hlang with rfl | rfl
        · exact jt_long0 A _ cap h15 w
        · exact jt_long1 A _ cap h15 w
      · cases ts with
        | nil =>
          have hj : joinT lang [] = ([], 0) := by
            unfold joinT
            rw [if_pos hlang]
            rfl
          rw [hj]
          rcases hlang with rfl | rfl
          · exact jt_nil0 A cap w
          · exact jt_nil1 A cap w
        | cons t ts' =>
          generalize hT : t :: ts' = ts at *
          have hpos : 0 < ts.length := by rw [← hT]; simp
          obtain ⟨rfl, hS, hsp⟩ := hA hpos
          obtain ⟨bk, o, sp⟩ := ad
          have hsp : sp = none := hsp
          subst hsp
          have cell : ∀ j i, j < ts.length → i < 3 → ∀ v, cellN (tkA (tkD ts j)) i = .sc v → w.cell? ⟨bk, o + j * 3 + i, none⟩ = some v := fun j i hj hi3 v hv => by
            obtain ⟨c1, c2⟩ := hc j i hj hi3
            have he : elCell C 35 ((ts.map tkA).getD j .undef) i = .sc v := by
              unfold elCell
              rw [h35, List.getD_eq_getElem?_getD, List.getElem?_map, List.getElem?_eq_getElem hj]
              show cellN (tkA ts[j]) i = _
              rw [← tkD_get ts j hj]
              exact hv
            rw [he] at c2
            have : cv j i = v := frzVsc (.inr c2)
            rw [this] at c1
            have ha : Addr.add ⟨bk, o, none⟩ (j * 3 + i) = ⟨bk, o + j * 3 + i, none⟩ := by
              unfold Addr.add
              simp [Nat.add_assoc]
            rw [ha] at c1
            exact c1
          have hcell : ∀ j, j < ts.length → w.cell? ⟨bk, o + j * 3, none⟩ = some (.int .i64 (tkD ts j).k) ∧ w.cell? ⟨bk, o + j * 3 + 1, none⟩ = some (.string (sb (tkD ts j).s)) ∧ w.cell? ⟨bk, o + j * 3 + 2, none⟩ = some (.int .i64 (tkD ts j).a) := fun j hj =>
            ⟨cell j 0 hj (by omega) _ rfl, cell j 1 hj (by omega) _ rfl, cell j 2 hj (by omega) _ rfl⟩
          have hbk : bk < w.heap.size := World.block_lt_of_cell? _ _ (hcell 0 hpos).1
          rcases hlang with rfl | rfl
          · exact jt_walk0 bk o cap _ ts rfl w (hlay w hlw) hcell hbk hcap (by omega) (hsm' (by omega))
          · exact jt_walk1 bk o cap _ ts rfl w (hlay w hlw) hcell hbk hcap (by omega) (hsm' (by omega))
    · have hj : joinT lang ts = ([], 4) := by
        unfold joinT
        rw [if_neg hlang]
      rw [hj]
      exact jt_bad lang (fun h => hlang (.inl h)) (fun h => hlang (.inr h)) _ w
  refine callsTo' Tryz.func22 (by kernel_rfl) (by kernel_rfl) main fun e w' he => ?_
  obtain ⟨rfl, hbel⟩ := he
  exact ⟨_, rfl, fun _ => False, hbel, fun _ h => h.elim, ret2 hres hm h9 h25 rfl rfl⟩
end
end Go.Proofs.YtdhbhedfbdckaaaGreatDoor

/- The second table: the laws themselves, over what the first tells. -/
namespace Go.Proofs.YtdhbhedfbdckaaaGreatDoor
open Go.Dam Go.RowKit
set_option linter.unusedVariables false
def KB : Nat := 1000000
noncomputable def ext2 (f : Nat) : Option (List AV → Option AV) := match f with
  | 22 => some extJoin
  | 3 => none
  | 4 => none
  | 5 => none
  | 6 => none
  | 7 => none
  | 8 => none
  | 9 => none
  | 10 => none
  | 11 => none
  | 12 => none
  | f => some (run tab KB f)
noncomputable def tab2 : Tab := tab.two ext2 layF
set_option maxRecDepth 100000 in
theorem ext2_none {f : Nat} (h : ext2 f = none) : tabExt f = none := by
  unfold ext2 at h
  split at h
  all_goals first | rfl | cases h
theorem tab2_ok : Tab.Ok tab2 Tryz.prog := ⟨fun f fn h he => tab_ok.fn f fn h (ext2_none he), tab_ok.ty, tab_ok.info, tab_ok.elem, tab_ok.fld, tab_ok.zsl⟩
theorem tab2_eq : EqOk tab2 Tryz.prog := tab_eq
set_option maxRecDepth 100000 in
theorem tab2_ok2 : Tab.Ok2 tab2 Tryz.prog := ⟨tab_ok2.mixed, fun f fn h he => tab_ok2.res f fn h (ext2_none he), fun f fn h he => tab_ok2.plans f fn h (ext2_none he), fun f fn h he => tab_ok2.copies f fn h (ext2_none he), fun f g h args r hr => by
  have h : ext2 f = some g := h
  unfold ext2 at h
  split at h
  case h_12 =>
    cases h
    exact run_two tab_ok tab_ok2 tab_eq (fun w hw => hw) KB f args r hr
  all_goals first | (cases h; done) | skip
  cases h
  exact join_con (C := tab2) (fun w hw => hw) rfl rfl rfl rfl rfl rfl hr, lay_below⟩
theorem run2 (K f : Nat) (args : List AV) (h : ext2 f = some (run tab KB f)) : run tab2 (K + 1) f args = run tab KB f args := by
  have : tab2.ext f = some (run tab KB f) := h
  conv => lhs; unfold run
  rw [this]
end Go.Proofs.YtdhbhedfbdckaaaGreatDoor
