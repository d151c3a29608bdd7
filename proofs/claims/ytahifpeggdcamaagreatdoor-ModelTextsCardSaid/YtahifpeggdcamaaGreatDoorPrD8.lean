/- A part of an interpreter of the model's code that is proved sound, and of laws told by it: DamExt3, DamExt4. -/
import Derived.Test.YtahifpeggdcamaaGreatDoorPrD3
import Derived.Test.YtahifpeggdcamaaGreatDoorPrD1
import Derived.Test.YtahifpeggdcamaaGreatDoorPrD7
import Derived.Lib.DecodeN
import Derived.Lib.AtoiErrMem
set_option linter.unusedVariables false
set_option linter.unusedSimpArgs false
/- More library functions that are told by hand: what the machine does. -/
namespace Go.Dam
open Go.RowKit
set_option linter.unusedVariables false
set_option linter.unusedSimpArgs false
section
variable {C : Tab} {P : Program} {w w' : World}
/-- A result that stands frozen. -/
theorem ret_froz {f t : Nat} (hres : C.res f = [t]) (hm : retMd C (C.roF f) (C.res f) = .uni .ro) (hag : isAggT C t = some false) {G : Nat → Prop} {v : Value} {a : AV} {base : Nat} (h : Frz C G w v a) : RetOk C (C.roF f) G base w (C.res f) v a := by
  refine ⟨?_, fun c j x u k hx => ?_, fun j t' ht => ?_⟩
  · rw [hm]; exact .inl h
  · rw [hm] at hx
    simp only [homeS] at hx
    split at hx
    · simp only [Md.home1] at hx
      split at hx <;> simp [own?] at hx
    · simp at hx
  · rw [hres] at ht
    have : j = 0 ∧ t' = t := by
      cases j with
      | zero => simpa using ht.symm
      | succ j => simp at ht
    obtain ⟨rfl, rfl⟩ := this
    intro h; rw [hag] at h; simp at h
theorem frz_ref {S : Nat → Prop} {v : Value} {l : List AV} (h : Frz C S w v (.ref l)) : ∃ (b o : Nat) (cv : Nat → Value), v = .pointer (some ⟨b, o, none⟩) ∧ (0 < l.length → S b) ∧ (∀ j, j < l.length → w.cell? ⟨b, o + j, none⟩ = some (cv j)) ∧ ∀ j, j < l.length → Frz C S w (cv j) (l.getD j .undef) := by
  cases h with
  | ref l b o cv hS hc hr => exact ⟨b, o, cv, rfl, hS, hc, hr⟩
theorem isI64_ints : ∀ {l : List AV}, l.all isI64 = true → l = (decInts l).map fun n => AV.sc (.int .i64 n)
  | [], _ => rfl
  | a :: l, h => by
    simp only [List.all_cons, Bool.and_eq_true] at h
    have ih := isI64_ints h.2
    have h1 := h.1
    unfold isI64 at h1
    split at h1
    · show _ :: l = _ :: (decInts l).map _
      rw [← ih]
    · simp at h1
end
theorem get_bang (s : ByteArray) (i : Nat) (h : i < s.size) : s.data.toList[i]? = some (s.get! i) := by
  have h' : i < s.data.size := h
  simp only [ByteArray.get!, Array.getElem?_toList]
  rw [Array.getElem?_eq_getElem h', getElem!_pos s.data i h']
theorem big_rune (s : ByteArray) (i : Nat) (h : 128 ≤ (s.get! i).toNat) : 128 ≤ (Utf8.decode s i).1 := by
  rw [Lib.decode_at]
  unfold Lib.decodeN
  repeat' split
  all_goals first | omega | (simp; done) | (simp only []; omega)
theorem small_rune (s : ByteArray) (i : Nat) (h : (s.get! i).toNat < 128) : Utf8.decode s i = ((s.get! i).toNat, 1) := by
  rw [Lib.decode_at]
  unfold Lib.decodeN
  rw [if_pos h]
def noDigR (r : Nat) : Bool := decide (r < 48) || decide (57 < r)
theorem noDig_iff (b : UInt8) : noDig b = noDigR b.toNat := by
  have e : ∀ a b, Nat.ble a b = decide (a ≤ b) := fun a b => by rw [Bool.eq_iff_iff]; simp
  unfold noDig noDigR
  rw [e, e]
  rcases Nat.lt_or_ge b.toNat 48 with h1 | h1 <;> rcases Nat.lt_or_ge 57 b.toNat with h2 | h2
  · omega
  · simp [h1]
  · simp [h2]
  · simp [h1, h2]
theorem idx_from (s : ByteArray) : ∀ (f pos : Nat), s.size ≤ pos + f → Lib.idxFuncFrom noDigR true s f pos = ixOf (((s.data.toList.drop pos).findIdx? noDig).map (pos + ·))
  | 0, pos, h => by
    have : s.data.toList.drop pos = [] := List.drop_eq_nil_of_le (by show s.data.size ≤ pos; have : s.data.size = s.size := rfl; omega)
    rw [this]; rfl
  | f + 1, pos, h => by
    unfold Lib.idxFuncFrom
    by_cases hp : pos < s.size
    · have hl : pos < s.data.toList.length := hp
      have hb := get_bang s pos hp
      rw [List.getElem?_eq_getElem hl] at hb
      rw [if_pos hp, List.drop_eq_getElem_cons hl, List.findIdx?_cons, Option.some.inj hb, noDig_iff]
      by_cases h8 : (s.get! pos).toNat < 128
      · rw [small_rune s pos h8]
        cases hd : noDigR (s.get! pos).toNat with
        | true => simp [ixOf]
        | false =>
          simp only [Bool.false_eq_true, if_false]
          rw [idx_from s f (pos + 1) (by omega), Option.map_map]
          congr 2
          funext j
          simp only [Function.comp]; omega
      · have h1 := big_rune s pos (by omega)
        have e1 : noDigR (Utf8.decode s pos).1 = true := by unfold noDigR; simp; omega
        have e2 : noDigR (s.get! pos).toNat = true := by unfold noDigR; simp; omega
        rw [e1, e2]; simp [ixOf]
    · have : s.data.toList.drop pos = [] := List.drop_eq_nil_of_le (by show s.data.size ≤ pos; have : s.data.size = s.size := rfl; omega)
      rw [if_neg hp, this]; rfl
theorem idx_func (s : ByteArray) : Lib.idxFunc noDigR true s = ixOf (s.data.toList.findIdx? noDig) := by
  unfold Lib.idxFunc
  rw [idx_from s s.size 0 (by omega), List.drop_zero]
  congr 1
  cases s.data.toList.findIdx? noDig <;> simp
end Go.Dam
namespace Go.Proofs.YtahifpeggdcamaaGreatDoor
open Go.Dam Go.RowKit
set_option linter.unusedVariables false
section
variable {C : Tab}
set_option maxRecDepth 100000 in
theorem values_contract (hres : C.res 29 = [70]) (hrt : C.roF 29 = true) (hsh : C.share 29 = [true]) (hns : noShare (C.share 59) = true) (hag : isAggT C 70 = some false) {args : List AV} {r : AV} (h : extValues 59 3 args = some r) : Contract C Tryz.prog 29 args r := by
  unfold extValues at h
  split at h
  case h_2 => simp at h
  rename_i T' l
  split at h
  case isFalse => simp at h
  rename_i hc
  simp only [Bool.and_eq_true, Nat.ble_eq] at hc
  obtain ⟨hT, hlen, hall⟩ := hc
  obtain rfl := Nat.eq_of_beq_eq_true hT
  simp only [Option.some.injEq] at h
  subst h
  intro vals w Gin hGin ⟨hl, hargs⟩
  obtain ⟨v, hv⟩ : ∃ v, vals.toList = [v] := List.length_eq_one_iff.1 (by simpa using hl)
  have h0 := frzV_sl ((hargs 0 (by simp)).2 (by rw [hsh]; rfl))
  rw [hv] at h0
  simp only [List.getD_cons_zero] at h0
  have hva : vals = #[v] := by cases vals; simp only at hv; rw [hv]
  subst hva
  obtain ⟨A, cap, s', b', z', ad, cv, hvv, hi', h1, h2, hA, hcell, hp, hr⟩ := h0.slice
  subst hvv
  refine calls_to Tryz.func29 (by kernel_rfl) (by kernel_rfl) (values29 A l.length cap w) fun e w' he => ?_
  obtain ⟨rfl, rfl⟩ := he
  have hm : retMd C (C.roF 29) (C.res 29) = .uni .ro := by simp [hres, retMd, resMd, hrt]
  refine ⟨_, rfl, fun b => Gin b ∨ b = w.heap.size, (Below.refl _ w).alloc (Nat.le_refl _) _, fun b hb => ?_, ret_froz hres hm hag ?_⟩
  · rcases hb with hb | rfl
    · have := hGin b hb
      exact ⟨by simp; omega, fun _ => hb⟩
    · exact ⟨by simp, fun hlt => absurd hlt (Nat.lt_irrefl _)⟩
  · refine .fn 59 _ _ hns (by simp) fun j hj => ?_
    obtain rfl : j = 0 := by simpa using hj
    refine .ref _ _ 0 (fun _ => .slice A l.length cap) (fun _ => .inr rfl) (fun j hj => ?_) fun j hj => ?_
    · obtain rfl : j = 0 := by simpa using hj
      exact (Boxed.new w 25 (.slice A l.length cap)).cell
    · obtain rfl : j = 0 := by simpa using hj
      exact h0.mono (fun b hb => .inl hb) fun b hb => Below.heap_alloc w _ b (hGin b hb)
set_option maxRecDepth 100000 in
theorem sorted_contract (hres : C.res 28 = [25]) (hflat : C.flat 25 = false) (hrt : C.roF 28 = false) (hag : isAggT C 25 = some false) (hag3 : isAggT C 3 = some false) {s2 b2 : Nat} {z0 : List AV} (hi25 : C.info 25 = some ([.sl 3 z0], s2, b2)) {n0 : Int} {b : Nat} (hi : C.info 3 = some ([.sc (.int .i64 n0)], 1, b))
    {args : List AV} {r : AV} (h : extSorted 59 3 args = some r) : Contract C Tryz.prog 28 args r := by
  unfold extSorted at h
  split at h
  case h_2 => simp at h
  rename_i g' T' l
  split at h
  case isFalse => simp at h
  rename_i hc
  simp only [Bool.and_eq_true, Nat.ble_eq] at hc
  obtain ⟨hg, hT, hlen, hall⟩ := hc
  obtain rfl := Nat.eq_of_beq_eq_true hg
  obtain rfl := Nat.eq_of_beq_eq_true hT
  simp only [Option.some.injEq] at h
  subst h
  have hz := isI64_ints hall
  obtain ⟨zs, hzs⟩ : ∃ zs, zs = decInts l := ⟨_, rfl⟩
  rw [← hzs] at hz ⊢
  have hzl : l.length = zs.length := by rw [hz]; simp
  intro vals w Gin hGin ⟨hl, hargs⟩
  obtain ⟨v, hv⟩ : ∃ v, vals.toList = [v] := List.length_eq_one_iff.1 (by simpa using hl)
  have h0 := (hargs 0 (by simp)).1
  rw [hv] at h0
  simp only [List.getD_cons_zero] at h0
  have hva : vals = #[v] := by cases vals; simp only at hv; rw [hv]
  subst hva
  have h1 : Frz C (fun b => b < w.heap.size) w v (.fn 59 [.ref [.sl 3 l]]) := by
    rcases h0 with ⟨_, _, _, e, _⟩ | h0
    · simp at e
    · exact h0
  obtain ⟨vs, hvs, hvl, hcap⟩ : ∃ vs : Array Value, v = .func (.func 59) #[] vs ∧ vs.size = 1 ∧ Frz C (fun b => b < w.heap.size) w (vs.getD 0 undef) (.ref [.sl 3 l]) := by
    cases h1 with
    | fn g caps vs hs hl hr => exact ⟨vs, rfl, hl, hr 0 (by simp)⟩
  obtain ⟨Bs, ob, cv, hp, hS, hcs, hrs⟩ := frz_ref hcap
  have hsv := hrs 0 (by simp)
  have hBl := hS (by simp)
  have hcell := hcs 0 (by simp)
  rw [Nat.add_zero] at hcell
  obtain ⟨A, cap, s', b', z', ad, cv', hvv, hi', q1, q2, hA, hcl, hpl, hrl⟩ := Frz.slice (show Frz C (fun b => b < w.heap.size) w (cv 0) (.sl 3 l) from hsv)
  rw [hi] at hi'; cases hi'
  have hvs1 : vs = #[.pointer (some ⟨Bs, ob, none⟩)] := by
    apply Array.ext (by simp [hvl])
    intro i h1 h2
    obtain rfl : i = 0 := by omega
    have : vs[0] = vs.getD 0 undef := by simp [Array.getD, hvl]
    rw [this, hp]; rfl
  subst hvs1
  subst hvs
  have hI : IntsAt w.heap.size w (cv 0) zs := by
    refine ⟨A, cap, by rw [hvv, hzl], fun hpos => ?_⟩
    obtain ⟨rfl, hblk, hsp⟩ := hA (by omega)
    obtain ⟨blk, off, spt⟩ := ad
    subst hsp
    refine ⟨blk, off, rfl, hblk, fun j hj => ?_⟩
    have e1 := hcl j 0 (by omega) (by omega)
    have e2 := hrl j 0 (by omega) (by omega)
    have e3 : elCell C 3 (l.getD j .undef) 0 = .sc (.int .i64 zs[j]) := by rw [hz]; simp [elCell, hag3, List.getD_eq_getElem?_getD, hj]
    rw [e3] at e2
    rw [frz_scv e2, Addr.add_none rfl] at e1
    simpa using e1
  refine calls_to Tryz.func28 (by kernel_rfl) (by kernel_rfl) (sorted28c Bs ob (cv 0) zs (by omega) w hBl hcell hI) fun e w' he => ?_
  obtain ⟨v', rfl, ho, hb⟩ := he
  refine ⟨_, rfl, fun _ => False, hb, fun _ h => h.elim, ret_row hres hflat hrt hi25 hag ?_⟩
  have hsl : (sortI zs).length = zs.length := by unfold sortI; simp
  refine ⟨3, _, _, 1, b, _, rfl, hi, (by rw [List.length_map, hsl]; exact ho), fun i j hi' hj _ => ?_, fun i j hi' hj => ?_⟩
  · obtain rfl : j = 0 := by omega
    simp only [List.length_map] at hi'
    simp [elCell, hag3, List.getD_eq_getElem?_getD, hi', isSc]
  · obtain rfl : j = 0 := by omega
    simp only [List.length_map] at hi'
    refine ⟨.int .i64 (sortI zs)[i], ?_, ?_⟩
    · show ((sortI zs).map vI)[i * 1 + 0]? = _
      simp [hi', vI]
    · have : elCell C 3 (((sortI zs).map fun n => AV.sc (.int .i64 n)).getD i .undef) 0 = .sc (.int .i64 (sortI zs)[i]) := by simp [elCell, hag3, List.getD_eq_getElem?_getD, hi']
      rw [this]
      exact .sc _ rfl
end
end Go.Proofs.YtahifpeggdcamaaGreatDoor

/- strconv.Atoi and searches in strings: what the machine does. -/
namespace Go.Proofs.YtahifpeggdcamaaGreatDoor
open Go.Dam Go.RowKit
set_option linter.unusedVariables false
section
variable {C : Tab}
set_option maxRecDepth 100000 in
theorem pred69 (w : World) : PredAt Tryz.prog 69 #[] encR noDigR w := fun W x _ => by
  show Calls Tryz.prog 69 #[.int .i32 (x : Int)] W _
  go_enter Tryz.func69, Tryz.ntmps69
  go_wp2
  all_goals
    go_ret
    refine ⟨?_, 0, rfl⟩
    refine congrArg Ending.returned ?_
    show Value.bool _ = Value.bool _
    refine congrArg Value.bool ?_
    unfold noDigR
    rw [Bool.eq_iff_iff]
    simp only [Bool.or_eq_true, decide_eq_true_eq]
    first | omega | exact ⟨fun _ => by omega, fun _ => trivial⟩
theorem frzV_fn0 {S : Nat → Prop} {w : World} {v : Value} {g : Nat} (h : FrzV C S w v (.fn g [])) : v = .func (.func g) #[] #[] := by
  rcases h with ⟨_, _, _, e, _⟩ | h
  · simp at e
  · cases h with
    | fn g caps vs hs hl hr =>
      have : vs = #[] := Array.eq_empty_of_size_eq_zero (by simpa using hl)
      rw [this]
set_option maxRecDepth 100000 in
theorem idxF_contract (hres : C.res 120 = [3]) (hflat : C.flat 3 = true) (hag : isAggT C 3 = some false) {args : List AV} {r : AV} (h : extIdxF 69 args = some r) : Contract C Tryz.prog 120 args r := by
  unfold extIdxF at h
  split at h
  case h_2 => simp at h
  rename_i s g'
  split at h
  case isFalse => simp at h
  rename_i hg
  obtain rfl := Nat.eq_of_beq_eq_true hg
  simp only [Option.some.injEq] at h
  subst h
  intro vals w Gin hGin ⟨hl, hargs⟩
  obtain ⟨v, u, t, hv⟩ : ∃ v u t, vals.toList = [v, u, t] := by
    clear hargs
    match vals.toList, hl with
    | [v, u, t], _ => exact ⟨v, u, t, rfl⟩
  have h0 := frzV_sc (hargs 0 (by simp)).1
  have h1 := frzV_fn0 (hargs 1 (by simp)).1
  have h2 := frzV_sc (hargs 2 (by simp)).1
  rw [hv] at h0 h1 h2
  simp only [List.getD_cons_zero, List.getD_cons_succ] at h0 h1 h2
  subst h0 h1 h2
  have hva : vals = #[.string s, .func (.func 69) #[] #[], .bool true] := by cases vals; simp_all
  subst hva
  have := Any.strings_indexFunc Tryz.idxF 69 #[] (enters_of Tryz.func69 (by kernel_rfl) rfl) noDigR true s w (pred69 w)
  refine calls_to Tryz.func120 (by kernel_rfl) (by kernel_rfl) this fun e w' he => ?_
  obtain ⟨rfl, hb⟩ := he
  refine ⟨_, rfl, fun _ => False, hb, fun _ h => h.elim, ?_⟩
  rw [idx_func]
  exact ret_scalar hres hflat hag rfl
set_option maxRecDepth 100000 in
theorem idxB_contract (hres : C.res 113 = [3]) (hflat : C.flat 3 = true) (hag : isAggT C 3 = some false) {args : List AV} {r : AV} (h : extIdxB args = some r) : Contract C Tryz.prog 113 args r := by
  unfold extIdxB at h
  split at h
  case h_2 => simp at h
  rename_i s c
  simp only [Option.some.injEq] at h
  subst h
  intro vals w Gin hGin ⟨hl, hargs⟩
  obtain ⟨v, u, hv⟩ : ∃ v u, vals.toList = [v, u] := by
    clear hargs
    match vals.toList, hl with
    | [v, u], _ => exact ⟨v, u, rfl⟩
  have h0 := frzV_sc (hargs 0 (by simp)).1
  have h1 := frzV_sc (hargs 1 (by simp)).1
  rw [hv] at h0 h1
  simp only [List.getD_cons_zero, List.getD_cons_succ] at h0 h1
  subst h0 h1
  have hva : vals = #[.string s, .int .u8 c] := by cases vals; simp_all
  subst hva
  refine calls_to Tryz.func113 (by kernel_rfl) (by kernel_rfl) (Any.stringslite_IndexByte Tryz.idxB s c w) fun e w' he => ?_
  obtain ⟨rfl, rfl⟩ := he
  exact ⟨_, rfl, fun _ => False, Below.refl _ _, fun _ h => h.elim, ret_scalar hres hflat hag rfl⟩
set_option maxRecDepth 100000 in
theorem count_contract (hres : C.res 118 = [3]) (hflat : C.flat 3 = true) (hag : isAggT C 3 = some false) {args : List AV} {r : AV} (h : extCount1 args = some r) : Contract C Tryz.prog 118 args r := by
  unfold extCount1 at h
  split at h
  case h_2 => simp at h
  rename_i s c
  simp only [Option.some.injEq] at h
  subst h
  intro vals w Gin hGin ⟨hl, hargs⟩
  obtain ⟨v, u, hv⟩ : ∃ v u, vals.toList = [v, u] := by
    clear hargs
    match vals.toList, hl with
    | [v, u], _ => exact ⟨v, u, rfl⟩
  have h0 := frzV_sc (hargs 0 (by simp)).1
  have h1 := frzV_sc (hargs 1 (by simp)).1
  rw [hv] at h0 h1
  simp only [List.getD_cons_zero, List.getD_cons_succ] at h0 h1
  subst h0 h1
  have hva : vals = #[.string s, .string ⟨⟨[c]⟩⟩] := by cases vals; simp_all
  subst hva
  refine calls_to Tryz.func118 (by kernel_rfl) (by kernel_rfl) (Any.strings_Count_one Tryz.cntA s c w) fun e w' he => ?_
  obtain ⟨rfl, rfl⟩ := he
  exact ⟨_, rfl, fun _ => False, Below.refl _ _, fun _ h => h.elim, ret_scalar hres hflat hag rfl⟩
set_option maxRecDepth 100000 in
theorem atoi_contract (hres : C.res 70 = [3, 134]) (hm : retMd C (C.roF 70) (C.res 70) = .tup [.uni .ro, .uni .ro]) (hag : isAggT C 3 = some false) (hag4 : isAggT C 134 = some false) {args : List AV} {r : AV} (h : extAtoi args = some r) : Contract C Tryz.prog 70 args r := by
  unfold extAtoi at h
  split at h
  case h_2 => simp at h
  rename_i s
  split at h
  case isFalse => simp at h
  rename_i hs
  split at h
  case h_2 => simp at h
  rename_i n hn
  simp only [Option.some.injEq] at h
  subst h
  have hs' : s.size ≤ 18 := Nat.le_of_ble_eq_true hs
  intro vals w Gin hGin ⟨hl, hargs⟩
  obtain ⟨v, hv⟩ : ∃ v, vals.toList = [v] := List.length_eq_one_iff.1 (by simpa using hl)
  have h0 := frzV_sc (hargs 0 (by simp)).1
  rw [hv] at h0
  simp only [List.getD_cons_zero] at h0
  subst h0
  have hva : vals = #[.string s] := by cases vals; simp_all
  subst hva
  refine calls_to Tryz.func70 (by kernel_rfl) (by kernel_rfl) (Any.strconv_Atoi Tryz.atoiA s n hs' hn w) fun e w' he => ?_
  obtain ⟨rfl, t, rfl⟩ := he
  refine ⟨_, rfl, fun _ => False, Lib.bytesWorld_below w _ t, fun _ h => h.elim, ?_, fun c j x u k hx => ?_, fun j t' ht => ?_⟩
  · rw [hm]
    refine ⟨#[.int .i64 n, .nilIface], _, rfl, rfl, rfl, fun c hc => ?_⟩
    have : c = 0 ∨ c = 1 := by simp at hc; omega
    rcases this with rfl | rfl
    · exact .inl (Frz.sc _ rfl)
    · exact .inl (Frz.sc _ rfl)
  · rw [hm] at hx
    simp only [homeS] at hx
    obtain ⟨h1, _⟩ := own?_some hx
    exfalso
    have : ([Md.uni Own.ro, Md.uni Own.ro].getD c (.uni .ro)) = .uni .ro := by
      match c with
      | 0 => rfl
      | 1 => rfl
      | _ + 2 => rfl
    rw [this] at h1
    simp only [Md.home1] at h1
    split at h1 <;> cases h1
  · rw [hres] at ht
    intro h
    have : t' = 3 ∨ t' = 134 := by
      match j with
      | 0 => left; simpa using ht.symm
      | 1 => right; simpa using ht.symm
      | _ + 2 => simp at ht
    rcases this with rfl | rfl
    · rw [hag] at h; simp at h
    · rw [hag4] at h; simp at h
end
end Go.Proofs.YtahifpeggdcamaaGreatDoor
