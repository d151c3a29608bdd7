/- A part of an interpreter of the model's code that is proved sound, and of laws told by it: DamShelf, DamJoin, DamExt. -/
import Derived.Shelf.Strings.Builder1
import Derived.Shelf.Strings.Builder2
import Derived.Shelf.Strconv.Itoa3
import Derived.Shelf.Slices.Clone
import Derived.Test.YtahifpeggdcamaaGreatDoorProg
import Derived.KernelRfl
import Derived.Test.YtahifpeggdcamaaGreatDoorChecked
import Derived.WalkKit
import Derived.WalkSpells
import Derived.LoopTactic
import Derived.Test.YtahifpeggdcamaaGreatDoorPrD1
import Derived.Test.YtahifpeggdcamaaGreatDoorPrC6
set_option linter.unusedVariables false
set_option linter.unusedSimpArgs false
/- The contracts of the library's functions at this program. -/
namespace Go.Proofs
open Go.Shelf
def Tryz.laysW_ren : Go.Shelf.Ren := ⟨fun | 166 => 64 | 240 => 82 | 276 => 111 | n => n, fun | 0 => 0 | 3 => 3 | 4 => 4 | 5 => 5 | 9 => 9 | 20 => 20 | 37 => 129 | 70 => 128 | 72 => 131 | 75 => 134 | 80 => 137 | 164 => 182 | n => n, fun | n => n⟩
theorem Tryz.lays166 : Lays.n166 Tryz.prog Tryz.laysW_ren := {
  mixed := by kernel_rfl,
  f166 := Tryz.func64.trans (congrArg some (by kernel_rfl)),
  f240 := Tryz.func82.trans (congrArg some (by kernel_rfl)),
  f276 := Tryz.func111.trans (congrArg some (by kernel_rfl)),
  t0 := Tryz.underlying0,
  a0 := Tryz.isAgg0,
  z0 := Tryz.sizeOf0,
  v0 := Tryz.zeroValue0,
  t3 := Tryz.underlying3,
  a3 := Tryz.isAgg3,
  z3 := Tryz.sizeOf3,
  v3 := Tryz.zeroValue3,
  t4 := Tryz.underlying4,
  a4 := Tryz.isAgg4,
  z4 := Tryz.sizeOf4,
  v4 := Tryz.zeroValue4,
  t9 := Tryz.underlying9,
  a9 := Tryz.isAgg9,
  z9 := Tryz.sizeOf9,
  v9 := Tryz.zeroValue9,
  t20 := Tryz.underlying20,
  a20 := Tryz.isAgg20,
  z20 := Tryz.sizeOf20,
  v20 := Tryz.zeroValue20,
  t37 := Tryz.underlying129,
  a37 := Tryz.isAgg129,
  z37 := Tryz.sizeOf129,
  v37 := Tryz.zeroValue129,
  t70 := Tryz.underlying128,
  a70 := Tryz.isAgg128,
  z70 := Tryz.sizeOf128,
  v70 := Tryz.zeroValue128,
  t72 := Tryz.underlying131,
  a72 := Tryz.isAgg131,
  z72 := Tryz.sizeOf131,
  v72 := Tryz.zeroValue131,
  t75 := Tryz.underlying134,
  a75 := Tryz.isAgg134,
  z75 := Tryz.sizeOf134,
  v75 := Tryz.zeroValue134,
  t164 := Tryz.underlying182,
  a164 := Tryz.isAgg182,
  z164 := Tryz.sizeOf182,
  v164 := Tryz.zeroValue182 }
def Tryz.lays169_ren : Go.Shelf.Ren := ⟨fun | 169 => 65 | n => n, fun | 70 => 128 | 9 => 9 | 0 => 0 | 72 => 131 | 37 => 129 | 127 => 156 | 3 => 3 | 5 => 5 | n => n, fun | n => n⟩
theorem Tryz.lays169 : Go.Proofs.Lays.n169 Tryz.prog Tryz.lays169_ren := {
  mixed := by kernel_rfl
  f169 := Tryz.func65.trans (congrArg some (by kernel_rfl))
  t0 := Tryz.underlying0
  a0 := Tryz.isAgg0
  z0 := Tryz.sizeOf0
  v0 := Tryz.zeroValue0
  t3 := Tryz.underlying3
  a3 := Tryz.isAgg3
  z3 := Tryz.sizeOf3
  v3 := Tryz.zeroValue3
  t9 := Tryz.underlying9
  a9 := Tryz.isAgg9
  z9 := Tryz.sizeOf9
  v9 := Tryz.zeroValue9
  t37 := Tryz.underlying129
  a37 := Tryz.isAgg129
  z37 := Tryz.sizeOf129
  v37 := Tryz.zeroValue129
  t70 := Tryz.underlying128
  a70 := Tryz.isAgg128
  z70 := Tryz.sizeOf128
  v70 := Tryz.zeroValue128
  t72 := Tryz.underlying131
  a72 := Tryz.isAgg131
  z72 := Tryz.sizeOf131
  v72 := Tryz.zeroValue131
  t127 := Tryz.underlying156
  a127 := Tryz.isAgg156
  z127 := Tryz.sizeOf156
  v127 := Tryz.zeroValue156 }
theorem Tryz.Builder_Extra_169 : Builder.Extra Tryz.prog Tryz.lays169_ren := {
  sizeBuilder := by kernel_rfl
  liesBuilder := by kernel_rfl
  t5 := Tryz.underlying5
  a5 := Tryz.isAgg5
  z5 := Tryz.sizeOf5
  v5 := Tryz.zeroValue5
  infoByte := by kernel_rfl
  cellsByte := by kernel_rfl
  sizeByte := by kernel_rfl
  neB5 := by decide }
open Go.RowKit in
theorem Tryz.Builder_String_any (B b : Nat) (l : List UInt8) (w : World) (h : Lib.IsBuilder 131 5 B b (Lib.byteCells l) w) (hBw : B ≤ w.heap.size) :
    Calls Tryz.prog 65 #[.pointer (some ⟨b, 0, none⟩)] w fun e w' => e = .returned (.string ⟨l.toArray⟩) ∧ Below B w w' := Any.Builder_String_any Tryz.lays169 Tryz.Builder_Extra_169 B b l w h hBw
def Tryz.lays165_ren : Go.Shelf.Ren := ⟨fun | 165 => 63 | 240 => 82 | 241 => 83 | 276 => 111 | 277 => 112 | n => n, fun | 70 => 128 | 3 => 3 | 0 => 0 | 4 => 4 | 9 => 9 | 20 => 20 | 72 => 131 | 37 => 129 | 164 => 182 | 5 => 5 | n => n, fun | n => n⟩
theorem Tryz.lays165 : Go.Proofs.Lays.n165 Tryz.prog Tryz.lays165_ren := {
  mixed := by kernel_rfl
  f165 := Tryz.func63.trans (congrArg some (by kernel_rfl))
  f240 := Tryz.func82.trans (congrArg some (by kernel_rfl))
  f241 := Tryz.func83.trans (congrArg some (by kernel_rfl))
  f276 := Tryz.func111.trans (congrArg some (by kernel_rfl))
  f277 := Tryz.func112.trans (congrArg some (by kernel_rfl))
  t0 := Tryz.underlying0
  a0 := Tryz.isAgg0
  z0 := Tryz.sizeOf0
  v0 := Tryz.zeroValue0
  t3 := Tryz.underlying3
  a3 := Tryz.isAgg3
  z3 := Tryz.sizeOf3
  v3 := Tryz.zeroValue3
  t4 := Tryz.underlying4
  a4 := Tryz.isAgg4
  z4 := Tryz.sizeOf4
  v4 := Tryz.zeroValue4
  t9 := Tryz.underlying9
  a9 := Tryz.isAgg9
  z9 := Tryz.sizeOf9
  v9 := Tryz.zeroValue9
  t20 := Tryz.underlying20
  a20 := Tryz.isAgg20
  z20 := Tryz.sizeOf20
  v20 := Tryz.zeroValue20
  t37 := Tryz.underlying129
  a37 := Tryz.isAgg129
  z37 := Tryz.sizeOf129
  v37 := Tryz.zeroValue129
  t70 := Tryz.underlying128
  a70 := Tryz.isAgg128
  z70 := Tryz.sizeOf128
  v70 := Tryz.zeroValue128
  t72 := Tryz.underlying131
  a72 := Tryz.isAgg131
  z72 := Tryz.sizeOf131
  v72 := Tryz.zeroValue131
  t164 := Tryz.underlying182
  a164 := Tryz.isAgg182
  z164 := Tryz.sizeOf182
  v164 := Tryz.zeroValue182 }
theorem Tryz.Builder_Extra_165 : Builder.Extra Tryz.prog Tryz.lays165_ren := {
  sizeBuilder := by kernel_rfl
  liesBuilder := by kernel_rfl
  t5 := Tryz.underlying5
  a5 := Tryz.isAgg5
  z5 := Tryz.sizeOf5
  v5 := Tryz.zeroValue5
  infoByte := by kernel_rfl
  cellsByte := by kernel_rfl
  sizeByte := by kernel_rfl
  neB5 := by decide }
open Go.RowKit in
theorem Tryz.Builder_Grow_fresh (B b n : Nat) (w : World) (hB : B ≤ b) (hbk : w.heap[b]? = some (.cells #[.pointer none, .slice none 0 0] 131 (0, 0))) (hBw : B ≤ w.heap.size) (hn : n ≤ 281474976710656) :
    Calls Tryz.prog 63 #[.pointer (some ⟨b, 0, none⟩), .int .i64 n] w fun e w' => e = .returned (.tuple #[]) ∧ (Lib.BuilderAt 131 5 B b (.pointer (some ⟨b, 0, none⟩)) [] w' ∧ Below B w w') := Any.Builder_Grow_fresh Tryz.lays165 Tryz.Builder_Extra_165 B b n w hB hbk hBw hn
def Tryz.lays171_ren : Go.Shelf.Ren := ⟨fun | 171 => 39 | 243 => 62 | 246 => 81 | 283 => 107 | 284 => 108 | 285 => 109 | 286 => 110 | 129 => 106 | 317 => 135 | 318 => 136 | 319 => 137 | 320 => 138 | 337 => 149 | 338 => 150 | n => n, fun | 3 => 3 | 9 => 9 | 2 => 2 | 4 => 4 | 171 => 178 | 0 => 0 | 53 => 177 | 37 => 129 | 5 => 5 | 173 => 180 | 212 => 205 | 51 => 175 | 20 => 20 | 213 => 206 | 46 => 153 | 232 => 226 | 233 => 227 | n => n, fun | 17 => 1 | 18 => 4 | 19 => 5 | n => n⟩
theorem Tryz.lays171 : Go.Proofs.Lays.n171 Tryz.prog Tryz.lays171_ren := {
  mixed := by kernel_rfl
  f129 := Tryz.func106.trans (congrArg some (by kernel_rfl))
  f171 := Tryz.func39.trans (congrArg some (by kernel_rfl))
  f243 := Tryz.func62.trans (congrArg some (by kernel_rfl))
  f246 := Tryz.func81.trans (congrArg some (by kernel_rfl))
  f283 := Tryz.func107.trans (congrArg some (by kernel_rfl))
  f284 := Tryz.func108.trans (congrArg some (by kernel_rfl))
  f285 := Tryz.func109.trans (congrArg some (by kernel_rfl))
  f286 := Tryz.func110.trans (congrArg some (by kernel_rfl))
  f317 := Tryz.func135.trans (congrArg some (by kernel_rfl))
  f318 := Tryz.func136.trans (congrArg some (by kernel_rfl))
  f319 := Tryz.func137.trans (congrArg some (by kernel_rfl))
  f320 := Tryz.func138.trans (congrArg some (by kernel_rfl))
  f337 := Tryz.func149.trans (congrArg some (by kernel_rfl))
  f338 := Tryz.func150.trans (congrArg some (by kernel_rfl))
  t0 := Tryz.underlying0
  a0 := Tryz.isAgg0
  z0 := Tryz.sizeOf0
  v0 := Tryz.zeroValue0
  t2 := Tryz.underlying2
  a2 := Tryz.isAgg2
  z2 := Tryz.sizeOf2
  v2 := Tryz.zeroValue2
  t3 := Tryz.underlying3
  a3 := Tryz.isAgg3
  z3 := Tryz.sizeOf3
  v3 := Tryz.zeroValue3
  t4 := Tryz.underlying4
  a4 := Tryz.isAgg4
  z4 := Tryz.sizeOf4
  v4 := Tryz.zeroValue4
  t5 := Tryz.underlying5
  a5 := Tryz.isAgg5
  z5 := Tryz.sizeOf5
  v5 := Tryz.zeroValue5
  t9 := Tryz.underlying9
  a9 := Tryz.isAgg9
  z9 := Tryz.sizeOf9
  v9 := Tryz.zeroValue9
  t20 := Tryz.underlying20
  a20 := Tryz.isAgg20
  z20 := Tryz.sizeOf20
  v20 := Tryz.zeroValue20
  t37 := Tryz.underlying129
  a37 := Tryz.isAgg129
  z37 := Tryz.sizeOf129
  v37 := Tryz.zeroValue129
  t46 := Tryz.underlying153
  a46 := Tryz.isAgg153
  z46 := Tryz.sizeOf153
  v46 := Tryz.zeroValue153
  t51 := Tryz.underlying175
  a51 := Tryz.isAgg175
  z51 := Tryz.sizeOf175
  v51 := Tryz.zeroValue175
  t53 := Tryz.underlying177
  a53 := Tryz.isAgg177
  z53 := Tryz.sizeOf177
  v53 := Tryz.zeroValue177
  t171 := Tryz.underlying178
  a171 := Tryz.isAgg178
  z171 := Tryz.sizeOf178
  v171 := Tryz.zeroValue178
  t173 := Tryz.underlying180
  a173 := Tryz.isAgg180
  z173 := Tryz.sizeOf180
  v173 := Tryz.zeroValue180
  t212 := Tryz.underlying205
  a212 := Tryz.isAgg205
  z212 := Tryz.sizeOf205
  v212 := Tryz.zeroValue205
  t213 := Tryz.underlying206
  a213 := Tryz.isAgg206
  z213 := Tryz.sizeOf206
  t232 := Tryz.underlying226
  a232 := Tryz.isAgg226
  z232 := Tryz.sizeOf226
  v232 := Tryz.zeroValue226
  t233 := Tryz.underlying227
  a233 := Tryz.isAgg227
  z233 := Tryz.sizeOf227
  v233 := Tryz.zeroValue227
  g17 := by kernel_rfl
  g18 := by kernel_rfl
  g19 := by kernel_rfl }
open Go.RowKit Go.Sort Go.Lib in
theorem Tryz.strconv_Itoa_small (i : Nat) (hi : i < 100) (w : World) :
    Calls Tryz.prog 39 #[.int .i64 i] w fun e w' => e = .returned (.string ⟨(Lib.decDigits i).toArray⟩) ∧ w' = w := Any.strconv_Itoa_small Tryz.lays171 i hi w
def Tryz.laysNm215_ren : Go.Shelf.Ren := ⟨fun | 15 => 56 | n => n, fun | 22 => 25 | 3 => 3 | 4 => 4 | n => n, fun | n => n⟩
theorem Tryz.laysNm215 : Go.Proofs.Lays2.n15 Tryz.prog Tryz.laysNm215_ren := {
  mixed := by kernel_rfl
  f15 := Tryz.func56.trans (congrArg some (by kernel_rfl))
  t3 := Tryz.underlying3
  a3 := Tryz.isAgg3
  z3 := Tryz.sizeOf3
  v3 := Tryz.zeroValue3
  t4 := Tryz.underlying4
  a4 := Tryz.isAgg4
  z4 := Tryz.sizeOf4
  v4 := Tryz.zeroValue4
  t22 := Tryz.underlying25
  a22 := Tryz.isAgg25
  z22 := Tryz.sizeOf25
  v22 := Tryz.zeroValue25
  i3 := by kernel_rfl }
open Go.RowKit Go.Lib in
theorem Tryz.slices_Clone_int (b off n c : Nat) (zs : List Int) (w : World) (hz : n ≤ zs.length) (hbig : n * 8 ≤ 140737488355328) (hc : ∀ j, j < zs.length → w.cell? ⟨b, off + j, none⟩ = some (.int .i64 (zs.getD j 0))) :
    Calls Tryz.prog 56 #[.slice (some ⟨b, off, none⟩) n c] w fun e w' => ∃ v', e = .returned v' ∧ w'.ownsRow w.heap.size 3 1 v' n ((zs.take n).map (Value.int .i64)) ∧ v' ≠ .slice none 0 0 ∧ Below w.heap.size w w' := Any.slices_Clone_int Tryz.laysNm215 b off n c zs w hz hbig hc
open Go.RowKit Go.Lib in
theorem Tryz.slices_Clone_int_nil (n c : Nat) (w : World) :
    Calls Tryz.prog 56 #[.slice none n c] w fun e w' => e = .returned (.slice none 0 0) ∧ w' = w := Any.slices_Clone_int_nil Tryz.laysNm215 n c w
open Go.RowKit Go.Lib in
theorem Tryz.slices_Clone_int_zero (a : Addr) (c : Nat) (w : World) :
    Calls Tryz.prog 56 #[.slice (some a) 0 c] w fun e w' => ∃ v', e = .returned v' ∧ w'.ownsRow w.heap.size 3 1 v' 0 [] ∧ v' ≠ .slice none 0 0 ∧ Below w.heap.size w w' := Any.slices_Clone_int_zero Tryz.laysNm215 a c w
theorem Tryz.Builder_Extra_166 : Builder.Extra Tryz.prog Tryz.laysW_ren := {
  sizeBuilder := by kernel_rfl
  liesBuilder := by kernel_rfl
  t5 := Tryz.underlying5
  a5 := Tryz.isAgg5
  z5 := Tryz.sizeOf5
  v5 := Tryz.zeroValue5
  infoByte := by kernel_rfl
  cellsByte := by kernel_rfl
  sizeByte := by kernel_rfl
  neB5 := by decide }
open Go.RowKit in
theorem Tryz.Builder_WriteString (B b : Nat) (bs : List Value) (s : ByteArray) (w : World) (h : Lib.IsBuilder 131 5 B b bs w) (hlen : bs.length + s.size ≤ 140737488355328) (hBw : B ≤ w.heap.size) :
    Calls Tryz.prog 64 #[.pointer (some ⟨b, 0, none⟩), .string s] w fun e w' => e = .returned (.tuple #[.int .i64 s.size, .nilIface]) ∧ (Lib.BuilderAt 131 5 B b (.pointer (some ⟨b, 0, none⟩)) (bs ++ Lib.strCells s) w' ∧ Below B w w') := Any.Builder_WriteString Tryz.lays166 Tryz.Builder_Extra_166 B b bs s w h hlen hBw
end Go.Proofs

/- strings.Join of four short texts. -/
namespace Go.Proofs.YtahifpeggdcamaaGreatDoor
open Go.RowKit
set_option linter.unusedVariables false
set_option linter.unusedSimpArgs false
/-- Texts with a text between them: so many beside the first. -/
def jn (xs : Nat → ByteArray) (sep : ByteArray) : Nat → List UInt8
  | 0 => (xs 0).data.toList
  | k + 1 => jn xs sep k ++ (sep.data.toList ++ (xs (k + 1)).data.toList)
def ln (xs : Nat → ByteArray) : Nat → Nat
  | 0 => 0
  | k + 1 => ln xs k + (xs k).size
theorem ln_le (xs : Nat → ByteArray) (hx : ∀ j, (xs j).size ≤ 1000) : ∀ k, ln xs k ≤ 1000 * k
  | 0 => Nat.zero_le _
  | k + 1 => by have := ln_le xs hx k; have := hx k; simp only [ln]; omega
theorem jn_le (xs : Nat → ByteArray) (sep : ByteArray) (hx : ∀ j, (xs j).size ≤ 1000) (hs : sep.size ≤ 1000) : ∀ k, (jn xs sep k).length ≤ 1000 + 2000 * k
  | 0 => by have := hx 0; have : (xs 0).data.toList.length = (xs 0).size := Array.length_toList; simp only [jn]; omega
  | k + 1 => by
    have h1 := jn_le xs sep hx hs k
    have h2 := hx (k + 1)
    have e1 : sep.data.toList.length = sep.size := Array.length_toList
    have e2 : (xs (k + 1)).data.toList.length = (xs (k + 1)).size := Array.length_toList
    simp only [jn, List.length_append]; omega
theorem hid {p : Prop} (h : p) : Hid p := h
set_option maxHeartbeats 4000000 in
set_option maxRecDepth 100000 in
theorem join4 (bk o c n : Nat) (hn : n = 4) (xs : Nat → ByteArray) (sep : ByteArray) (w : World) (hc0 : ∀ j, j < 4 → w.cell? ⟨bk, o + j, none⟩ = some (.string (xs j))) (hbk : bk < w.heap.size) (hcap : n ≤ c) (hx0 : ∀ j, (xs j).size ≤ 1000) (hs : sep.size ≤ 1000) :
    Calls Tryz.prog 40 #[.slice (some ⟨bk, o, none⟩) n c, .string sep] w fun e w' => e = .returned (.string ⟨(jn xs sep 3).toArray⟩) ∧ Below w.heap.size w w' := by
  have HC := hid hc0
  have HX := hid hx0
  have HN := hid hn
  have HS := hid hs
  obtain ⟨M, hM⟩ : ∃ M : Nat, M = sep.size * 3 := ⟨_, rfl⟩
  have hdv : ¬ (9223372036854775807 / ((n : Int) - 1) ≤ (sep.size : Int)) := by
    subst hn
    show ¬ ((9223372036854775807 : Int) / (3 : Int) ≤ (sep.size : Int))
    omega
  have hprod : wrap64 ((sep.size : Int) * ((n : Int) - 1)) = (M : Int) := by
    subst hn
    rw [show ((sep.size : Int) * (((4 : Nat) : Int) - 1)) = (M : Int) by rw [hM]; simp]
    unfold wrap64; omega
  have hM0 : sep.size = 0 → M = 0 := fun h => by rw [hM, h]
  have hMle : M ≤ 3000 := by omega
  have hne0 : ((n : Int) == 0) = false := beq_eq_false_iff_ne.2 (by omega)
  have hne1 : ((n : Int) == 1) = false := beq_eq_false_iff_ne.2 (by omega)
  have hnle : n ≤ 4 := by omega
  have hnpos : 2 ≤ n := by omega
  clear hc0 hx0 hs hn hM
  go_enter Tryz.func40, Tryz.ntmps40
  go_wp2_with fail
  all_goals (
    go_loop [5, 41] (fun v i => ∃ k : Nat, k ≤ n ∧ i = .int .i64 k ∧ v = .int .i64 ((M + ln xs k : Nat) : Int)) (fun _ i => n - (intOf i).toNat)
    case atStart => exact ⟨0, Nat.zero_le _, rfl, by first | (simp [ln]; done) | (have := hM0 (by omega); simp [ln, this])⟩
    case round =>
      obtain ⟨k, hk, rfl, rfl⟩ := hrel
      by_cases hkn : k < n
      · have hck := HC.out k (by have := HN.out; omega)
        have hstep : ln xs (k + 1) = ln xs k + (xs k).size := rfl
        have hbound : ln xs (k + 1) ≤ 4000 := by have := ln_le xs HX.out (k + 1); have := HN.out; omega
        generalize hA1 : ln xs (k + 1) = A1 at hstep hbound
        generalize ln xs k = A0 at hstep
        have HA1 := hid hA1
        clear hA1
        generalize xs k = x at hck hstep
        go_wp2
        exact ⟨⟨k + 1, by omega, by go_num, by rw [HA1.out]; refine congrArg _ ?_; omega⟩, by simp [intOf]; omega⟩
      · have hke : k = n := by omega
        subst hke
        have hT : ln xs k ≤ 4000 := by have := ln_le xs HX.out k; have := HN.out; omega
        generalize ln xs k = T at hT
        go_wp2_with fail
        have hMT : ((M : Int) + (T : Int)) = ((M + T : Nat) : Int) := by omega
        rw [hMT]
        refine (Tryz.Builder_Grow_fresh w.heap.size w.heap.size (M + T) _ (Nat.le_refl _) (heap_alloc_new w _) (by simp) (by omega)).mono ?_
        rintro e w1 ⟨rfl, h1, hb1⟩
        have hb1' : Below w.heap.size w w1 := ((Below.refl w.heap.size w).alloc (Nat.le_refl _) _).trans hb1
        have hc0 : w1.cell? ⟨bk, o, none⟩ = some (.string (xs 0)) := by
          rw [hb1'.cell (p := ⟨bk, o, none⟩) hbk]
          exact HC.out 0 (by omega)
        have H1 := hid (Or.inr h1 : Lib.IsBuilder 131 5 w.heap.size w.heap.size [] w1)
        have Hb1 := hid hb1'
        have hBw1 : w.heap.size ≤ w1.heap.size := hb1'.size
        clear h1 hb1 hb1' hMT
        obtain ⟨x0, hx0⟩ : ∃ x0, x0 = xs 0 := ⟨_, rfl⟩
        rw [← hx0] at hc0
        have hx0l : x0.size ≤ 1000 := by rw [hx0]; exact HX.out 0
        have Hx0 := hid hx0
        clear hx0
        go_wp2_with fail
        refine (Tryz.Builder_WriteString w.heap.size w.heap.size [] x0 w1 H1.out (by simp; omega) hBw1).mono ?_
        rintro e w2 ⟨rfl, h2', hb2⟩
        have hstart : ([] : List Value) ++ Lib.strCells x0 = Lib.byteCells (jn xs sep 0) := by rw [Hx0.out]; rfl
        rw [hstart] at h2'
        have H2 := hid (Or.inr h2' : Lib.IsBuilder 131 5 w.heap.size w.heap.size _ w2)
        have Hb2 := hid (Hb1.out.trans hb2)
        clear h2' hb2 hstart
        go_wp2_with fail
        go_loopw [65] (fun i wr => ∃ j : Nat, j ≤ k - 1 ∧ i = .int .i64 j ∧ Hid (Lib.IsBuilder 131 5 w.heap.size w.heap.size (Lib.byteCells (jn xs sep j)) wr) ∧ Hid (Below w.heap.size w wr)) (fun i _ => k - 1 - (intOf i).toNat)
        case atStart => exact ⟨0, Nat.zero_le _, rfl, H2, Hb2⟩
        case round =>
          obtain ⟨j, hj, rfl, HB, HW⟩ := hrel
          by_cases hjr : j < k - 1
          · obtain ⟨y, hy⟩ : ∃ y, y = xs (j + 1) := ⟨_, rfl⟩
            have hcy : wr.cell? ⟨bk, o + 1 + j, none⟩ = some (.string y) := by
              rw [HW.out.cell (p := ⟨bk, o + 1 + j, none⟩) hbk, show o + 1 + j = o + (j + 1) by omega, hy]
              exact HC.out (j + 1) (by omega)
            have hyl : y.size ≤ 1000 := by rw [hy]; exact HX.out (j + 1)
            have hBw : w.heap.size ≤ wr.heap.size := HW.out.size
            have hsl : sep.size ≤ 1000 := HS.out
            have hnext : Lib.byteCells (jn xs sep j) ++ Lib.strCells sep ++ Lib.strCells y = Lib.byteCells (jn xs sep (j + 1)) := by
              rw [hy, Lib.strCells_eq, Lib.strCells_eq, List.append_assoc, ← Lib.byteCells_append, ← Lib.byteCells_append]; rfl
            have hJ : (Lib.byteCells (jn xs sep j)).length ≤ 7000 := by
              rw [Lib.byteCells_length]
              have := jn_le xs sep HX.out HS.out j
              omega
            have Hn := hid hnext
            clear hnext hy
            go_wp2_with fail
            refine (Tryz.Builder_WriteString w.heap.size w.heap.size _ sep wr HB.out (by omega) hBw).mono ?_
            rintro e w3 ⟨rfl, h3, hb3⟩
            have hBw3 : w.heap.size ≤ w3.heap.size := Nat.le_trans hBw hb3.size
            have H3 := hid h3
            have Hb3 := hid hb3
            clear h3 hb3
            go_wp2_with fail
            refine (Tryz.Builder_WriteString w.heap.size w.heap.size _ y w3 (Or.inr H3.out) (by rw [List.length_append, Lib.strCells_length]; omega) hBw3).mono ?_
            rintro e w4 ⟨rfl, h4, hb4⟩
            rw [Hn.out] at h4
            have H4 := hid (Or.inr h4 : Lib.IsBuilder 131 5 w.heap.size w.heap.size _ w4)
            have Hb4 := hid ((HW.out.trans Hb3.out).trans hb4)
            clear h4 hb4
            go_wp2
            exact ⟨⟨j + 1, by omega, by go_num, H4, Hb4⟩, by simp [intOf]; omega⟩
          · have hje : j = 3 := by have := HN.out; omega
            subst hje
            have hBw : w.heap.size ≤ wr.heap.size := HW.out.size
            have hk4 : k = 4 := HN.out
            go_wp2_with fail
            refine (Tryz.Builder_String_any w.heap.size w.heap.size _ wr HB.out hBw).mono ?_
            rintro e w5 ⟨rfl, hb5⟩
            have Hb5 := hid (HW.out.trans hb5)
            clear hb5
            go_wp2
            go_ret
            exact ⟨rfl, Hb5.out⟩)
#print axioms join4
end Go.Proofs.YtahifpeggdcamaaGreatDoor

/- Library functions that are told by hand: what the machine does. -/
namespace Go.Dam
open Go.RowKit
set_option linter.unusedVariables false
set_option linter.unusedSimpArgs false
theorem dig_eq (n : Nat) (h : n < 100) : Lib.decDigits n = dig n := by
  unfold dig
  by_cases h1 : n < 10
  · rw [Lib.decDigits, dif_pos h1, if_pos (by simpa using h1)]
  · rw [Lib.decDigits, dif_neg h1, if_neg (by simpa using h1), Lib.decDigits, dif_pos (by omega)]; rfl

section
variable {C : Tab} {P : Program} {w w' : World}
theorem ret_scalar {f t : Nat} (hres : C.res f = [t]) (hflat : C.flat t = true) (hag : isAggT C t = some false) {v : Value} (h1 : v.oneCell' = true) {base : Nat} : RetOk C (C.roF f) (fun _ => False) base w (C.res f) v (.sc v) := by
  have hm : retMd C (C.roF f) (C.res f) = .uni .ro := by simp [hres, retMd, resMd, hflat]
  refine ⟨?_, fun c j x u k hx => ?_, fun j t' ht => ?_⟩
  · rw [hm]; exact sc_rep h1
  · rw [hm] at hx
    simp only [homeS] at hx
    split at hx
    · simp only [Md.home1] at hx
      split at hx <;> simp [own?] at hx
    · simp at hx
  · rw [hres] at ht
    have : j = 0 ∧ t' = t := by
      cases j with
      | zero => simpa using ht.symm
      | succ j => simp at ht
    obtain ⟨rfl, rfl⟩ := this
    intro h; rw [hag] at h; simp at h
theorem ret_row {f t T : Nat} (hres : C.res f = [t]) {s b : Nat} {z0 : List AV} (hflat : C.flat t = false) (hrt : C.roF f = false) (hi : C.info t = some ([.sl T z0], s, b)) (hag : isAggT C t = some false) {v : Value} {base : Nat} {l : List AV}
    (h : OwnR C (fun _ => False) base w v (.sl T l)) : RetOk C (C.roF f) (fun _ => False) base w (C.res f) v (.sl T l) := by
  have hm : retMd C (C.roF f) (C.res f) = .uni .own := by simp [hres, retMd, resMd, hflat, hrt, hi, hag]
  refine ⟨?_, fun c j x u k hx hk => ?_, fun j t' ht => ?_⟩
  · rw [hm]; exact .inl h
  · rw [hm] at hx ⊢
    refine ⟨fun h => h.elim, fun c' j' x' u' hx' _ => ?_⟩
    have key : ∀ c j y, homeS (.uni .own) (.sl T l) v c j = some y → c = 0 ∧ j = 0 := by
      intro c j y hy
      simp only [homeS] at hy
      split at hy
      · rename_i hc
        refine ⟨hc, ?_⟩
        simp only [Md.home1] at hy
        split at hy
        · assumption
        · simp [own?] at hy
      · simp at hy
    obtain ⟨rfl, rfl⟩ := key c j _ hx
    obtain ⟨rfl, rfl⟩ := key c' j' _ hx'
    exact ⟨rfl, rfl⟩
  · rw [hres] at ht
    have : j = 0 ∧ t' = t := by
      cases j with
      | zero => simpa using ht.symm
      | succ j => simp at ht
    obtain ⟨rfl, rfl⟩ := this
    intro h; rw [hag] at h; simp at h
theorem frzV_sl {S : Nat → Prop} {v : Value} {T : Nat} {l : List AV} (h : FrzV C S w v (.sl T l)) : Frz C S w v (.sl T l) := by
  rcases h with ⟨_, _, _, e, _⟩ | h
  · simp at e
  · exact h
theorem frz_scv {S : Nat → Prop} {v x : Value} (h : Frz C S w v (.sc x)) : v = x := by cases h; rfl
theorem frzV_sc {S : Nat → Prop} {v x : Value} (h : FrzV C S w v (.sc x)) : v = x := by
  rcases h with ⟨_, _, _, e, _⟩ | h
  · simp at e
  · cases h; rfl

theorem calls_to {f : Nat} {vals : Array Value} {fn : Func} (hf : P.funcs[f]? = some fn) (hb : fn.body.isSome = true) (hn : (fn.name == "runtime.NumGoroutine") = false) {R : Value → World → Prop} {Q : Ending → World → Prop}
    (h : Calls P f vals w Q) (hq : ∀ e w', Q e w' → ∃ v, e = .returned v ∧ R v w') : CallsTo P f vals w R :=
  CallsTo.of_calls hf hb hn (h.mono fun e w' he => by obtain ⟨v, rfl, hv⟩ := hq e w' he; exact hv)
end
end Go.Dam

namespace Go.Proofs.YtahifpeggdcamaaGreatDoor
open Go.Dam Go.RowKit
set_option linter.unusedVariables false
section
variable {C : Tab}
set_option maxRecDepth 100000 in
theorem itoa_contract (hres : C.res 39 = [9]) (hflat : C.flat 9 = true) (hag : isAggT C 9 = some false) {args : List AV} {r : AV} (h : extItoa args = some r) : Contract C Tryz.prog 39 args r := by
  unfold extItoa at h
  split at h
  case h_2 => simp at h
  rename_i n
  split at h
  case isFalse => simp at h
  rename_i hc
  simp only [Bool.and_eq_true, decide_eq_true_eq] at hc
  simp only [Option.some.injEq] at h
  subst h
  intro vals w Gin hGin ⟨hl, hargs⟩
  obtain ⟨v, hv⟩ : ∃ v, vals.toList = [v] := List.length_eq_one_iff.1 (by simpa using hl)
  have h0 := frzV_sc (hargs 0 (by simp)).1
  rw [hv] at h0
  simp only [List.getD_cons_zero] at h0
  subst h0
  have hva : vals = #[.int .i64 n] := by cases vals; simp_all
  subst hva
  have hn : ((n.toNat : Nat) : Int) = n := Int.toNat_of_nonneg hc.1
  have := Tryz.strconv_Itoa_small n.toNat (by omega) w
  rw [hn] at this
  refine calls_to Tryz.func39 (by kernel_rfl) (by kernel_rfl) this fun e w' he => ?_
  obtain ⟨rfl, rfl⟩ := he
  refine ⟨_, rfl, fun _ => False, Below.refl _ _, fun _ h => h.elim, ?_⟩
  rw [dig_eq _ (by omega)]
  exact ret_scalar hres hflat hag rfl

set_option maxRecDepth 100000 in
theorem join_contract (hres : C.res 40 = [9]) (hflat : C.flat 9 = true) (hag : isAggT C 9 = some false) {z : List AV} {b : Nat} (hi : C.info 9 = some (z, 1, b)) {args : List AV} {r : AV} (h : extJoin4 9 args = some r) : Contract C Tryz.prog 40 args r := by
  unfold extJoin4 at h
  split at h
  case h_2 => simp at h
  rename_i T' a0 a1 a2 a3 s
  split at h
  case isFalse => simp at h
  rename_i hc
  simp only [Bool.and_eq_true, shortS, Nat.ble_eq] at hc
  obtain ⟨hT, hs0, hs1, hs2, hs3, hs4⟩ := hc
  obtain rfl := Nat.eq_of_beq_eq_true hT
  simp only [Option.some.injEq] at h
  subst h
  intro vals w Gin hGin ⟨hl, hargs⟩
  obtain ⟨v, u, hv⟩ : ∃ v u, vals.toList = [v, u] := by
    clear hargs
    match vals.toList, hl with
    | [v, u], _ => exact ⟨v, u, rfl⟩
  have h0 := frzV_sl (hargs 0 (by simp)).1
  have h1 := frzV_sc (hargs 1 (by simp)).1
  rw [hv] at h0 h1
  simp only [List.getD_cons_zero, List.getD_cons_succ] at h0 h1
  subst h1
  obtain ⟨A, cap, s', b', z', ad, cv, hvv, hi', h1, h2, hA, hcell, hp, hr⟩ := h0.slice
  rw [hi] at hi'; cases hi'
  obtain ⟨rfl, hblk, hsp⟩ := hA (by simp)
  obtain ⟨blk, off, spt⟩ := ad
  subst hsp
  have hva : vals = #[v, .string s] := by cases vals; simp_all
  subst hva
  subst hvv
  let xs : Nat → ByteArray := fun j => match j with | 0 => a0 | 1 => a1 | 2 => a2 | 3 => a3 | _ => ByteArray.empty
  have hsz : ∀ j, (xs j).size ≤ 1000 := fun j => by
    match j with
    | 0 => exact hs0
    | 1 => exact hs1
    | 2 => exact hs2
    | 3 => exact hs3
    | _ + 4 => exact Nat.zero_le _
  have hone : ∀ j x, j < 4 → ([AV.sc (.string a0), .sc (.string a1), .sc (.string a2), .sc (.string a3)] : List AV).getD j .undef = .sc (.string x) → w.cell? ⟨blk, off + j, none⟩ = some (.string x) := by
    intro j x hj hx
    have e1 := hcell j 0 (by simpa using hj) (by omega)
    have e2 := hr j 0 (by simpa using hj) (by omega)
    rw [hx] at e2
    have e3 : elCell C 9 (.sc (.string x)) 0 = .sc (.string x) := by simp [elCell, hag]
    rw [e3] at e2
    have e4 : cv j 0 = .string x := frz_scv e2
    rw [e4, Addr.add_none rfl] at e1
    simpa using e1
  have hcells : ∀ j, j < 4 → w.cell? ⟨blk, off + j, none⟩ = some (.string (xs j)) := by
    intro j hj
    match j, hj with
    | 0, _ => exact hone 0 a0 (by omega) rfl
    | 1, _ => exact hone 1 a1 (by omega) rfl
    | 2, _ => exact hone 2 a2 (by omega) rfl
    | 3, _ => exact hone 3 a3 (by omega) rfl
  have := join4 blk off cap 4 rfl xs s w hcells hblk h1 hsz hs4
  refine calls_to Tryz.func40 (by kernel_rfl) (by kernel_rfl) this fun e w' he => ?_
  obtain ⟨rfl, hb⟩ := he
  exact ⟨_, rfl, fun _ => False, hb, fun _ h => h.elim, ret_scalar hres hflat hag rfl⟩

set_option maxRecDepth 100000 in
theorem clone_contract (hres : C.res 56 = [25]) (hflat : C.flat 25 = false) (hrt : C.roF 56 = false) (hag : isAggT C 25 = some false) (hag3 : isAggT C 3 = some false) {s2 b2 : Nat} {z0 : List AV} (hi22 : C.info 25 = some ([.sl 3 z0], s2, b2)) {n0 : Int} {b : Nat} (hi : C.info 3 = some ([.sc (.int .i64 n0)], 1, b))
    {args : List AV} {r : AV} (h : extClone 3 args = some r) : Contract C Tryz.prog 56 args r := by
  unfold extClone at h
  split at h
  case h_2 => simp at h
  rename_i T' l
  split at h
  case isFalse => simp at h
  rename_i hc
  simp only [Bool.and_eq_true, Nat.ble_eq] at hc
  obtain ⟨hT, hlen, hall⟩ := hc
  obtain rfl := Nat.eq_of_beq_eq_true hT
  simp only [Option.some.injEq] at h
  subst h
  intro vals w Gin hGin ⟨hl, hargs⟩
  obtain ⟨v, hv⟩ : ∃ v, vals.toList = [v] := List.length_eq_one_iff.1 (by simpa using hl)
  have h0 := frzV_sl (hargs 0 (by simp)).1
  rw [hv] at h0
  simp only [List.getD_cons_zero] at h0
  obtain ⟨A, cap, s', b', z', ad, cv, hvv, hi', h1, h2, hA, hcell, hp, hr⟩ := h0.slice
  rw [hi] at hi'; cases hi'
  have hva : vals = #[v] := by cases vals; simp only at hv; rw [hv]
  subst hva
  subst hvv
  obtain ⟨zs, hzs⟩ : ∃ zs : List Int, l = zs.map fun n => AV.sc (.int .i64 n) := by
    clear hl hargs h0 hcell hp hr h1 hv hlen hA
    induction l with
    | nil => exact ⟨[], rfl⟩
    | cons a l ih =>
      simp only [List.all_cons, Bool.and_eq_true] at hall
      obtain ⟨zs, rfl⟩ := ih hall.2
      have h1 := hall.1
      unfold isI64 at h1
      split at h1
      · rename_i n; exact ⟨n :: zs, rfl⟩
      · simp at h1
  have own : ∀ {v' : Value} {w' : World}, w'.ownsRow w.heap.size 3 1 v' l.length (zs.map (Value.int .i64)) → OwnR C (fun _ => False) w.heap.size w' v' (.sl 3 l) := by
    intro v' w' ho
    refine ⟨3, l, _, 1, b, _, rfl, hi, ho, fun i j hi' hj _ => ?_, fun i j hi' hj => ?_⟩
    · obtain rfl : j = 0 := by omega
      subst hzs
      simp only [List.length_map] at hi'
      simp [elCell, hag3, List.getD_eq_getElem?_getD, hi', isSc]
    · obtain rfl : j = 0 := by omega
      subst hzs
      simp only [List.length_map] at hi'
      refine ⟨.int .i64 zs[i], by simp [hi'], ?_⟩
      have : elCell C 3 ((zs.map fun n => AV.sc (.int .i64 n)).getD i .undef) 0 = .sc (.int .i64 zs[i]) := by simp [elCell, hag3, List.getD_eq_getElem?_getD, hi']
      rw [this]
      exact .sc _ rfl
  have fin : ∀ {v' : Value} {w' : World}, Below w.heap.size w w' → w'.ownsRow w.heap.size 3 1 v' l.length (zs.map (Value.int .i64)) → ∃ G', Below w.heap.size w w' ∧ (∀ b, G' b → b < w'.heap.size ∧ (b < w.heap.size → Gin b)) ∧ RetOk C (C.roF 56) G' w.heap.size w' (C.res 56) v' (.sl 3 l) :=
    fun hb ho => ⟨fun _ => False, hb, fun _ h => h.elim, ret_row hres hflat hrt hi22 hag (own ho)⟩
  by_cases h0l : l.length = 0
  · have hl0 : l = [] := List.length_eq_zero_iff.1 h0l
    subst hl0
    have hz0 : zs = [] := by cases zs with | nil => rfl | cons a t => exact absurd hzs (by simp)
    subst hz0
    cases A with
    | none =>
      refine calls_to Tryz.func56 (by kernel_rfl) (by kernel_rfl) (Tryz.slices_Clone_int_nil 0 cap w) fun e w' he => ?_
      obtain ⟨rfl, rfl⟩ := he
      exact ⟨_, rfl, fin (Below.refl _ _) ⟨rfl, .inl ⟨rfl, rfl⟩⟩⟩
    | some a =>
      refine calls_to Tryz.func56 (by kernel_rfl) (by kernel_rfl) (Tryz.slices_Clone_int_zero a cap w) fun e w' he => ?_
      obtain ⟨v', rfl, ho, _, hb⟩ := he
      exact ⟨_, rfl, fin hb ho⟩
  · obtain ⟨rfl, hblk, hsp⟩ := hA (by omega)
    obtain ⟨blk, off, spt⟩ := ad
    subst hsp
    have hcs : ∀ j, j < zs.length → w.cell? ⟨blk, off + j, none⟩ = some (.int .i64 (zs.getD j 0)) := by
      intro j hj
      have hjl : j < l.length := by rw [hzs]; simpa using hj
      have e1 := hcell j 0 hjl (by omega)
      have e2 := hr j 0 hjl (by omega)
      have e3 : elCell C 3 (l.getD j .undef) 0 = .sc (.int .i64 (zs.getD j 0)) := by simp [elCell, hag3, List.getD_eq_getElem?_getD, hj, hzs]
      rw [e3] at e2
      have e4 : cv j 0 = .int .i64 (zs.getD j 0) := frz_scv e2
      rw [e4, Addr.add_none rfl] at e1
      simpa using e1
    have hzl : zs.length = l.length := by rw [hzs]; simp
    refine calls_to Tryz.func56 (by kernel_rfl) (by kernel_rfl) (Tryz.slices_Clone_int blk off l.length cap zs w (by omega) hlen hcs) fun e w' he => ?_
    obtain ⟨v', rfl, ho, _, hb⟩ := he
    rw [List.take_of_length_le (by omega)] at ho
    exact ⟨_, rfl, fin hb ho⟩
end
end Go.Proofs.YtahifpeggdcamaaGreatDoor
