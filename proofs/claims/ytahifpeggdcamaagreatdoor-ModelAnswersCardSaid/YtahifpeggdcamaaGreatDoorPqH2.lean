/- A part of an interpreter of the model's code that is proved sound, and of laws told by it: DamN2, DamN3, DamN4, DamO1, DamN5. -/
import Derived.Test.YtahifpeggdcamaaGreatDoorPqH1
set_option linter.unusedVariables false
set_option linter.unusedSimpArgs false
/- The table of a machine; machines completed: the model's function and the reference's; the law ModelCompletes. -/
namespace Go.Proofs.YtahifpeggdcamaaGreatDoor
open Go.Dam
set_option linter.unusedVariables false
set_option linter.unusedSimpArgs false
def ptr : Option St4 → AV
  | some s => .ref [I s.f, I s.i, I s.o, I s.t]
  | none => .sc (.pointer none)
def rowT (l : List St4) (N : Int) (f : Nat) : List AV := (List.range N.toNat).map fun (i : Nat) => ptr (stp l f i)
def tblT (l : List St4) (S N : Int) : List AV := (List.range S.toNat).map fun (f : Nat) => .sl 82 (rowT l N f)
def q4 (s : St4) : Q4 := (s.f, s.i, s.o, s.t)
theorem decAll_steps : ∀ l : List St4, decAll (steps l) = some (l.map q4)
  | [] => rfl
  | s :: l => by
    have := decAll_steps l
    unfold steps at *
    simp only [List.map_cons, decAll, this]
    rfl
theorem ptr_last {l : List St4} (h : l.Pairwise ltS) (f i : Nat) : ptrQ (lastQ (l.map q4) f i) = ptr (stp l f i) := by
  unfold lastQ
  rw [← List.map_reverse, List.find?_map]
  have e : ((fun x : Q4 => x.1 == (f : Int) && x.2.1 == (i : Int)) ∘ q4) = hit (f : Int) (i : Int) := rfl
  rw [e]
  cases hs : stp l f i with
  | none =>
    have : l.reverse.find? (hit (f : Int) (i : Int)) = none := by
      rw [List.find?_eq_none]
      intro x hx hh
      exact stp_none hs x (List.mem_reverse.1 hx) (hit_iff.1 hh)
    rw [this]; rfl
  | some s =>
    obtain ⟨a, b, c⟩ := stp_some hs
    cases hr : l.reverse.find? (hit (f : Int) (i : Int)) with
    | none =>
      rw [List.find?_eq_none] at hr
      exact absurd (hit_iff.2 ⟨b, c⟩) (hr s (List.mem_reverse.2 a))
    | some x =>
      have hx := List.find?_some hr
      rw [hit_iff] at hx
      have hm := List.mem_reverse.1 (List.mem_of_find?_eq_some hr)
      rw [up_unique h hm a (by omega) (by omega)]
      rfl
theorem r67 {K : Nat} (h : 1 ≤ K) {S N O T : Int} {l : List St4} (ok : MaOk S N O T l) : run tab K 36 [eM S N O T l] = some (.sl 83 (tblT l S N)) := by
  obtain ⟨K, rfl⟩ := succK h
  obtain ⟨s1, s2⟩ := ok.s
  obtain ⟨n1, n2⟩ := ok.n
  have hl := ok.len
  rw [show run tab (K + 1) 36 [eM S N O T l] = extTable 75 83 82 [eM S N O T l] from rfl]
  unfold extTable eM
  simp only []
  rw [show Nat.beq 75 75 = true from rfl, decide_eq_true (show 1 ≤ S by omega), decide_eq_true (show S ≤ 1000 by omega), decide_eq_true (show 1 ≤ N by omega), decide_eq_true (show N ≤ 1000 by omega), show Nat.ble (steps l).length 100000 = true by rw [steps_len]; simpa using (by omega : l.length ≤ 100000)]
  simp only [Bool.and_self, if_true, decAll_steps]
  have ha : (l.map q4).all (inTbl S N) = true := by
    rw [List.all_map, List.all_eq_true]
    intro x hx
    obtain ⟨m1, m2, m3, m4, m5, m6, m7, m8⟩ := ok.mem x hx
    simp [inTbl, q4, m1, m2, m5, m6]
  rw [if_pos ha]
  unfold tblT rowT
  refine congrArg (fun x => some (AV.sl 83 x)) ?_
  refine List.map_congr_left fun f _ => ?_
  refine congrArg (AV.sl 82) ?_
  exact List.map_congr_left fun i _ => ptr_last ok.up f i
theorem tblT_get {l : List St4} {S N : Int} {f : Nat} (h : f < S.toNat) : (tblT l S N)[f]? = some (.sl 82 (rowT l N f)) := by simp [tblT, h]
theorem rowT_get {l : List St4} {N : Int} {f i : Nat} (h : i < N.toNat) : (rowT l N f)[i]? = some (ptr (stp l f i)) := by simp [rowT, h]
theorem castP_ptr {R : Type} (x : Option St4) (F : AV → Option R) : castP (ptr x) F = F (ptr x) := by cases x <;> rfl
theorem castNil_ptr {R : Type} (x : Option St4) (F : Bool → Option R) : castNil (ptr x) F = F x.isNone := by cases x <;> rfl
theorem castRef_ptr {R : Type} (s : St4) (F : List AV → Option R) : castRef (ptr (some s)) F = F [I s.f, I s.i, I s.o, I s.t] := rfl
theorem castRef_ref {R : Type} (l : List AV) (F : List AV → Option R) : castRef (.ref l) F = F l := rfl
end Go.Proofs.YtahifpeggdcamaaGreatDoor

/- The least word by which two machines differ: the plain search; the model's function and the reference's. -/
namespace Go.Proofs.YtahifpeggdcamaaGreatDoor
open Go.Dam
set_option linter.unusedVariables false
set_option linter.unusedSimpArgs false
/-- So many numbers are below n. -/
theorem nodup_le : ∀ (n : Nat) (l : List Nat), l.Nodup → (∀ x ∈ l, x < n) → l.length ≤ n
  | 0, l, _, h => by
    cases l with
    | nil => simp
    | cons a l => have := h a (by simp); omega
  | n + 1, l, hd, h => by
    by_cases hm : n ∈ l
    · have h1 := nodup_le n (l.erase n) (hd.erase n) fun x hx => by
        have := (hd.mem_erase_iff).1 hx
        have := h x this.2
        omega
      have h2 := List.length_erase_of_mem hm
      have h3 : 0 < l.length := List.length_pos_of_mem hm
      omega
    · have := nodup_le n l hd fun x hx => by
        have := h x hx
        have : x ≠ n := fun e => hm (e ▸ hx)
        omega
      omega
end Go.Proofs.YtahifpeggdcamaaGreatDoor

/- The law ModelDifferences. -/
namespace Go.Proofs.YtahifpeggdcamaaGreatDoor
open Go.Dam
set_option linter.unusedVariables false
set_option linter.unusedSimpArgs false
end Go.Proofs.YtahifpeggdcamaaGreatDoor

/- Right machines are accepted; the model's answers. -/
namespace Go.Proofs.YtahifpeggdcamaaGreatDoor
open Go.Dam
set_option linter.unusedVariables false
set_option linter.unusedSimpArgs false
theorem l40 (K : Nat) {S N O T : Int} {l : List St4} (ok : MaOk S N O T l) (w : List Int) (hw : ∀ n ∈ w, 0 ≤ n ∧ n < N) (hl : w.length ≤ 1000) : ∀ (k i : Nat) (f : Int) (a b : List Int), w.length - i < k → 0 ≤ f ∧ f < S → a.length ≤ i → b.length ≤ i →
    lp12_7 K k f (tblT l S N) (ints a) (ints b) (ints w) (w.length : Int) (i : Int) = some (.tup [.sl 3 (ints (a ++ (ansS l f (w.drop i)).1)), .sl 3 (ints (b ++ (ansS l f (w.drop i)).2)), I 0])
  | 0, i, f, a, b, h, _, _, _ => by omega
  | k + 1, i, f, a, b, h, hf, ha, hb => by
    unfold lp12_7 tr12_7
    by_cases hi : i < w.length
    · obtain ⟨n1, n2⟩ := hw _ (List.getElem_mem hi)
      have g1 : (tblT l S N)[f.toNat]? = some (.sl 82 (rowT l N f.toNat)) := tblT_get (by omega)
      have g2 : (rowT l N f.toNat)[w[i].toNat]? = some (ptr (stp l f w[i])) := by
        rw [rowT_get (by omega), show ((f.toNat : Nat) : Int) = f by omega, show ((w[i].toNat : Nat) : Int) = w[i] by omega]
      rw [show decide ((i : Int) < (w.length : Int)) = true by simpa using hi, List.drop_eq_getElem_cons hi]
      simp only [if_pos (Int.natCast_nonneg i), ints_get hi, castI_I, if_pos hf.1, g1, castL_L, if_pos n1, g2, castP_ptr, castNil_ptr]
      cases hs : stp l f w[i] with
      | none => simp [ansS, hs]
      | some s =>
        have hm := ok.mem s (stp_some hs).1
        have q1 : ((ints a).length + ([I s.o] : List AV).length) * 8 ≤ maxBytes := by
          have : (2000 : Nat) * 8 ≤ maxBytes := by decide
          simp only [ints_len, List.length_cons, List.length_nil]; omega
        have q2 : ((ints b).length + ([I s.t] : List AV).length) * 8 ≤ maxBytes := by
          have : (2000 : Nat) * 8 ≤ maxBytes := by decide
          simp only [ints_len, List.length_cons, List.length_nil]; omega
        simp only [Option.isNone_some, castRef_ptr, castRef_ref, List.getD_cons_zero, List.getD_cons_succ, castI_I, if_pos q1, if_pos q2]
        rw [wrapN (by omega), ints_snoc, ints_snoc]
        refine (l40 K ok w hw hl k (i + 1) s.t (a ++ [s.o]) (b ++ [s.t]) (by omega) ⟨hm.2.2.1, hm.2.2.2.1⟩ (by simp; omega) (by simp; omega)).trans ?_
        simp only [ansS, hs, List.append_assoc, List.singleton_append]
    · have hd : w.drop i = [] := List.drop_eq_nil_of_le (by omega)
      rw [show decide ((i : Int) < (w.length : Int)) = false by simpa using hi, hd]
      simp [ansS]
def ansE (S N O T : Int) (l : List St4) (f : Int) (w : List Int) : Int := orI [(machErr S N O T l).2, if within f 0 (w1 S) then 0 else 3, wordE w N 60]
theorem r40 {K : Nat} (S N O T : Int) (l : List St4) (f : Int) (w : List Int) (hl : l.length ≤ 4611686018427387904) (hw : w.length ≤ 4611686018427387904) (hK : l.length + w.length + 20 ≤ K) :
    run tab K 12 [eM S N O T l, I f, .sl 3 (ints w)] = some (if ansE S N O T l f w = 0 then .tup [.sl 3 (ints (ansS l f w).1), .sl 3 (ints (ansS l f w).2), I 0] else .tup [.sl 3 [], .sl 3 [], I (ansE S N O T l f w)]) := by
  obtain ⟨K, rfl⟩ := succK (show 1 ≤ K by omega)
  have e66 := r66 (K := K) S N O T l hl (by omega)
  have e69 := r69 (K := K) w hw N (by omega)
  have r3 : ∀ a b c : Int, run tab K 32 [.sl 29 [I a, I b, I c]] = some (I (orI [a, b, c])) := fun a b c => r61 [a, b, c] (by simp) (by simp; omega)
  have e : ∀ b : Bool, (if b = true then (0 : Int) else 3) = if b then 0 else 3 := fun _ => rfl
  by_cases h0 : ansE S N O T l f w = 0
  · rw [if_pos h0]
    have hz := orI_zero h0
    have z1 : (machErr S N O T l).2 = 0 := hz _ (by simp)
    have z2 : within f 0 (w1 S) = true := by
      have := hz (if within f 0 (w1 S) then 0 else 3) (by simp)
      cases hh : within f 0 (w1 S) with
      | true => rfl
      | false => rw [hh] at this; simp at this
    have z3 : wordE w N 60 = 0 := hz _ (by simp)
    have ok := maOk_of z1
    have e67 := r67 (K := K) (by omega) ok
    obtain ⟨s1, s2⟩ := ok.s
    obtain ⟨n1, n2⟩ := ok.n
    have z2' := z2
    rw [within_iff, show w1 S = S - 1 by unfold w1; rw [wrapI ⟨by omega, by omega⟩]] at z2'
    obtain ⟨w2, w3⟩ := wordE_ok z3
    have w4 : ∀ n ∈ w, 0 ≤ n ∧ n < N := fun n hn => by
      have := w3 n hn
      rw [within_iff, show w1 N = N - 1 by unfold w1; rw [wrapI ⟨by omega, by omega⟩]] at this
      omega
    have main := l40 K ok w w4 (by omega) K 0 f [] [] (by omega) (by omega) (by simp) (by simp)
    have z2w : within f 0 (IntKind.i64.wrap (S - 1)) = true := z2
    unfold eM at *
    rw [eq12]; unfold sh12 tr12
    simp only [e66, castI_I, r57 (show 1 ≤ K by omega), z2w, castB_B, r62 (show 1 ≤ K by omega), e69, z1, z3, r3, if_true]
    rw [show (orI [0, 0, 0] != 0) = false from rfl]
    simp only [e67, castL_L, ints_len]
    exact main
  · rw [if_neg h0]
    unfold ansE at *
    have ew : within f 0 (IntKind.i64.wrap (S - 1)) = within f 0 (w1 S) := rfl
    unfold eM at *
    rw [eq12]; unfold sh12 tr12
    simp only [e66, castI_I, r57 (show 1 ≤ K by omega), ew, castB_B, r62 (show 1 ≤ K by omega), e69, r3]
    rw [show (orI [(machErr S N O T l).2, if within f 0 (w1 S) = true then 0 else 3, wordE w N 60] != 0) = true by simpa using h0]
end Go.Proofs.YtahifpeggdcamaaGreatDoor

/- Completed machines are right machines; the search goes on them as before. -/
namespace Go.Proofs.YtahifpeggdcamaaGreatDoor
open Go.Dam
set_option linter.unusedVariables false
set_option linter.unusedSimpArgs false
end Go.Proofs.YtahifpeggdcamaaGreatDoor
