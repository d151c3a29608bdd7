/- A part of an interpreter of the model's code that is proved sound, and of laws told by it: DamN2. -/
import Derived.Test.YtahifpeggdcamaaDoorPpH1
set_option linter.unusedVariables false
set_option linter.unusedSimpArgs false
/- The table of a machine; machines completed: the model's function and the reference's; the law ModelCompletes. -/
namespace Go.Proofs.YtahifpeggdcamaaDoor
open Go.Dam
set_option linter.unusedVariables false
set_option linter.unusedSimpArgs false
def ptr : Option St4 → AV
  | some s => .ref [I s.f, I s.i, I s.o, I s.t]
  | none => .sc (.pointer none)
def rowT (l : List St4) (N : Int) (f : Nat) : List AV := (List.range N.toNat).map fun (i : Nat) => ptr (stp l f i)
def tblT (l : List St4) (S N : Int) : List AV := (List.range S.toNat).map fun (f : Nat) => .sl 122 (rowT l N f)
def q4 (s : St4) : Q4 := (s.f, s.i, s.o, s.t)
theorem decAll_steps : ∀ l : List St4, decAll (steps l) = some (l.map q4)
  | [] => rfl
  | s :: l => by
    have := decAll_steps l
    unfold steps at *
    simp only [List.map_cons, decAll, this]
    rfl
theorem ptr_last {l : List St4} (h : l.Pairwise ltS) (f i : Nat) : ptrQ (lastQ (l.map q4) f i) = ptr (stp l f i) := by
  unfold lastQ
  rw [← List.map_reverse, List.find?_map]
  have e : ((fun x : Q4 => x.1 == (f : Int) && x.2.1 == (i : Int)) ∘ q4) = hit (f : Int) (i : Int) := rfl
  rw [e]
  cases hs : stp l f i with
  | none =>
    have : l.reverse.find? (hit (f : Int) (i : Int)) = none := by
      rw [List.find?_eq_none]
      intro x hx hh
      exact stp_none hs x (List.mem_reverse.1 hx) (hit_iff.1 hh)
    rw [this]; rfl
  | some s =>
    obtain ⟨a, b, c⟩ := stp_some hs
    cases hr : l.reverse.find? (hit (f : Int) (i : Int)) with
    | none =>
      rw [List.find?_eq_none] at hr
      exact absurd (hit_iff.2 ⟨b, c⟩) (hr s (List.mem_reverse.2 a))
    | some x =>
      have hx := List.find?_some hr
      rw [hit_iff] at hx
      have hm := List.mem_reverse.1 (List.mem_of_find?_eq_some hr)
      rw [up_unique h hm a (by omega) (by omega)]
      rfl
theorem r67 {K : Nat} (h : 1 ≤ K) {S N O T : Int} {l : List St4} (ok : MaOk S N O T l) : run tab K 67 [eM S N O T l] = some (.sl 121 (tblT l S N)) := by
  obtain ⟨K, rfl⟩ := succK h
  obtain ⟨s1, s2⟩ := ok.s
  obtain ⟨n1, n2⟩ := ok.n
  have hl := ok.len
  rw [show run tab (K + 1) 67 [eM S N O T l] = extTable 97 121 122 [eM S N O T l] from rfl]
  unfold extTable eM
  simp only []
  rw [show Nat.beq 97 97 = true from rfl, decide_eq_true (show 1 ≤ S by omega), decide_eq_true (show S ≤ 1000 by omega), decide_eq_true (show 1 ≤ N by omega), decide_eq_true (show N ≤ 1000 by omega), show Nat.ble (steps l).length 100000 = true by rw [steps_len]; simpa using (by omega : l.length ≤ 100000)]
  simp only [Bool.and_self, if_true, decAll_steps]
  have ha : (l.map q4).all (inTbl S N) = true := by
    rw [List.all_map, List.all_eq_true]
    intro x hx
    obtain ⟨m1, m2, m3, m4, m5, m6, m7, m8⟩ := ok.mem x hx
    simp [inTbl, q4, m1, m2, m5, m6]
  rw [if_pos ha]
  unfold tblT rowT
  refine congrArg (fun x => some (AV.sl 121 x)) ?_
  refine List.map_congr_left fun f _ => ?_
  refine congrArg (AV.sl 122) ?_
  exact List.map_congr_left fun i _ => ptr_last ok.up f i
theorem tblT_get {l : List St4} {S N : Int} {f : Nat} (h : f < S.toNat) : (tblT l S N)[f]? = some (.sl 122 (rowT l N f)) := by simp [tblT, h]
theorem rowT_get {l : List St4} {N : Int} {f i : Nat} (h : i < N.toNat) : (rowT l N f)[i]? = some (ptr (stp l f i)) := by simp [rowT, h]
theorem castP_ptr {R : Type} (x : Option St4) (F : AV → Option R) : castP (ptr x) F = F (ptr x) := by cases x <;> rfl
theorem castNil_ptr {R : Type} (x : Option St4) (F : Bool → Option R) : castNil (ptr x) F = F x.isNone := by cases x <;> rfl
theorem castRef_ptr {R : Type} (s : St4) (F : List AV → Option R) : castRef (ptr (some s)) F = F [I s.f, I s.i, I s.o, I s.t] := rfl
theorem castRef_ref {R : Type} (l : List AV) (F : List AV → Option R) : castRef (.ref l) F = F l := rfl
end Go.Proofs.YtahifpeggdcamaaDoor
