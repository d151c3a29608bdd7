/- A part of an interpreter of the model's code that is proved sound, and of laws told by it: DamL8, DamL9. -/
import Derived.Test.YtahifpeggdcamaaDoorPpE3
import Derived.Test.YtahifpeggdcamaaDoorPpD5
import Derived.Test.YtahifpeggdcamaaDoorPpC7
set_option linter.unusedVariables false
set_option linter.unusedSimpArgs false
/- The law ModelChecks, told by the interpreter. -/
namespace Go.Proofs.YtahifpeggdcamaaDoor
open Go.Dam
set_option linter.unusedVariables false
set_option linter.unusedSimpArgs false
end Go.Proofs.YtahifpeggdcamaaDoor

/- Arguments that are well formed are machines and models. -/
namespace Go.Proofs.YtahifpeggdcamaaDoor
open Go.Dam
set_option linter.unusedVariables false
set_option linter.unusedSimpArgs false
theorem wf_int {n0 : Int} {a : AV} (h : Wf tab (I n0) a) : ∃ n, a = I n := by
  cases h with
  | int k n0 n h => exact ⟨n, rfl⟩
theorem wf_sl {T : Nat} {l0 : List AV} {a : AV} (h : Wf tab (.sl T l0) a) : ∃ l z s b, a = .sl T l ∧ tabInfo T = some (z, s, b) ∧ l.length * b ≤ reachBytes ∧ ∀ x ∈ l, WfA tab T x := by
  cases h with
  | sl T l0 l z s b hi h1 h2 hag h =>
    refine ⟨l, z, s, b, rfl, hi, h2, fun x hx => ?_⟩
    obtain ⟨i, hil, rfl⟩ := List.getElem_of_mem hx
    have e : l.getD i .undef = l[i] := by simp [List.getD_eq_getElem?_getD, hil]
    exact ⟨z, s, b, hi, fun hA => by have := hag i hil hA; rwa [e] at this, fun j hj => by have := h i j hil hj; rwa [e] at this⟩
theorem wf_agg {t : Nat} {z : List AV} {s b : Nat} {a : AV} (h : WfA tab t a) (hi : tabInfo t = some (z, s, b)) (hag : aggC tab t = true) : ∃ la, a = .agg la ∧ la.length = s ∧ ∀ j, j < s → Wf tab (z.getD j .undef) (la.getD j .undef) := by
  obtain ⟨z', s', b', hi', h1, h2⟩ := h
  have hi'' : tabInfo t = some (z', s', b') := hi'
  rw [hi] at hi''; cases hi''
  obtain ⟨la, rfl, hl⟩ := h1 hag
  refine ⟨la, rfl, hl, fun j hj => ?_⟩
  have := h2 j hj
  rw [elCell_eq, if_pos hag] at this
  exact this
theorem wf_map {α : Type} (e : α → AV) (Q : α → Prop) : ∀ {l : List AV}, (∀ x ∈ l, ∃ s, x = e s ∧ Q s) → ∃ ss : List α, l = ss.map e ∧ ∀ s ∈ ss, Q s
  | [], _ => ⟨[], rfl, by simp⟩
  | x :: l, h => by
    obtain ⟨s, rfl, hq⟩ := h x (by simp)
    obtain ⟨ss, rfl, hs⟩ := wf_map e Q (l := l) fun y hy => h y (by simp [hy])
    exact ⟨s :: ss, rfl, fun t ht => by
      rcases List.mem_cons.1 ht with rfl | ht
      · exact hq
      · exact hs t ht⟩
theorem reach_max {n : Nat} (h : n ≤ reachBytes) : n ≤ maxBytes := Nat.le_trans h (by decide)
theorem dec97 {a : AV} (h : WfA tab 97 a) : ∃ s : St4, a = eS s ∧ True := by
  obtain ⟨la, rfl, hl, hc⟩ := wf_agg h rfl rfl
  match la, hl, hc with
  | [x0, x1, x2, x3], _, hc =>
    obtain ⟨n0, h0⟩ := wf_int (hc 0 (by omega)); obtain ⟨n1, h1⟩ := wf_int (hc 1 (by omega)); obtain ⟨n2, h2⟩ := wf_int (hc 2 (by omega)); obtain ⟨n3, h3⟩ := wf_int (hc 3 (by omega))
    simp only [List.getD_cons_zero, List.getD_cons_succ] at h0 h1 h2 h3
    subst h0 h1 h2 h3
    exact ⟨⟨n0, n1, n2, n3⟩, rfl, trivial⟩
theorem dec30 {a : AV} (h : WfA tab 30 a) : ∃ S N O T l, a = eM S N O T l ∧ l.length * 32 ≤ maxBytes := by
  obtain ⟨la, rfl, hl, hc⟩ := wf_agg h rfl rfl
  match la, hl, hc with
  | [x0, x1, x2, x3, x4], _, hc =>
    obtain ⟨n0, h0⟩ := wf_int (hc 0 (by omega)); obtain ⟨n1, h1⟩ := wf_int (hc 1 (by omega)); obtain ⟨n2, h2⟩ := wf_int (hc 2 (by omega)); obtain ⟨n3, h3⟩ := wf_int (hc 3 (by omega))
    obtain ⟨l4, z4, s4, b4, h4, i4, w4, d4⟩ := wf_sl (hc 4 (by omega))
    cases i4
    obtain ⟨g4, rfl, _⟩ := wf_map eS (fun _ => True) fun x hx => dec97 (d4 x hx)
    simp only [List.getD_cons_zero, List.getD_cons_succ] at h0 h1 h2 h3 h4
    subst h0 h1 h2 h3 h4
    simp only [List.length_map] at w4
    exact ⟨n0, n1, n2, n3, g4, rfl, reach_max w4⟩
end Go.Proofs.YtahifpeggdcamaaDoor
