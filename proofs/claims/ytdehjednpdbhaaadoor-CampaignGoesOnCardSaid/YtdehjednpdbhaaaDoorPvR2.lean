/- A part of an interpreter of the model's code that is proved sound, and of laws told by it: DamDec, DamLaw1. -/
import Derived.Test.YtdehjednpdbhaaaDoorPvF4
import Derived.Test.YtdehjednpdbhaaaDoorPvC7
import Derived.Test.YtdehjednpdbhaaaDoorPvH2
set_option linter.unusedVariables false
set_option linter.unusedSimpArgs false
/- Arguments that are well formed: sessions. -/
namespace Go.Proofs.YtdehjednpdbhaaaDoor
open Go.Dam
set_option linter.unusedVariables false
set_option linter.unusedSimpArgs false
theorem elCell_eq2 (t : Nat) (a : AV) (j : Nat) (h : aggC tab2 t = true) : elCell tab2 t a j = cellN a j := by
  unfold aggC at h
  unfold elCell
  cases hx : isAggT tab2 t with
  | none => rw [hx] at h; cases h
  | some b =>
    rw [hx] at h
    cases b with
    | true => rfl
    | false => cases h
theorem wf_list {α : Type} (g : α → AV) {T : Nat} (dec : ∀ a, WfA tab2 T a → ∃ t, a = g t) {l0 : List AV} {a : AV} (h : Wf tab2 (.sl T l0) a) : ∃ ts : List α, a = .sl T (ts.map g) := by
  cases h with
  | sl T l0 l z s b hi h1 h2 hag hc =>
    have hx : ∀ x ∈ l, ∃ t : α, x = g t := fun x hx => by
      obtain ⟨i, hil, rfl⟩ := List.getElem_of_mem hx
      have e : l.getD i .undef = l[i] := by simp [List.getD_eq_getElem?_getD, hil]
      exact dec _ ⟨z, s, b, hi, fun hA => by have := hag i hil hA; rwa [e] at this, fun j hj => by have := hc i j hil hj; rwa [e] at this⟩
    have hm : ∀ {l : List AV}, (∀ x ∈ l, ∃ t : α, x = g t) → ∃ ts : List α, l = ts.map g := fun {l} => by
      induction l with
      | nil => intro _; exact ⟨[], rfl⟩
      | cons x l ih =>
        intro h
        obtain ⟨t, rfl⟩ := h x (by simp)
        obtain ⟨ts, rfl⟩ := ih (fun y hy => h y (by simp [hy]))
        exact ⟨t :: ts, rfl⟩
    obtain ⟨ts, rfl⟩ := hm hx
    exact ⟨ts, rfl⟩
theorem dec46 (a : AV) (h : WfA tab2 46 a) : ∃ t : En, a = enA t := by
  obtain ⟨z, s, b, hi, h1, h2⟩ := h
  have hi' : tabInfo 46 = some (z, s, b) := hi
  cases hi'
  obtain ⟨la, rfl, hl⟩ := h1 rfl
  match la, hl with
  | [x0, x1, x2, x3], _ =>
    have c0 := h2 0 (by omega)
    have c1 := h2 1 (by omega)
    have c2 := h2 2 (by omega)
    have c3 := h2 3 (by omega)
    rw [elCell_eq2 _ _ _ rfl] at c0 c1 c2 c3
    have c0 : Wf tab2 (St ⟨#[]⟩) x0 := c0
    have c1 : Wf tab2 (I 0) x1 := c1
    have c2 : Wf tab2 (I 0) x2 := c2
    have c3 : Wf tab2 (I 0) x3 := c3
    cases c0 with
    | string _ s _ =>
      cases c1 with
      | int _ _ d _ =>
        cases c2 with
        | int _ _ v _ =>
          cases c3 with
          | int _ _ t _ => exact ⟨⟨bl s, d, v, t⟩, rfl⟩
theorem dec5 (a : AV) (h : WfA tab2 5 a) : ∃ t : {n : Nat // n < 256}, a = kA t.val := by
  obtain ⟨z, s, b, hi, h1, h2⟩ := h
  have hi' : tabInfo 5 = some (z, s, b) := hi
  cases hi'
  have c0 : Wf tab2 (.sc (.int .u8 0)) a := h2 0 (by omega)
  cases c0 with
  | int _ _ n hw =>
    have hw : 0 ≤ n ∧ n < 256 := by
      have e1 : IntKind.u8.min = 0 := rfl
      have e2 : IntKind.u8.max = 255 := rfl
      simp only [Lit.wf, Bool.and_eq_true, decide_eq_true_iff, e1, e2] at hw
      omega
    refine ⟨⟨n.toNat, by omega⟩, ?_⟩
    unfold kA
    rw [show ((n.toNat : Nat) : Int) = n by omega]
theorem dec27 (a : AV) (h : WfA tab2 27 a) : ∃ s : {s : Ses // ∀ n ∈ s.kp, n < 256}, a = sesA s.val := by
  obtain ⟨z, s, b, hi, h1, h2⟩ := h
  have hi' : tabInfo 27 = some (z, s, b) := hi
  cases hi'
  obtain ⟨la, rfl, hl⟩ := h1 rfl
  match la, hl with
  | [x0, x1], _ =>
    have c0 := h2 0 (by omega)
    have c1 := h2 1 (by omega)
    rw [elCell_eq2 _ _ _ rfl] at c0 c1
    have c0 : Wf tab2 (.sl 46 []) x0 := c0
    have c1 : Wf tab2 (.sl 5 []) x1 := c1
    obtain ⟨es, rfl⟩ := wf_list enA dec46 c0
    obtain ⟨kp, rfl⟩ := wf_list (fun t : {n : Nat // n < 256} => kA t.val) dec5 c1
    refine ⟨⟨⟨es, kp.map (·.val)⟩, fun n hn => ?_⟩, ?_⟩
    · obtain ⟨x, _, rfl⟩ := List.mem_map.mp hn
      exact x.property
    · unfold sesA
      rw [List.map_map]
      rfl
theorem dec22 (a : AV) (h : WfA tab2 22 a) : ∃ ss : List Ses, a = .sl 27 (ss.map sesA) ∧ ∀ s ∈ ss, ∀ n ∈ s.kp, n < 256 := by
  obtain ⟨z, s, b, hi, _, h2⟩ := h
  have hi' : tabInfo 22 = some (z, s, b) := hi
  cases hi'
  have c0 : Wf tab2 (.sl 27 []) a := h2 0 (by omega)
  obtain ⟨ss, rfl⟩ := wf_list (fun t : {s : Ses // ∀ n ∈ s.kp, n < 256} => sesA t.val) dec27 c0
  refine ⟨ss.map (·.val), by rw [List.map_map]; rfl, fun s hs => ?_⟩
  obtain ⟨x, _, rfl⟩ := List.mem_map.mp hs
  exact x.property
end Go.Proofs.YtdehjednpdbhaaaDoor

/- The law, of whatever argument. -/
namespace Go.Proofs.YtdehjednpdbhaaaDoor
open Go.Dam
theorem one_list {av : List AV} {n : Nat} (hl : av.length = n) (hn : n = 1) : ∃ a, av = [a] := by
  subst hn
  match av, hl with
  | [a], _ => exact ⟨a, rfl⟩
theorem lawv3 (av : List AV) (hl : av.length = [22].length) (h : ∀ j t, [22][j]? = some t → WfA tab2 t (av.getD j .undef)) : ∃ k, run tab2 k 3 av = some (.sc (.bool true)) := by
  obtain ⟨a, rfl⟩ := one_list hl rfl
  obtain ⟨ss, hn, hs⟩ := dec22 _ (h 0 22 rfl)
  have hn : a = .sl 27 (ss.map sesA) := hn
  subst hn
  exact ⟨_, law3 ss hs⟩
end Go.Proofs.YtdehjednpdbhaaaDoor
