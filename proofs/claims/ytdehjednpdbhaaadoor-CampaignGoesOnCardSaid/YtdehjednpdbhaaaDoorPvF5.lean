/- A part of an interpreter of the model's code that is proved sound, and of laws told by it: DamCt4. -/
import Derived.Test.YtdehjednpdbhaaaDoorPvF4
set_option linter.unusedVariables false
set_option linter.unusedSimpArgs false
/- Recovered: what is told of it holds; the second table is sound. -/
namespace Go.Proofs.YtdehjednpdbhaaaDoor
open Go.Dam Go.RowKit
set_option linter.unusedVariables false
set_option linter.unusedSimpArgs false
theorem ret3 {C : Tab} {G : Nat → Prop} {f t u x : Nat} (hres : C.res f = [t, u, x]) (hm : retMd C (C.roF f) (C.res f) = .tup [.uni .ro, .uni .ro, .uni .ro]) (hag : isAggT C t = some false) (hagu : isAggT C u = some false) (hagx : isAggT C x = some false)
    {v1 v2 v3 : Value} {a1 a2 a3 : AV} {base : Nat} {w : World} (h1 : Frz C G w v1 a1) (h2 : Frz C G w v2 a2) (h3 : Frz C G w v3 a3) : RetOk C (C.roF f) G base w (C.res f) (.tuple #[v1, v2, v3]) (.tup [a1, a2, a3]) := by
  refine ⟨?_, fun c j x u' k hx => ?_, fun j t' ht => ?_⟩
  · rw [hm]
    refine ⟨#[v1, v2, v3], _, rfl, rfl, rfl, fun c hc => ?_⟩
    have : c = 0 ∨ c = 1 ∨ c = 2 := by simp at hc; omega
    rcases this with rfl | rfl | rfl
    · exact .inl h1
    · exact .inl h2
    · exact .inl h3
  · rw [hm] at hx
    simp only [homeS] at hx
    obtain ⟨h1, _⟩ := own?_some hx
    exfalso
    have : ([Md.uni Own.ro, Md.uni Own.ro, Md.uni Own.ro].getD c (.uni .ro)) = .uni .ro := by
      match c with
      | 0 => rfl
      | 1 => rfl
      | 2 => rfl
      | _ + 3 => rfl
    rw [this] at h1
    simp only [Md.home1] at h1
    split at h1 <;> cases h1
  · rw [hres] at ht
    intro h
    have : t' = t ∨ t' = u ∨ t' = x := by
      match j with
      | 0 => left; simpa using ht.symm
      | 1 => right; left; simpa using ht.symm
      | 2 => right; right; simpa using ht.symm
      | _ + 3 => simp at ht
    rcases this with rfl | rfl | rfl
    · rw [hag] at h; simp at h
    · rw [hagu] at h; simp at h
    · rw [hagx] at h; simp at h
theorem wrC_get : ∀ (l : List Wr) (i j : Nat), i < l.length → j < 2 → ∃ v, (wrC l)[i * 2 + j]? = some v ∧ cellN ((l.map wA).getD i .undef) j = .sc v ∧ v.oneCell' = true
  | [], i, j, hi, _ => by simp at hi
  | w :: l, 0, 0, _, _ => ⟨_, rfl, rfl, rfl⟩
  | w :: l, 0, 1, _, _ => ⟨_, rfl, rfl, rfl⟩
  | w :: l, 0, j + 2, _, hj => by omega
  | w :: l, i + 1, j, hi, hj => by
    obtain ⟨v, h1, h2⟩ := wrC_get l i j (by simpa using hi) hj
    refine ⟨v, ?_, h2⟩
    rw [wrC_cons, show (i + 1) * 2 + j = (i * 2 + j) + 2 by omega]
    exact h1
set_option maxRecDepth 100000 in
theorem row57 {w : World} {base : Nat} {v : Value} {l : List Wr} (h : rowOf w base 57 2 v l.length (wrC l)) : OwnR tab (fun _ => False) base w v (.sl 57 (l.map wA)) := by
  have hi : tab.info 57 = some ([.sc (.int .i64 0), .sc (.string ByteArray.empty)], 2, 24) := rfl
  refine ⟨57, _, _, 2, 24, wrC l, rfl, hi, by rw [List.length_map]; exact h, fun i j hi' hj _ => ?_, fun i j hi' hj => ?_⟩
  · rw [List.length_map] at hi'
    obtain ⟨v, h1, h2, h3⟩ := wrC_get l i j hi' hj
    unfold elCell
    rw [show isAggT tab 57 = some true from rfl]
    simp only []
    rw [h2]
    rfl
  · rw [List.length_map] at hi'
    obtain ⟨v, h1, h2, h3⟩ := wrC_get l i j hi' hj
    refine ⟨v, h1, ?_⟩
    unfold elCell
    rw [show isAggT tab 57 = some true from rfl]
    simp only []
    rw [h2]
    exact Frz.sc _ h3
set_option maxRecDepth 100000 in
theorem call16 (Bs : List (List UInt8)) (h : W32 Bs) (hl : Bs.length ≤ 48) (w w1 : World) (hb1 : Below w.heap.size w w1) : Calls Tryd.prog 16 #[.string (sb Bs.flatten)] w1 fun e w' => ∃ A c, e = .returned (.slice A (entB Bs).length c) ∧ Below w1.heap.size w1 w' ∧ Frz tab (fun b => w.heap.size ≤ b ∧ b < w'.heap.size) w' (.slice A (entB Bs).length c) (.sl 46 ((entB Bs).map enA)) := by
  refine (calls_of (f := 16) rfl rfl (r16 (K := 1000001) (by omega) h hl) #[.string (sb Bs.flatten)] w1 rfl (fun j hj => by
    have : j = 0 := by simp at hj; omega
    subst this
    exact .inr (.sc _ rfl))).mono fun e w' he => ?_
  cases e with
  | returned v =>
    obtain ⟨G', hb, hG, hr⟩ := he
    have hr := hr.rep
    rw [show retMd tab (tab.roF 16) (tab.res 16) = .uni .own from rfl] at hr
    have ho : OwnR tab G' w1.heap.size w' v (.sl 46 ((entB Bs).map enA)) := by
      rcases hr with h | ⟨_, _, _, _, h, _⟩
      · exact h
      · cases h
    have hf : Frz tab (fun b => w.heap.size ≤ b ∧ b < w'.heap.size) w' v (.sl 46 ((entB Bs).map enA)) := ho.frz (fun b hb' => by
      have := hG b hb'
      have hs := hb1.size
      refine ⟨?_, this.1⟩
      by_cases hlt : b < w1.heap.size
      · exact (this.2 hlt).elim
      · omega) (fun k hk => by
      have := ho.lt k hk
      have hs := hb1.size
      exact ⟨by omega, this.2⟩)
    obtain ⟨A, cap, s, b', z', ad, cv, v1, _⟩ := frz_sl (.inr hf)
    rw [List.length_map] at v1
    subst v1
    exact ⟨A, cap, rfl, hb, hf⟩
  | _ => exact he.elim
set_option maxRecDepth 100000 in
theorem rc_con {args : List AV} {r : AV} (h : extRc args = some r) : ContractL tab2 Tryd.prog 8 args r := by
  unfold extRc at h
  split at h
  case h_2 => cases h
  rename_i s
  split at h
  case isFalse => cases h
  rename_i hc
  obtain ⟨hs1, hs2⟩ := hc
  simp only [Option.some.injEq] at h
  subst h
  obtain ⟨h32, hfl, hl48⟩ := blocks_back hs2 hs1
  obtain ⟨Bs, hBs⟩ : ∃ Bs, Bs = blocksL (bl s) := ⟨_, rfl⟩
  rw [← hBs] at h32 hfl hl48 ⊢
  have hsB : s = sb Bs.flatten := by rw [hfl]; rfl
  intro vals w Gin hlw hGin hargs
  have hv := args_sc (xs := [.string s]) hargs
  subst hv
  have hE := entB_le Bs
  have hwalk := rc_walk Bs (entB Bs).length Bs.length h32 rfl hl48 (by omega) w (fun v w' => Frz tab (fun b => w.heap.size ≤ b ∧ b < w'.heap.size) w' v (.sl 46 ((entB Bs).map enA))) (call15 Bs h32 hl48 w) (fun w1 hb1 => call16 Bs h32 hl48 w w1 hb1)
  rw [← hsB] at hwalk
  refine callsTo' Tryd.func8 (by kernel_rfl) (by kernel_rfl) hwalk fun e w' he => ?_
  obtain ⟨v16, v8, w2, rfl, hf, hb2, hb3, hrow⟩ := he
  have hsz := hb3.size
  have hsz2 := hb2.size
  refine ⟨_, rfl, fun b => w.heap.size ≤ b ∧ b < w'.heap.size, hb2.trans (hb3.mono hsz2), fun b hb => ⟨hb.2, fun hlt => by have := hb.1; omega⟩, ?_⟩
  have f1 : Frz tab2 (fun b => w.heap.size ≤ b ∧ b < w'.heap.size) w' v16 (.sl 46 ((entB Bs).map enA)) := (hf.mono (fun b hb => ⟨hb.1, by have := hb.2; omega⟩) (fun b hb => hb3.block b hb.2)).two
  have ho := row57 hrow
  have f2 : Frz tab2 (fun b => w.heap.size ≤ b ∧ b < w'.heap.size) w' v8 (.sl 57 ((rcN (entB Bs).length Bs Bs.length).map wA)) := (ho.frz (fun b hb => hb.elim) (fun k hk => by
    have := ho.lt k hk
    exact ⟨by omega, this.2⟩)).two
  exact ret3 (C := tab2) rfl rfl rfl rfl rfl f1 f2 (Frz.sc _ rfl)
set_option maxRecDepth 100000 in
theorem tab2_ok2 : Tab.Ok2 tab2 Tryd.prog := ⟨tab_ok2.mixed, fun f fn h he => tab_ok2.res f fn h (ext2_none he), fun f fn h he => tab_ok2.plans f fn h (ext2_none he), fun f fn h he => tab_ok2.copies f fn h (ext2_none he), fun f g h args r hr => by
  have h : ext2 f = some g := h
  unfold ext2 at h
  split at h
  · cases h
  · cases h
  · cases h; exact wr_con hr
  · cases h; exact rc_con hr
  · cases h; exact jn_con hr
  · cases h
    exact run_two tab_ok tab_ok2 tab_eq (fun w hw => trivial) KB f args r hr, fun _ _ _ _ => trivial⟩
theorem run2 (K f : Nat) (args : List AV) (h : ext2 f = some (run tab KB f)) : run tab2 (K + 1) f args = run tab KB f args := by
  have : tab2.ext f = some (run tab KB f) := h
  conv => lhs; unfold run
  rw [this]
end Go.Proofs.YtdehjednpdbhaaaDoor
