/- A part of an interpreter of the model's code that is proved sound, and of laws told by it: DamTb2, DamCt3. -/
import Derived.Test.YtdehjednpdbhaaaDoorPvF3
import Derived.Test.YtdehjednpdbhaaaDoorPvC7
set_option linter.unusedVariables false
set_option linter.unusedSimpArgs false
/- The second table: the law itself, over what the first tells. -/
namespace Go.Proofs.YtdehjednpdbhaaaDoor
open Go.Dam Go.RowKit
set_option linter.unusedVariables false
set_option linter.unusedSimpArgs false
def KB : Nat := 1000000
noncomputable def ext2 (f : Nat) : Option (List AV → Option AV) := match f with
  | 3 => none
  | 4 => none
  | 7 => some extWr
  | 8 => some extRc
  | 13 => some extJn
  | f => some (run tab KB f)
noncomputable def tab2 : Tab := tab.two ext2 (fun _ => True)
set_option maxRecDepth 100000 in
theorem ext2_none {f : Nat} (h : ext2 f = none) : tabExt f = none := by
  unfold ext2 at h
  split at h
  all_goals first | rfl | cases h
theorem tab2_ok : Tab.Ok tab2 Tryd.prog := ⟨fun f fn h he => tab_ok.fn f fn h (ext2_none he), tab_ok.ty, tab_ok.info, tab_ok.elem, tab_ok.fld, tab_ok.zsl⟩
theorem tab2_eq : EqOk tab2 Tryd.prog := tab_eq
theorem tab_run (K : Nat) (w : World) : CallOk tab Tryd.prog w (run tab K) := run_ok tab_ok tab_ok2 tab_eq K w trivial
theorem calls_of {K f : Nat} {args : List AV} {r : AV} (hext : tab.ext f = none) (hsh : tab.share f = []) (h : run tab (K + 1) f args = some r) (vals : Array Value) (w : World) (hv : vals.toList.length = args.length) (hf : ∀ j, j < args.length → FrzV tab (fun b => b < w.heap.size) w (vals.toList.getD j undef) (args.getD j .undef)) :
    Calls Tryd.prog f vals w fun | .returned v, w' => (∃ G', Below w.heap.size w w' ∧ (∀ b, G' b → b < w'.heap.size ∧ (b < w.heap.size → False)) ∧ RetOk tab (tab.roF f) G' w.heap.size w' (tab.res f) v r) | _, _ => False :=
  (run_calls tab_ok tab_ok2 tab_eq (fun w _ => tab_run K w) hext h vals w (fun _ => False) trivial (fun _ h => h.elim) ⟨hv, fun j hj => ⟨hf j hj, fun hb => by rw [hsh] at hb; cases hb⟩⟩).2
theorem ret_pair {G : Nat → Prop} {base : Nat} {w : World} {f t u : Nat} {ro : Bool} {v : Value} {n m : Value} (hm : retMd tab ro [t, u] = .tup [.uni .ro, .uni .ro]) (h : RetOk tab ro G base w [t, u] v (.tup [.sc n, .sc m])) : v = .tuple #[n, m] := by
  have h1 := h.rep
  rw [hm] at h1
  obtain ⟨vs, la, rfl, e, hs, hc⟩ := h1
  cases e
  have h2 : vs.size = 2 := by
    have := hs
    simp at this
    omega
  have a0 := hc 0 (by simp)
  have a1 := hc 1 (by simp)
  have e0 : vs.getD 0 undef = n := by
    rcases a0 with h | ⟨_, _, _, _, h, _⟩
    · exact frzVsc (.inr h)
    · cases h
  have e1 : vs.getD 1 undef = m := by
    rcases a1 with h | ⟨_, _, _, _, h, _⟩
    · exact frzVsc (.inr h)
    · cases h
  congr 1
  apply Array.ext
  · simpa using h2
  · intro i hi hj
    have : i = 0 ∨ i = 1 := by omega
    rcases this with rfl | rfl
    · simpa [hi] using e0
    · simpa [hi] using e1
/-- JournalOf. -/
theorem ret2 {C : Tab} {f t u : Nat} (hres : C.res f = [t, u]) (hm : retMd C (C.roF f) (C.res f) = .tup [.uni .ro, .uni .ro]) (hag : isAggT C t = some false) (hagu : isAggT C u = some false)
    {n v : Value} (h1 : n.oneCell' = true) (h2 : v.oneCell' = true) {base : Nat} {w : World} : RetOk C (C.roF f) (fun _ => False) base w (C.res f) (.tuple #[n, v]) (.tup [.sc n, .sc v]) := by
  refine ⟨?_, fun c j x u' k hx => ?_, fun j t' ht => ?_⟩
  · rw [hm]
    refine ⟨#[n, v], _, rfl, rfl, rfl, fun c hc => ?_⟩
    have : c = 0 ∨ c = 1 := by simp at hc; omega
    rcases this with rfl | rfl
    · exact .inl (Frz.sc _ h1)
    · exact .inl (Frz.sc _ h2)
  · rw [hm] at hx
    simp only [homeS] at hx
    obtain ⟨h1, _⟩ := own?_some hx
    exfalso
    have : ([Md.uni Own.ro, Md.uni Own.ro].getD c (.uni .ro)) = .uni .ro := by
      match c with
      | 0 => rfl
      | 1 => rfl
      | _ + 2 => rfl
    rw [this] at h1
    simp only [Md.home1] at h1
    split at h1 <;> cases h1
  · rw [hres] at ht
    intro h
    have : t' = t ∨ t' = u := by
      match j with
      | 0 => left; simpa using ht.symm
      | 1 => right; simpa using ht.symm
      | _ + 2 => simp at ht
    rcases this with rfl | rfl
    · rw [hag] at h; simp at h
    · rw [hagu] at h; simp at h
set_option maxRecDepth 100000 in
theorem jn_con {args : List AV} {r : AV} (h : extJn args = some r) : ContractL tab2 Tryd.prog 13 args r := by
  unfold extJn at h
  split at h
  case h_2 => cases h
  rename_i l
  split at h
  case h_2 => cases h
  rename_i es hes
  split at h
  case isFalse => cases h
  rename_i hc
  obtain ⟨hl48, herr⟩ := hc
  simp only [Option.some.injEq] at h
  subst h
  have hl := allOf_some enOf_some hes
  subst hl
  intro vals w Gin hlw hGin hargs
  have hsz : vals.size = 1 := by have := hargs.1; simpa using this
  have hfz := (hargs.2 0 (by simp)).1.back
  obtain ⟨A, cap, s, b', z', ad, cv, v1, hi, hcap, hA, hcc⟩ := frz_sl hfz
  have hvals : vals = #[.slice A (es.map enA).length cap] := by
    apply Array.ext
    · simpa using hsz
    · intro i h1 h2
      have : i = 0 := by simp at h2; omega
      subst this
      simpa [List.getD_eq_getElem?_getD, h1] using v1
  subst hvals
  have hs4 : s = 4 := by
    have : tab.info 46 = some (_, 4, _) := rfl
    rw [this] at hi
    cases hi; rfl
  subst hs4
  obtain ⟨i18, e18⟩ := r18 (K := 1000001) (by omega) es (by omega)
  rw [herr] at e18
  have h18 : Calls Tryd.prog 18 #[.slice A (es.map enA).length cap] w fun e w' => (∃ i, e = .returned (.tuple #[.int .i64 i, .int .i64 0])) ∧ Below w.heap.size w w' := by
    refine (calls_of (f := 18) rfl rfl e18 #[.slice A (es.map enA).length cap] w rfl (fun j hj => by
      have : j = 0 := by simp at hj; omega
      subst this
      exact hfz)).mono fun e w' he => ?_
    cases e with
    | returned v =>
      obtain ⟨G', hb, _, hr⟩ := he
      have hr : RetOk tab (tab.roF 18) G' w.heap.size w' [3, 30] v (.tup [.sc (.int .i64 i18), .sc (.int .i64 0)]) := hr
      have := ret_pair (f := 18) rfl hr
      exact ⟨⟨i18, by rw [this]⟩, hb⟩
    | _ => exact he.elim
  have hnm : ∀ e ∈ es, e.nm.length ≤ 22 := fun e he => by
    have := nm_len ((errL_zero es).mp herr e he)
    omega
  have main : Calls Tryd.prog 13 #[.slice A (es.map enA).length cap] w fun e w' => e = .returned (.tuple #[.string (sb (jrn es).flatten), .int .i64 0]) ∧ Below w.heap.size w w' := by
    cases hes0 : es with
    | nil =>
      rw [hes0] at h18
      exact jn_nil A cap w h18
    | cons t ts =>
      rw [← hes0]
      have hpos : 0 < es.length := by rw [hes0]; simp
      obtain ⟨rfl, hS, hsp⟩ := hA (by rw [List.length_map]; exact hpos)
      obtain ⟨bk, o, sp⟩ := ad
      have hsp : sp = none := hsp
      subst hsp
      have cell : ∀ j i, j < es.length → i < 4 → ∀ v, cellN (enA (enD es j)) i = .sc v → w.cell? ⟨bk, o + j * 4 + i, none⟩ = some v := fun j i hj hi3 v hv => by
        obtain ⟨c1, c2⟩ := hcc j i (by rw [List.length_map]; exact hj) hi3
        have he : elCell tab 46 ((es.map enA).getD j .undef) i = .sc v := by
          unfold elCell
          rw [show isAggT tab 46 = some true from rfl, List.getD_eq_getElem?_getD, List.getElem?_map, List.getElem?_eq_getElem hj]
          show cellN (enA es[j]) i = _
          rw [← enD_get es j hj]
          exact hv
        rw [he] at c2
        have : cv j i = v := frzVsc (.inr c2)
        rw [this] at c1
        have ha : Addr.add ⟨bk, o, none⟩ (j * 4 + i) = ⟨bk, o + j * 4 + i, none⟩ := by
          unfold Addr.add
          simp [Nat.add_assoc]
        rw [ha] at c1
        exact c1
      have hcell : ∀ j, j < es.length → w.cell? ⟨bk, o + j * 4, none⟩ = some (.string (sb (enD es j).nm)) ∧ w.cell? ⟨bk, o + j * 4 + 1, none⟩ = some (.int .i64 (enD es j).dg) ∧ w.cell? ⟨bk, o + j * 4 + 2, none⟩ = some (.int .i64 (enD es j).vd) ∧ w.cell? ⟨bk, o + j * 4 + 3, none⟩ = some (.int .i64 (enD es j).tn) := fun j hj =>
        ⟨cell j 0 hj (by omega) _ rfl, cell j 1 hj (by omega) _ rfl, cell j 2 hj (by omega) _ rfl, cell j 3 hj (by omega) _ rfl⟩
      have hbk : bk < w.heap.size := World.block_lt_of_cell? _ _ (hcell 0 hpos).1
      exact jn_walk bk o cap _ es (by rw [List.length_map]) (by rw [List.length_map]; exact hl48) w hnm h18 hcell hbk hcap
  refine callsTo' Tryd.func13 (by kernel_rfl) (by kernel_rfl) main fun e w' he => ?_
  obtain ⟨rfl, hbel⟩ := he
  exact ⟨_, rfl, fun _ => False, hbel, fun _ h => h.elim, ret2 (C := tab2) rfl rfl rfl rfl rfl rfl⟩
end Go.Proofs.YtdehjednpdbhaaaDoor

/- Written: what is told of it holds. -/
namespace Go.Proofs.YtdehjednpdbhaaaDoor
open Go.Dam Go.RowKit
set_option linter.unusedVariables false
set_option linter.unusedSimpArgs false
theorem wD_get (ws : List Wr) (k : Nat) (h : k < ws.length) : wD ws k = ws[k] := by
  unfold wD
  rw [List.getD_eq_getElem?_getD, List.getElem?_eq_getElem h]
  rfl
theorem kD_get (ws : List Nat) (k : Nat) (h : k < ws.length) : kD ws k = ws[k] := by
  unfold kD
  rw [List.getD_eq_getElem?_getD, List.getElem?_eq_getElem h]
  rfl
theorem frzV_up {w w1 : World} {v : Value} {a : AV} (h : FrzV tab (fun b => b < w.heap.size) w v a) (hb : Below w.heap.size w w1) : FrzV tab (fun b => b < w1.heap.size) w1 v a :=
  h.mono (fun b hb' => Nat.lt_of_lt_of_le hb' hb.size) (fun b hb' => hb.block b hb')
set_option maxRecDepth 100000 in
theorem call15 (Bs : List (List UInt8)) (h : W32 Bs) (hl : Bs.length ≤ 48) (w : World) : Calls Tryd.prog 15 #[.string (sb Bs.flatten)] w fun e w' => e = .returned (.int .i64 0) ∧ Below w.heap.size w w' := by
  refine (calls_of (f := 15) rfl rfl (r15' (K := 1000001) (by omega) h hl) #[.string (sb Bs.flatten)] w rfl (fun j hj => by
    have : j = 0 := by simp at hj; omega
    subst this
    exact .inr (.sc _ rfl))).mono fun e w' he => ?_
  cases e with
  | returned v =>
    obtain ⟨G', hb, _, hr⟩ := he
    have := hr.rep
    rw [show tab.res 15 = [30] from rfl] at this
    exact ⟨by rw [RepM.sc this], hb⟩
  | _ => exact he.elim
set_option maxRecDepth 100000 in
theorem wr_con {args : List AV} {r : AV} (h : extWr args = some r) : ContractL tab2 Tryd.prog 7 args r := by
  unfold extWr at h
  split at h
  case h_2 => cases h
  rename_i s l m
  split at h
  case h_2 => cases h
  rename_i ws ks hws hks
  split at h
  case isFalse => cases h
  rename_i hc
  obtain ⟨hs1, hs2, hw96, hkn, hwo, hko⟩ := hc
  simp only [Option.some.injEq] at h
  subst h
  have hl := allOf_some wrOf_some hws
  subst hl
  have hm : m = nI ks := allOf_some nOf_some hks
  subst hm
  obtain ⟨h32, hfl, hl48⟩ := blocks_back hs2 hs1
  obtain ⟨Bs, hBs⟩ : ∃ Bs, Bs = blocksL (bl s) := ⟨_, rfl⟩
  rw [← hBs] at h32 hfl hl48
  have hsB : s = sb Bs.flatten := by rw [hfl]; rfl
  rw [← hfl] at hs1 ⊢
  have hw0 : ∀ x ∈ ws, x.1 < 48 ∧ x.2.length = 32 := fun x hx => by
    have := List.all_eq_true.mp hwo x hx
    unfold okWr at this
    rw [Bool.and_eq_true, decide_eq_true_iff, decide_eq_true_iff] at this
    exact this
  have hk0 : ∀ k ∈ ks, k ≤ 32 := fun k hk => by
    have := List.all_eq_true.mp hko k hk
    exact of_decide_eq_true this
  intro vals w Gin hlw hGin hargs
  have hsz : vals.size = 3 := by have := hargs.1; simpa using this
  have f0 := (hargs.2 0 (by simp)).1.back
  have f1 := (hargs.2 1 (by simp)).1.back
  have f2 := (hargs.2 2 (by simp)).1.back
  have v0 : vals.toList.getD 0 undef = .string s := frzVsc f0
  obtain ⟨A, cap, sz, b', z', ad, cv, v1, hi, hcap, hA, hcc⟩ := frz_sl f1
  obtain ⟨Aq, capq, szq, bq', zq', adq, cvq, v2, hiq, hcapq, hAq, hccq⟩ := frz_sl f2
  have hnl : (nI ks).length = ks.length := by unfold nI; rw [List.length_map]
  have hvals : vals = #[.string s, .slice A (ws.map wA).length cap, .slice Aq (nI ks).length capq] := by
    apply Array.ext
    · simpa using hsz
    · intro i h1 h2
      have : i = 0 ∨ i = 1 ∨ i = 2 := by simp at h2; omega
      rcases this with rfl | rfl | rfl
      · simpa [List.getD_eq_getElem?_getD, h1] using v0
      · simpa [List.getD_eq_getElem?_getD, h1] using v1
      · simpa [List.getD_eq_getElem?_getD, h1] using v2
  subst hvals
  have hs2' : sz = 2 := by
    have : tab.info 57 = some (_, 2, _) := rfl
    rw [this] at hi
    cases hi; rfl
  have hs1' : szq = 1 := by
    have : tab.info 3 = some (_, 1, _) := rfl
    rw [this] at hiq
    cases hiq; rfl
  subst hs2' hs1'
  have h15 := call15 Bs h32 hl48 w
  have e20 := r20 (K := 1000001) (by omega) ws ks hw96 hw0 hkn hk0
  have h20 : ∀ w1, Below w.heap.size w w1 → Calls Tryd.prog 20 #[.slice A (ws.map wA).length cap, .slice Aq (nI ks).length capq] w1 fun e w' => e = .returned (.int .i64 0) ∧ Below w1.heap.size w1 w' := fun w1 hb1 => by
    refine (calls_of (f := 20) rfl rfl e20 #[.slice A (ws.map wA).length cap, .slice Aq (nI ks).length capq] w1 rfl (fun j hj => by
      have : j = 0 ∨ j = 1 := by simp at hj; omega
      rcases this with rfl | rfl
      · exact frzV_up f1 hb1
      · exact frzV_up f2 hb1)).mono fun e w' he => ?_
    cases e with
    | returned v =>
      obtain ⟨G', hb, _, hr⟩ := he
      have := hr.rep
      rw [show tab.res 20 = [30] from rfl] at this
      exact ⟨by rw [RepM.sc this], hb⟩
    | _ => exact he.elim
  have main : Calls Tryd.prog 7 #[.string s, .slice A (ws.map wA).length cap, .slice Aq (nI ks).length capq] w fun e w' => e = .returned (.tuple #[.string (sb (wrF Bs.flatten ws ks)), .int .i64 0]) ∧ Below w.heap.size w w' := by
    rw [List.length_map] at hcap hA hcc h20 ⊢
    have hkl : (nI ks).length = ws.length := by rw [hnl, hkn]
    rw [hkl] at hcapq hAq hccq h20 ⊢
    rw [hsB]
    cases hes0 : ws with
    | nil =>
      rw [hes0] at h20
      have hk : ks = [] := List.eq_nil_of_length_eq_zero (by rw [hkn, hes0]; rfl)
      rw [hk]
      exact wr_nil Bs.flatten A Aq cap capq hs1 w h15 h20
    | cons t ts =>
      rw [← hes0]
      have hpos : 0 < ws.length := by rw [hes0]; simp
      obtain ⟨rfl, hS, hsp⟩ := hA hpos
      obtain ⟨bk, o, sp⟩ := ad
      have hsp : sp = none := hsp
      subst hsp
      obtain ⟨rfl, hSq, hspq⟩ := hAq hpos
      obtain ⟨bq, oq, spq⟩ := adq
      have hspq : spq = none := hspq
      subst hspq
      have cell : ∀ j i, j < ws.length → i < 2 → ∀ v, cellN (wA (wD ws j)) i = .sc v → w.cell? ⟨bk, o + j * 2 + i, none⟩ = some v := fun j i hj hi3 v hv => by
        obtain ⟨c1, c2⟩ := hcc j i hj hi3
        have he : elCell tab 57 ((ws.map wA).getD j .undef) i = .sc v := by
          unfold elCell
          rw [show isAggT tab 57 = some true from rfl, List.getD_eq_getElem?_getD, List.getElem?_map, List.getElem?_eq_getElem hj]
          show cellN (wA ws[j]) i = _
          rw [← wD_get ws j hj]
          exact hv
        rw [he] at c2
        have : cv j i = v := frzVsc (.inr c2)
        rw [this] at c1
        have ha : Addr.add ⟨bk, o, none⟩ (j * 2 + i) = ⟨bk, o + j * 2 + i, none⟩ := by
          unfold Addr.add
          simp [Nat.add_assoc]
        rw [ha] at c1
        exact c1
      have cellq : ∀ j, j < ws.length → w.cell? ⟨bq, oq + j, none⟩ = some (.int .i64 (kD ks j : Nat)) := fun j hj => by
        obtain ⟨c1, c2⟩ := hccq j 0 hj (by omega)
        have he : elCell tab 3 ((nI ks).getD j .undef) 0 = .sc (.int .i64 (kD ks j : Nat)) := by
          unfold elCell nI
          rw [show isAggT tab 3 = some false from rfl, List.getD_eq_getElem?_getD, List.getElem?_map, List.getElem?_eq_getElem (by omega), kD_get ks j (by omega)]
          rfl
        rw [he] at c2
        have : cvq j 0 = .int .i64 (kD ks j : Nat) := frzVsc (.inr c2)
        rw [this] at c1
        have ha : Addr.add ⟨bq, oq, none⟩ (j * 1 + 0) = ⟨bq, oq + j, none⟩ := by
          unfold Addr.add
          simp
        rw [ha] at c1
        exact c1
      have hcell : ∀ j, j < ws.length → w.cell? ⟨bk, o + j * 2, none⟩ = some (.int .i64 ((wD ws j).1 : Nat)) ∧ w.cell? ⟨bk, o + j * 2 + 1, none⟩ = some (.string (sb (wD ws j).2)) ∧ w.cell? ⟨bq, oq + j, none⟩ = some (.int .i64 (kD ks j : Nat)) := fun j hj =>
        ⟨cell j 0 hj (by omega) _ rfl, cell j 1 hj (by omega) _ rfl, cellq j hj⟩
      have hbk : bk < w.heap.size := World.block_lt_of_cell? _ _ (hcell 0 hpos).1
      have hbq : bq < w.heap.size := World.block_lt_of_cell? _ _ (hcell 0 hpos).2.2
      exact wr_walk Bs.flatten bk o cap ws.length bq oq capq ws ks rfl hw96 hkn hs1 w hw0 hk0 h15 h20 hcell hbk hbq hcap hcapq
  refine callsTo' Tryd.func7 (by kernel_rfl) (by kernel_rfl) main fun e w' he => ?_
  obtain ⟨rfl, hbel⟩ := he
  exact ⟨_, rfl, fun _ => False, hbel, fun _ h => h.elim, ret2 (C := tab2) rfl rfl rfl rfl rfl rfl⟩
end Go.Proofs.YtdehjednpdbhaaaDoor
