/- A part of an interpreter of the model's code that is proved sound, and of laws told by it: DamMap. -/
import Derived.Test.YtdehjednpdbhaaaDoorPvC1
import Derived.Carry
import Derived.MapKept
set_option linter.unusedVariables false
set_option linter.unusedSimpArgs false
/- Maps of numbers, bools and strings: made, looked up, written. -/
namespace Go.Dam
open Go.RowKit
set_option linter.unusedVariables false
set_option linter.unusedSimpArgs false

theorem bytes_beq (a b : ByteArray) : (a == b) = true ↔ a = b := by
  show (a.data == b.data) = true ↔ _
  rw [beq_iff_eq]
  constructor
  · intro h; cases a; cases b; simp_all
  · intro h; rw [h]
def kd (d : TypeDesc) (v : Value) : Prop := match d with
  | .int k => ∃ n, v = .int k n
  | .bool => ∃ b, v = .bool b
  | .string => ∃ s, v = .string s
  | _ => False
def pr (e : MapEntry) : AV := .agg [.sc e.key, .sc e.val]
theorem kd_eq {d : TypeDesc} {a b : Value} (ha : kd d a) (hb : kd d b) : ∃ t, Instr.sameNow d a b = some t ∧ keyEq (.sc a) (.sc b) = t ∧ (t = true → a = b ∧ Instr.sameBits 10000 b a = true) := by
  unfold kd at ha hb
  split at ha
  · obtain ⟨n, rfl⟩ := ha
    obtain ⟨m, rfl⟩ := hb
    refine ⟨n == m, by simp [Instr.sameNow], rfl, fun h => ?_⟩
    have := eq_of_beq h
    subst this
    simp [Instr.sameBits]
  · obtain ⟨n, rfl⟩ := ha
    obtain ⟨m, rfl⟩ := hb
    refine ⟨n == m, rfl, rfl, fun h => ?_⟩
    have := eq_of_beq h
    subst this
    simp [Instr.sameBits]
  · obtain ⟨n, rfl⟩ := ha
    obtain ⟨m, rfl⟩ := hb
    refine ⟨n == m, rfl, rfl, fun h => ?_⟩
    have := (bytes_beq _ _).1 h
    subst this
    refine ⟨rfl, ?_⟩
    show (n == n) = true
    exact (bytes_beq _ _).2 rfl
  · exact ha.elim
theorem findNow_mget {d : TypeDesc} {k : Value} (hk : kd d k) : ∀ (es : List MapEntry) (i : Nat), (∀ e ∈ es, kd d e.key) →
    (∃ j v, Instr.findNow d k es i = some (some (i + j, v)) ∧ mget (.sc k) (es.map pr) = some (.sc v) ∧ (∃ e, es[j]? = some e ∧ e.key = k ∧ e.val = v) ∧ ∀ u, mset (.sc k) (.sc u) (es.map pr) = (es.modify j fun e : MapEntry => { e with key := k, val := u }).map pr) ∨
    (Instr.findNow d k es i = some none ∧ mget (.sc k) (es.map pr) = none ∧ ∀ u n, mset (.sc k) (.sc u) (es.map pr) = (es ++ [({ key := k, val := u, born := n } : MapEntry)]).map pr)
  | [], i, _ => .inr ⟨rfl, rfl, fun u n => rfl⟩
  | e :: es, i, h => by
    obtain ⟨t, h1, h2, h3⟩ := kd_eq hk (h e List.mem_cons_self)
    have hc0 : cellN (pr e) 0 = .sc e.key := rfl
    have hc1 : cellN (pr e) 1 = .sc e.val := rfl
    simp only [Instr.findNow, h1, List.map_cons, mget, mset, hc0, hc1, h2]
    cases t with
    | true =>
      obtain ⟨h4, _⟩ := h3 rfl
      exact .inl ⟨0, e.val, rfl, rfl, ⟨e, rfl, h4.symm, rfl⟩, fun u => rfl⟩
    | false =>
      rcases findNow_mget hk es (i + 1) fun e he => h e (List.mem_cons_of_mem _ he) with ⟨j, v, g1, g2, ⟨e', g3, g4⟩, g5⟩ | ⟨g1, g2, g3⟩
      · refine .inl ⟨j + 1, v, by rw [show i + (j + 1) = i + 1 + j by omega]; exact g1, g2, ⟨e', g3, g4⟩, fun u => ?_⟩
        simp only [g5 u, List.modify_succ_cons, List.map_cons]
      · refine .inr ⟨g1, g2, fun u n => ?_⟩
        simp only [g3 u n, List.cons_append, List.map_cons]

section
variable {C : Tab} {P : Program} {w0 : World} {Gin G : Nat → Prop} {gb : Nat → Nat} {fr : Fr} {ts : Array Value} {w : World} {ds : List Deferred} {r : AV} {Q : Exit → Act → World → Prop}
variable {dst : Option Nat} {type : Nat} {pos : String} {after : Array Edge} {guard : Option (Nat × Bool)} {K : Fr → Option AV} {call : Nat → List AV → Option AV}

theorem scV_kd {t : Nat} {d : TypeDesc} (hd : C.ty t = some d) {v : Value} : scV C t v ↔ kd d v := by
  unfold scV kd
  rw [hd]
  cases d <;> simp
theorem castSc_some {t : Nat} {a : AV} {R : Type} {K : AV → Option R} {r : R} (h : castSc C t a K = some r) : ∃ d v, C.ty t = some d ∧ kd d v ∧ a = .sc v ∧ K (.sc v) = some r := by
  unfold castSc at h
  split at h
  · rename_i k hd
    obtain ⟨n, ha, h⟩ := castI_some h
    exact ⟨_, _, hd, ⟨n, rfl⟩, ha, h⟩
  · rename_i hd
    obtain ⟨n, ha, h⟩ := castB_some h
    exact ⟨_, _, hd, ⟨n, rfl⟩, ha, h⟩
  · rename_i hd
    obtain ⟨n, ha, h⟩ := castS_some h
    exact ⟨_, _, hd, ⟨n, rfl⟩, ha, h⟩
  · simp at h
theorem kd_one {d : TypeDesc} {v : Value} (h : kd d v) : v.oneCell' = true ∧ v.ownBlock = none := by
  unfold kd at h
  split at h
  · obtain ⟨n, rfl⟩ := h; exact ⟨rfl, rfl⟩
  · obtain ⟨n, rfl⟩ := h; exact ⟨rfl, rfl⟩
  · obtain ⟨n, rfl⟩ := h; exact ⟨rfl, rfl⟩
  · exact h.elim
theorem run_checkKey {b : Bool} {t : Nat} {d : TypeDesc} (hd : P.underlying t = some d) {v : Value} (h : kd d v) : (Instr.checkKey b 10000 t v).run P w = .ok () w := by
  have : (10000 : Nat) = 9999 + 1 := rfl
  rw [this]
  unfold Instr.checkKey
  simp only [Sem.run_bind, run_underlying hd, Result.andThen_ok]
  unfold kd at h
  split at h
  · obtain ⟨n, rfl⟩ := h; rfl
  · obtain ⟨n, rfl⟩ := h; rfl
  · obtain ⟨n, rfl⟩ := h; rfl
  · exact h.elim
theorem run_findKey {t : Nat} {d : TypeDesc} (hd : P.underlying t = some d) {v : Value} {es : List MapEntry} {x : Option (Nat × Value)} (h : Instr.findNow d v es 0 = some x) : (Instr.findKey t v es).run P w = .ok x w := by
  unfold Instr.findKey
  simp only [Sem.run_bind, run_underlying hd, Result.andThen_ok, h]
  rfl
theorem map?_some {d T : Nat} {l : List AV} (h : fr.map? d T = some l) : fr.box? d = some [(.mp T l, .ro)] := by
  unfold Fr.map? at h
  split at h
  · rename_i T' l' hb
    split at h
    · rename_i ht
      have := Nat.eq_of_beq_eq_true ht
      subst this
      cases h
      exact hb
    · cases h
  · cases h
theorem Inv.map (h : Inv C w0 Gin G gb fr ts w) {d T : Nat} {l : List AV} (hm : fr.map? d T = some l) {kt vt : Nat} (hT : C.ty T = some (.map kt vt)) {kD vD : TypeDesc} (hk : C.ty kt = some kD) (hv : C.ty vt = some vD) :
    ∃ es n, w.heap[gb d]? = some (.map es n) ∧ l = es.toList.map pr ∧ ∀ e ∈ es.toList, kd kD e.key ∧ kd vD e.val := by
  have hb := map?_some hm
  have := (h.boxes d _ hb).1
  rcases this with ⟨c, e, _, hs, hr⟩ | ⟨T', l', es, n, e, hh, kt', vt', hT', hl, he⟩
  · have := hr 0 (by simp)
    exact this.noMp.elim
  · simp only [List.cons.injEq, Prod.mk.injEq, AV.mp.injEq, and_true] at e
    obtain ⟨rfl, rfl⟩ := e
    change C.ty T = _ at hT'
    rw [hT] at hT'; cases hT'
    exact ⟨es, n, hh, hl, fun e hm => ⟨(scV_kd hk).1 (he e hm).1, (scV_kd hv).1 (he e hm).2⟩⟩
theorem zeroSc_run (ok : Tab.Ok C P) {t : Nat} {d : TypeDesc} (hd : C.ty t = some d) {v : Value} (hk : kd d v) (h : zeroSc C t = .sc v) (w : World) : (zeroValue t).run P w = .ok v w := by
  unfold zeroSc at h
  split at h
  · rename_i x s b hi
    cases h
    obtain ⟨i, zv, h1, h2, h3, h4, h5, h6, h7, h8, h9⟩ := ok.info t _ s b hi
    have hag : aggC C t = false := by
      unfold kd at hk
      unfold aggC isAggT
      rw [hd]
      cases d <;> first | rfl | exact hk.elim
    have := h9 hag
    rw [h6] at this
    have hz : zv = v := by simpa [zval] using this.symm
    simp [zeroValue, run_typeInfo w h1, h4, hz]
  · cases h
theorem st_lookup (h : Inv C w0 Gin G gb fr ts w) (ok : Tab.Ok C P) {T : Nat} {m k : Operand} {cok : Bool} {S : World → Prop} (hS : ∀ d, (∃ cs, fr.box? d = some cs) → ∀ w', S w' → w'.heap[gb d]? = w.heap[gb d]?) (hs : step C call ⟨dst, .lookup T m k cok, type, pos, after, guard⟩ fr K = some r) :
    StepQ C P w0 Gin ds r S G gb fr ts w ⟨dst, .lookup T m k cok, type, pos, after, guard⟩ K := by
  simp only [step] at hs
  split at hs
  case h_2 => simp at hs
  rename_i kt vt d hT hm
  split at hs
  case h_2 => simp at hs
  rename_i l hl
  obtain ⟨kD, kv, hkD, hkv, hke, hs⟩ := castSc_some hs
  obtain ⟨vD, vv, hvD, hvv, hve, hs⟩ := castSc_some hs
  obtain ⟨es, n, hh, rfl, hes⟩ := h.map hl hT hkD hvD
  have hm1 := (h.ev ok ds 0 m).1
  rw [hm] at hm1
  obtain ⟨b, hb, hmv, _⟩ := hm1
  obtain ⟨hbx, rfl⟩ := bx_stOf.1 hb
  have hk1 := (h.ev ok ds kt k).1
  rw [hke] at hk1
  have hkval := hk1.sc
  have hrun : ∀ w', S w' → (Instr.lookup T (.map (some (gb d))) kv cok).run P w' = .ok (if cok then .tuple #[vv, .bool (mget (.sc kv) (es.toList.map pr)).isSome] else vv) w' := by
    intro w' hw
    have hh' := (hS d hbx w' hw).trans hh
    rcases findNow_mget hkv es.toList 0 (fun e he => (hes e he).1) with ⟨j, v, g1, g2, _, _⟩ | ⟨g1, g2, _⟩
    · rw [g2] at hve
      have hvv' : vv = v := by simpa using hve.symm
      cases cok <;> simp [Instr.lookup, run_underlying (ok.ty _ _ hT), MapKept.run_getObj_map hh', run_checkKey (ok.ty _ _ hkD) hkv, run_findKey (ok.ty _ _ hkD) g1, g2, hvv', Result.andThen]
    · rw [g2] at hve
      have hz := zeroSc_run ok hvD hvv hve w'
      cases cok <;> simp [Instr.lookup, run_underlying (ok.ty _ _ hT), MapKept.run_getObj_map hh', run_checkKey (ok.ty _ _ hkD) hkv, run_findKey (ok.ty _ _ hkD) g1, g2, hz, Result.andThen]
  have hone := kd_one hvv
  cases cok with
  | true =>
    refine ⟨G, fr, (.tup [.sc vv, .sc (.bool (mget (.sc kv) (es.toList.map pr)).isSome)], .tup [.uni .ro, .uni .ro]), .tuple #[vv, .bool (mget (.sc kv) (es.toList.map pr)).isSome], fun w' hw => ?_, h, Less.refl, ?_, Fresh.of_owns rfl _ _, .of_noblk (NoBlk.of_owns rfl _ _), hs⟩
    · have := hrun w' hw
      simp only [execOp, hmv, hkval]
      simp [this]
    · refine ⟨_, _, rfl, rfl, rfl, fun c hc => ?_⟩
      match c, hc with
      | 0, _ => exact .inl (Frz.sc _ hone.1)
      | 1, _ => exact .inl (Frz.sc _ rfl)
      | n + 2, hc => exact absurd hc (by simp)
  | false =>
    refine ⟨G, fr, (.sc vv, .uni .ro), vv, fun w' hw => ?_, h, Less.refl, sc_rep hone.1, Fresh.of_owns rfl _ _, .of_noblk (NoBlk.of_owns rfl _ _), hs⟩
    have := hrun w' hw
    simp only [execOp, hmv, hkval]
    simp [this]

/-- The map at d is another one now. -/
theorem Inv.swapBox (h : Inv C w0 Gin G gb fr ts w) {d : Nat} {cs : List (AV × Own)} (hb : fr.box? d = some cs) (hno : ∀ j, (cs.getD j (.undef, .ro)).2 ≠ .own) {T : Nat} {l : List AV} {es : Array MapEntry} {n : Nat}
    {w' : World} (hw : w'.heap[gb d]? = some (.map es n)) (hw' : ∀ k, k ≠ gb d → w'.heap[k]? = w.heap[k]?) (hbelow : Below w0.heap.size w0 w') (hsz : w.heap.size ≤ w'.heap.size) (hm : MapRep C T l es.toList) :
    Inv C w0 Gin G gb (fr.setBox d [(.mp T l, .ro)]) ts w' ∧ (fr.setBox d [(.mp T l, .ro)]).homes ts (bvOf w' gb) = fr.homes ts (bvOf w gb) := by
  have hhomes : (fr.setBox d [(.mp T l, .ro)]).homes ts (bvOf w' gb) = fr.homes ts (bvOf w gb) := by
    funext ⟨b, n, q, j⟩
    cases b with
    | false => rfl
    | true =>
      simp only [Fr.homes, box?_setBox]
      by_cases hn : n = d
      · subst hn
        rw [if_pos rfl, hb]
        simp only [homeB]
        split
        · have h1 := own?_none (x := ((cs.getD j (.undef, .ro)).1, bvOf w gb n j)) (hno j)
          rw [h1]
          cases j <;> rfl
        · rfl
      · rw [if_neg hn]
        cases hcs : fr.box? n with
        | none => rfl
        | some c =>
          have hg : gb n ≠ gb d := fun e => hn (h.inj n d c cs hcs hb e)
          have : bvOf w' gb n = bvOf w gb n := by
            funext j
            simp only [bvOf, World.cell?, hw' _ hg]
          rw [this]
  obtain ⟨_, hge, hng⟩ := h.boxes d cs hb
  have hbox : ∀ n cs', (fr.setBox d [(.mp T l, .ro)]).box? n = some cs' → ∃ c, fr.box? n = some c := by
    intro n cs' hn
    rw [box?_setBox] at hn
    split at hn
    · rename_i e; subst e; exact ⟨cs, hb⟩
    · exact ⟨cs', hn⟩
  have hbx : ∀ n b, (stOf C w0.heap.size G gb fr ts w).bx n = some b → (stOf C w0.heap.size G gb (fr.setBox d [(.mp T l, .ro)]) ts w').bx n = some b := by
    intro n b hn
    obtain ⟨⟨c, hc⟩, hg⟩ := bx_stOf.1 hn
    refine bx_stOf.2 ⟨?_, hg⟩
    rw [box?_setBox]
    split
    · exact ⟨_, rfl⟩
    · exact ⟨c, hc⟩
  have ho : ∀ p a u k, fr.homes ts (bvOf w gb) p = some (a, u) → u.ownBlock = some k → w'.heap[k]? = w.heap[k]? := fun p a u k hp hk => hw' k fun e => (h.ow p a u k hp hk).2 d cs hb e.symm
  have le : Le (stOf C w0.heap.size G gb fr ts w) (stOf C w0.heap.size G gb (fr.setBox d [(.mp T l, .ro)]) ts w') (fun _ => True) := {
    C := rfl, base := rfl, G := fun _ h => h
    low := fun b hb' => hw' b (by
      rintro rfl
      rcases hb' with hb' | hb'
      · exact hng hb'
      · have : gb d < w0.heap.size := hb'
        omega)
    ow := fun q _ a u hq => ⟨by
      show (fr.setBox d _).homes ts _ q = _
      rw [hhomes]; exact hq, fun k hk => ho q a u k hq hk⟩ }
  refine ⟨⟨hbelow, fun b hb => Nat.lt_of_lt_of_le (h.gs b hb) hsz, h.gin, h.size, fun n hn => ?_, fun n cs' hn => ?_, fun n n' c1 c2 hn hn' => ?_, fun p a u k hp hk => ?_, fun p q a u a' u' k hp hq hk hk' => ?_⟩, hhomes⟩
  · exact (h.slots n hn).mono le hbx (Md.hit_true _) fun c j x u hx k hk => ho ⟨false, n, c, j⟩ x u k hx hk
  · rw [box?_setBox] at hn
    split at hn
    · rename_i e; subst e
      cases hn
      exact ⟨.inr ⟨T, l, es, _, rfl, hw, hm⟩, hge, hng⟩
    · rename_i hnd
      obtain ⟨hB, h1, h2⟩ := h.boxes n cs' hn
      have hgn : gb n ≠ gb d := fun e => hnd (h.inj n d cs' cs hn hb e)
      rcases hB with ⟨c2, e2, hh2, hs2, hr2⟩ | hB
      · refine ⟨.inl ⟨c2, e2, (hw' _ hgn).trans hh2, hs2, fun j hj => (hr2 j hj).mono le (Own.hit_true _) fun hown k hk => ?_⟩, h1, h2⟩
        refine ho ⟨true, n, 0, j⟩ (cs'.getD j (.undef, .ro)).1 _ k ?_ hk
        simp only [Fr.homes, hn, homeB, if_true, hown, own?, bvOf_cell (w := w) hh2]
      · exact ⟨.inr (hB.move rfl (hw' _ hgn)), h1, h2⟩
  · obtain ⟨c3, h3⟩ := hbox n c1 hn
    obtain ⟨c4, h4⟩ := hbox n' c2 hn'
    exact h.inj n n' c3 c4 h3 h4
  · rw [hhomes] at hp
    obtain ⟨h3, h4⟩ := h.ow p a u k hp hk
    exact ⟨h3, fun n cs' hn => by obtain ⟨c3, h5⟩ := hbox n cs' hn; exact h4 n c3 h5⟩
  · rw [hhomes] at hp hq
    exact h.sep p q a u a' u' k hp hq hk hk'

theorem st_mapUpdate (h : Inv C w0 Gin G gb fr ts w) (ok : Tab.Ok C P) {T : Nat} {m k v : Operand} (hs : step C call ⟨dst, .mapUpdate T m k v, type, pos, after, guard⟩ fr K = some r) :
    StepOk C P w0 Gin ds r Q G gb fr false ts w ⟨dst, .mapUpdate T m k v, type, pos, after, guard⟩ K := by
  simp only [step] at hs
  split at hs
  · simp at hs
  rename_i hd
  have hd : dst = none := by cases dst <;> simp_all
  subst hd
  split at hs
  case h_2 => simp at hs
  rename_i kt vt d hT hm
  split at hs
  case h_2 => simp at hs
  rename_i l hl
  obtain ⟨kD, kv, hkD, hkv, hke, hs⟩ := castSc_some hs
  obtain ⟨vD, vv, hvD, hvv, hve, hs⟩ := castSc_some hs
  obtain ⟨es, n, hh, rfl, hes⟩ := h.map hl hT hkD hvD
  have hb := map?_some hl
  have hm1 := (h.ev ok ds 0 m).1
  rw [hm] at hm1
  obtain ⟨b, hbb, hmv, _⟩ := hm1
  obtain ⟨hbx, rfl⟩ := bx_stOf.1 hbb
  have hk1 := (h.ev ok ds kt k).1
  rw [hke] at hk1
  have hkval := hk1.sc
  have hv1 := (h.ev ok ds vt v).1
  rw [hve] at hv1
  have hvval := hv1.sc
  have hgl : gb d < w.heap.size := h.gb_lt hb
  have key : ∃ es' n', (Instr.mapUpdate T (.map (some (gb d))) kv vv).run P w = .ok () { w with heap := w.heap.setIfInBounds (gb d) (.map es' n') } ∧ mset (.sc kv) (.sc vv) (es.toList.map pr) = es'.toList.map pr ∧ ∀ e ∈ es'.toList, kd kD e.key ∧ kd vD e.val := by
    rcases findNow_mget hkv es.toList 0 (fun e he => (hes e he).1) with ⟨j, v0, g1, _, ⟨e0, g2, g3, _⟩, g4⟩ | ⟨g1, _, g2⟩
    · have hj : es[j]? = some e0 := by simpa using g2
      refine ⟨es.modify j fun e => { e with key := kv, val := vv }, n, ?_, by rw [g4]; simp, ?_⟩
      · obtain ⟨_, _, _, hsame⟩ := kd_eq hkv hkv
        have hst : (Instr.keyThatStays kv kv).run P w = .ok kv w := by
          have hsb : Instr.sameBits 10000 kv kv = true := by
            unfold kd at hkv
            split at hkv
            · obtain ⟨_, rfl⟩ := hkv; simp [Instr.sameBits]
            · obtain ⟨_, rfl⟩ := hkv; simp [Instr.sameBits]
            · obtain ⟨_, rfl⟩ := hkv; exact (bytes_beq _ _).2 rfl
            · exact hkv.elim
          simp [Instr.keyThatStays, hsb]
        simp [Instr.mapUpdate, run_underlying (ok.ty _ _ hT), MapKept.run_getObj_map hh, run_checkKey (ok.ty _ _ hkD) hkv, run_findKey (ok.ty _ _ hkD) g1, hj, g3, hst, MapKept.run_setObj_map _ hh, Result.andThen]
      · intro e he
        rw [Array.toList_modify] at he
        obtain ⟨i, hi, rfl⟩ := List.getElem_of_mem he
        rw [List.getElem_modify]
        split
        · exact ⟨hkv, hvv⟩
        · exact hes _ (List.getElem_mem _)
    · refine ⟨es.push { key := kv, val := vv, born := n }, n + 1, ?_, by rw [g2 vv n]; simp, ?_⟩
      · simp [Instr.mapUpdate, run_underlying (ok.ty _ _ hT), MapKept.run_getObj_map hh, run_checkKey (ok.ty _ _ hkD) hkv, run_findKey (ok.ty _ _ hkD) g1, MapKept.run_setObj_map _ hh, Result.andThen]
      · intro e he
        rw [Array.toList_push, List.mem_append, List.mem_singleton] at he
        rcases he with he | rfl
        · exact hes e he
        · exact ⟨hkv, hvv⟩
  obtain ⟨es', n', hrun, hms, hes'⟩ := key
  have hnew : ({ w with heap := w.heap.setIfInBounds (gb d) (.map es' n') } : World).heap[gb d]? = some (.map es' n') := by simp [hgl]
  have hoth : ∀ k, k ≠ gb d → ({ w with heap := w.heap.setIfInBounds (gb d) (.map es' n') } : World).heap[k]? = w.heap[k]? := fun k hk => by
    simp [Array.getElem?_setIfInBounds_ne (Ne.symm hk)]
  obtain ⟨_, hge, _⟩ := h.boxes d _ hb
  obtain ⟨i2, hh2⟩ := h.swapBox hb (fun j => by cases j <;> simp) (T := T) (l := mset (.sc kv) (.sc vv) (es.toList.map pr)) (es := es') (n := n') hnew hoth
    (h.below.trans ⟨rfl, rfl, rfl, by simp, fun k hk => hoth k (by omega)⟩) (by simp) ⟨kt, vt, hT, hms, fun e he => ⟨(scV_kd hkD).2 (hes' e he).1, (scV_kd hvD).2 (hes' e he).2⟩⟩
  unfold StepOk Oper.wp
  have hexec : (execOp ({ tmps := ts, defers := ds } : Act).eval ⟨none, .mapUpdate T m k v, type, pos, after, guard⟩).run P w = .ok .skip { w with heap := w.heap.setIfInBounds (gb d) (.map es' n') } := by
    simp only [execOp, hmv, hkval, hvval]
    simp [hrun]
  rw [hexec]
  refine ⟨G, gb, _, ts, rfl, i2, hs, ?_, fun d' _ hn => hn, undef, rfl⟩
  exact {
    size := by simp
    home := fun p' T' l' v' k hp hk hlt => ⟨p', l', v', by rw [hh2] at hp; exact hp, hk, Nat.le_refl _⟩
    gs := fun b' hb' _ => .inl hb'
    box := fun n cs' hn hlt => by
      rw [box?_setBox] at hn
      split at hn
      · rename_i e; subst e; exact ⟨n, _, hb, rfl⟩
      · exact ⟨n, _, hn, rfl⟩
    keep := fun e => by simp at e
    far := fun k hk => by
      by_cases e : k = gb d
      · exact .inr (.inr ⟨d, _, hb, e.symm⟩)
      · exact .inl (hoth k e) }

theorem st_makeMap (h : Inv C w0 Gin G gb fr ts w) (ok : Tab.Ok C P) {T : Nat} {n : Option Operand} (hs : step C call ⟨dst, .makeMap T n, type, pos, after, guard⟩ fr K = some r) :
    StepOk C P w0 Gin ds r Q G gb fr true ts w ⟨dst, .makeMap T n, type, pos, after, guard⟩ K := by
  simp only [step] at hs
  split at hs
  case h_2 => simp at hs
  rename_i kt vt d hT
  split at hs
  · simp at hs
  rename_i hb
  obtain ⟨hn, hnew⟩ := h.newBox (d := d) hb (e := 0) (cs := []) (c := #[]) rfl (fun j hj => by simp at hj) (fun j k hj => by simp at hj)
  have hgd : gbNew gb d w.heap.size d = w.heap.size := by simp [gbNew]
  have hb0 : (fr.setBox d []).box? d = some [] := by rw [box?_setBox, if_pos rfl]
  obtain ⟨i2, hh2⟩ := hn.swapBox hb0 (fun j => by simp) (T := T) (l := []) (es := #[]) (n := 0) (w' := w.alloc (.map #[] 0)) (by rw [hgd]; exact heap_alloc_new w _)
    (fun k hk => by
      rw [hgd] at hk
      rcases Nat.lt_or_ge k w.heap.size with hlt | hge
      · rw [Below.heap_alloc w _ k hlt, Below.heap_alloc w _ k hlt]
      · have h1 : ∀ o, (w.alloc o).heap.size = w.heap.size + 1 := fun o => by simp
        rw [Array.getElem?_eq_none (by rw [h1]; omega), Array.getElem?_eq_none (by rw [h1]; omega)])
    (h.below.alloc h.below.size _) (by simp) ⟨kt, vt, hT, rfl, fun e he => by simp at he⟩
  rw [setBox_twice] at i2 hh2
  refine wp_val2 (o := ⟨some d, .makeMap T none, type, pos, after, guard⟩) i2 (StepRel.newBox (c := #[]) Less.refl true (fun p a u hp => ?_) fun j k hj ho hk => ?_) (x := (.undef, .mapAt d)) (v := .map (some w.heap.size)) ?_ ⟨w.heap.size, ?_, rfl, rfl⟩ (Fresh.of_owns rfl _ _) (noRow rfl _ _) (fun _ h => h) hs
  · rw [hh2] at hp
    rcases hnew p a u hp with hp | ⟨i, hi, _⟩
    · exact .inl hp
    · simp at hi
  · exact absurd ho (by cases j <;> simp)
  · simp [execOp, run_makeMap]
  · refine bx_stOf.2 ⟨⟨_, by rw [box?_setBox, if_pos rfl]⟩, hgd⟩
end

end Go.Dam
