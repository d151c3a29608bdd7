/- A part of an interpreter of the model's code that is proved sound, and of laws told by it: DamStep11, DamStep12. -/
import Derived.Test.YtdehjednpdbhaaaDoorPvB5
import Derived.Laws.OwnMore
set_option linter.unusedVariables false
set_option linter.unusedSimpArgs false
/- New rows. -/
namespace Go.Dam
open Go.RowKit
set_option linter.unusedVariables false
set_option linter.unusedSimpArgs false

section
variable {C : Tab} {P : Program} {w0 : World} {Gin G : Nat → Prop} {gb : Nat → Nat} {fr : Fr} {ts : Array Value} {w : World} {ds : List Deferred} {r : AV} {Q : Exit → Act → World → Prop}
variable {dst : Option Nat} {type : Nat} {pos : String} {after : Array Edge} {guard : Option (Nat × Bool)} {K : Fr → Option AV} {call : Nat → List AV → Option AV}

theorem zcell_frz (ok : Tab.Ok C P) {z : List AV} {T s b : Nat} (hi : C.info T = some (z, s, b)) {a : AV} (ha : a ∈ z) (S : Nat → Prop) (w : World) : Frz C S w (zval a) a := by
  have h := zcell_rep (w0 := w) (G := S) (gb := fun _ => 0) (fr := { slots := [], boxes := [] }) (ts := #[]) (w := w) ok hi ha
  obtain ⟨h1, h2⟩ := h
  cases a with
  | sl T l => exact OwnR.frz (show OwnR C S _ w _ _ from h1) (fun _ h => h) fun k hk => by rw [h2] at hk; simp at hk
  | _ => exact h1

/-- A world that has grown but for one row that no one owns any more. -/
theorem Inv.grown (h : Inv C w0 Gin G gb fr ts w) {w' : World} {row : Option Nat} (hg : w.grownBy w' row) (hrow : ∀ k, row = some k → w0.heap.size ≤ k ∧ ¬ G k ∧ (∀ d cs, fr.box? d = some cs → gb d ≠ k) ∧ ∀ p a u, fr.homes ts (bvOf w gb) p = some (a, u) → u.ownBlock ≠ some k) :
    Inv C w0 Gin G gb fr ts w' ∧ fr.homes ts (bvOf w' gb) = fr.homes ts (bvOf w gb) := by
  have key : ∀ k, k < w.heap.size → some k ≠ row → w'.heap[k]? = w.heap[k]? := fun k h1 h2 => hg.block k h1 h2
  refine h.world (h.below.grown hg h.below.size fun k hk => (hrow k hk).1) hg.size (fun b hb => key b (h.gs b hb) fun e => (hrow b e.symm).2.1 hb) (fun d cs hd => key _ (h.gb_lt hd) fun e => (hrow _ e.symm).2.2.1 d cs hd rfl)
    fun p a v k hp hk => key k ((h.own hp).lt k hk).2 fun e => (hrow k e.symm).2.2.2 p a v hp hk

theorem freshSl {e : Nat} {l : List AV} {v : Value} (hf : ∀ k, v.ownBlock = some k → ¬ G k ∧ (∀ d cs, fr.box? d = some cs → gb d ≠ k) ∧ ∀ p a u, fr.homes ts (bvOf w gb) p = some (a, u) → u.ownBlock ≠ some k) : Fresh G gb fr ts w (.uni .own) (.sl e l) v := by
  have key : ∀ c j x u, homeS (.uni .own) (.sl e l) v c j = some (x, u) → c = 0 ∧ j = 0 ∧ u = v := by
    intro c j x u hx
    simp only [homeS] at hx
    split at hx
    · rename_i hc
      obtain ⟨h1, h2⟩ := own?_some hx
      simp only [Md.home1] at h1
      split at h1
      · rename_i hj; cases h2; exact ⟨hc, hj, rfl⟩
      · simp at h1
    · simp at hx
  intro c j x u k hx hk
  obtain ⟨rfl, rfl, rfl⟩ := key c j x u hx
  obtain ⟨h1, h2, h3⟩ := hf k hk
  refine ⟨h1, h2, h3, fun c' j' x' u' hx' _ => ?_⟩
  obtain ⟨rfl, rfl, _⟩ := key c' j' x' u' hx'
  exact ⟨rfl, rfl⟩

/-- A new row in a world in which nothing else has turned. -/
theorem StepRel.grown {G1 : Nat → Prop} {fr1 : Fr} (lss : Less G fr G1 fr1 gb ts w) (soft : Bool) {w' : World} (hsz : w.heap.size ≤ w'.heap.size) (hw : ∀ b, b < w.heap.size → w'.heap[b]? = w.heap[b]?) (hh : fr1.homes ts (bvOf w' gb) = fr1.homes ts (bvOf w gb)) :
    StepRel C G gb fr ts w G1 gb fr1 ts w' soft where
  size := hsz
  home := fun p' T' l' v' k hp hk _ => by
    rw [hh] at hp
    exact ⟨p', l', v', lss.homes _ _ _ hp, hk, Nat.le_refl _⟩
  gs := fun b hb _ => (lss.back b hb).imp id fun ⟨p, a, v, q1, q2, _⟩ => ⟨p, a, v, q1, q2⟩
  box := fun n cs' hn _ => by
    obtain ⟨c3, hc3⟩ := (lss.box n).1 ⟨cs', hn⟩
    exact ⟨n, c3, hc3, rfl⟩
  keep := fun _ b hb => .inl (hw b hb)
  far := fun b hb => .inl (hw b hb)
theorem newRow_home {e : Nat} {l : List AV} {n m cap : Nat} {c j : Nat} {x : AV} {u : Value} {k : Nat} (hx : homeS (.uni .own) (.sl e l) (.slice (some ⟨n, 0, none⟩) m cap) c j = some (x, u)) (hk : u.ownBlock = some k) (hlt : k < n) : False := by
  simp only [homeS] at hx
  split at hx
  · obtain ⟨q1, q2⟩ := own?_some hx
    simp only [Prod.mk.injEq, av1, val1] at q2
    rw [← q2.2] at hk
    simp only [Value.ownBlock, Option.some.injEq] at hk
    omega
  · simp at hx

theorem st_makeSlice (h : Inv C w0 Gin G gb fr ts w) (ok : Tab.Ok C P) {T : Nat} {n m : Operand} (hs : step C call ⟨dst, .makeSlice T n m, type, pos, after, guard⟩ fr K = some r) :
    StepOk C P w0 Gin ds r Q G gb fr true ts w ⟨dst, .makeSlice T n m, type, pos, after, guard⟩ K := by
  simp only [step] at hs
  split at hs
  case h_2 => simp at hs
  rename_i e hT
  obtain ⟨a, ha, hs⟩ := castI_some hs
  obtain ⟨b, hb, hs⟩ := castI_some hs
  have hn := ev_sc (ds := ds) h ok ha
  have hm := ev_sc (ds := ds) h ok hb
  split at hs
  case h_2 => simp at hs
  rename_i z s bytes zv hi hzv
  split at hs
  case isFalse => simp at hs
  rename_i hby
  have hby : 0 < bytes := by simpa [Nat.blt_eq] using hby
  split at hs
  case isFalse => simp at hs
  rename_i hc
  obtain ⟨rfl, h0, hbd⟩ := hc
  obtain ⟨i, zval', e1, e2, e3, e4, e5, e6, e7, e8, e9⟩ := ok.info e z s bytes hi
  obtain ⟨d, hd, hd', hag, hzl, hone⟩ := isAggT_of ok hi
  have han : a = ((a.toNat : Nat) : Int) := by omega
  have hle : a.toNat ≤ a.toNat * bytes := Nat.le_mul_of_pos_right _ hby
  have hmb : maxBytes = 140737488355328 := rfl
  rw [hmb] at hbd
  have hml : a.toNat ≤ maxLen := by simp only [maxLen]; omega
  obtain ⟨w', hrun, how, hgr⟩ := run_make_full (P := P) w w0.heap.size T e i zval' s (ok.ty _ _ hT) e1 e4 e2 .i64 .i64 a.toNat (by rw [e3, Nat.mul_comm]; omega) hml h.below.size
  have hel : ∀ j, j < s → elCell C e zv j = z.getD j .undef := by
    intro j hj
    unfold zeroA at hzv
    rw [hi, hd'] at hzv
    unfold elCell
    rw [hd']
    cases hag' : isAggD d with
    | true =>
      rw [hag'] at hzv
      simp only [Option.some.injEq] at hzv
      subst hzv
      rfl
    | false =>
      rw [hag'] at hzv
      have hs1 := hone hag'
      subst hs1
      have hj0 : j = 0 := by omega
      subst hj0
      cases z with
      | nil => simp at hzl
      | cons c z =>
        have : z = [] := by simpa using hzl
        subst this
        simp only [Option.some.injEq] at hzv
        subst hzv
        rfl
  have hmem : ∀ j, j < s → z.getD j .undef ∈ z := fun j hj => by
    have : z.getD j .undef = z[j]'(by omega) := by simp [hzl, hj]
    rw [this]; exact List.getElem_mem _
  obtain ⟨i2, hh2⟩ := h.grown hgr (fun k hk => by simp at hk)
  have hrep : ∀ k, k < a.toNat → (List.replicate a.toNat zv).getD k .undef = zv := fun k hk => by simp [List.getD_eq_getElem?_getD, List.getElem?_replicate, hk]
  refine wp_val2 i2 (StepRel.grown Less.refl true hgr.size (fun b hb => hgr.block b hb (by simp)) hh2) (x := (.sl e (List.replicate a.toNat zv), .uni .own)) (v := .slice (some ⟨w.heap.size, 0, none⟩) a.toNat a.toNat) ?_ (.inl ?_) ?_ (fun c j T3 l3 u k hx hk hlt => (newRow_home hx hk hlt).elim) (fun _ h => h) hs
  · simp only [execOp, hn, hm]
    rw [Sem.run_bind]
    conv => lhs; rw [han]
    rw [hrun]
    rfl
  · show OwnR C G w0.heap.size w' _ _
    refine ⟨e, _, z, s, bytes, _, rfl, hi, by rw [List.length_replicate]; exact rowOf.of how, fun k j hk hj hz => ?_, fun k j hk hj => ?_⟩
    · rw [List.length_replicate] at hk
      rw [hrep k hk, hel j hj]
      revert hz
      cases z.getD j .undef <;> simp [isPlain, isSc]
    · rw [List.length_replicate] at hk
      rw [hrep k hk, hel j hj]
      refine ⟨zval (z.getD j .undef), ?_, zcell_frz ok hi (hmem j hj) _ _⟩
      have hlt : k * s + j < a.toNat * s := by
        have h1 : (k + 1) * s ≤ a.toNat * s := Nat.mul_le_mul_right _ (by omega)
        rw [Nat.add_mul] at h1; omega
      have hmod : (k * s + j) % s = j := by rw [Nat.mul_comm, Nat.mul_add_mod]; exact Nat.mod_eq_of_lt hj
      have hsz : zval'.cells.size = s := by rw [e6]; simp [hzl]
      simp only [madeCells, Array.toList_map, Array.toList_range, List.getElem?_map, List.getElem?_range hlt, Option.map_some, Option.some.injEq]
      rw [hsz, hmod, e6]
      have hjz : j < z.length := by omega
      simp [hjz]
  · refine freshSl fun k hk => ?_
    simp only [Value.ownBlock, Option.some.injEq] at hk
    subst hk
    refine ⟨fun hg => Nat.lt_irrefl _ (h.gs _ hg), fun d cs hd => ?_, fun p a2 u hp hk => ?_⟩
    · have := h.gb_lt hd; omega
    · rw [hh2] at hp
      have := ((h.own hp).lt _ hk).2
      omega
end

end Go.Dam

/- append. -/
namespace Go.Dam
open Go.RowKit
set_option linter.unusedVariables false
set_option linter.unusedSimpArgs false

section
variable {C : Tab} {P : Program} {w0 : World} {Gin G : Nat → Prop} {gb : Nat → Nat} {fr : Fr} {ts : Array Value} {w : World} {ds : List Deferred} {r : AV} {Q : Exit → Act → World → Prop}
variable {dst : Option Nat} {type : Nat} {pos : String} {after : Array Edge} {guard : Option (Nat × Bool)} {K : Fr → Option AV} {call : Nat → List AV → Option AV}

theorem run_append_dam (base : Nat) (t ty e : TypeId) (i : TypeInfo) (z : Value) (size bytes : Nat) (ht : P.underlying t = some (.slice e)) (hi : P.info? e = some i) (hz : i.zero = some z)
    (hsize : i.size = size) (hby : i.bytes = bytes) (hzs : z.cells.size = size) (hsz : 0 < size)
    (v : Value) (n : Nat) (xs : List Value) (hown : rowOf w base e size v n xs)
    (A : Option Addr) (m c : Nat) (news : List Value) (hl : news.length = m * size) (hA : 0 < m → ∃ a, A = some a) (hnews : ∀ a, A = some a → ∀ j u, news[j]? = some u → w.cell? (a.add j) = some u) (h1 : ∀ u ∈ news, u.oneCell' = true)
    (h63 : n + m ≤ maxLen) (hbytes : (n + m) * bytes ≤ 140737488355328) (hbase : base ≤ w.heap.size) :
    ∃ v' w', (Builtin.append_ #[t, t] ty #[v, .slice A m c]).run P w = .ok v' w' ∧ rowOf w' base e size v' (n + m) (xs ++ news) ∧ w.grownBy w' v.ownBlock ∧
      (∀ k, v'.ownBlock = some k → v.ownBlock = some k ∨ k = w.heap.size) ∧ ∀ g o, v.ownBlock = some g → o < n * size → w'.cell? ⟨g, o, none⟩ = w.cell? ⟨g, o, none⟩ := by
  cases A with
  | none =>
    have hm : m = 0 := by
      rcases Nat.eq_zero_or_pos m with h | h
      · exact h
      · obtain ⟨a, ha⟩ := hA h; simp at ha
    subst hm
    have hn : news = [] := List.eq_nil_of_length_eq_zero (by simpa using hl)
    subst hn
    refine ⟨v, w, ?_, by simpa using hown, ⟨rfl, rfl, rfl, Nat.le_refl _, fun _ _ _ => rfl⟩, fun k hk => .inl hk, fun _ _ _ _ => rfl⟩
    rcases hown.2 with ⟨rfl, rfl⟩ | ⟨g, cap, cur, fz, rfl, _, _, _, hnc, _⟩
    · simp [Builtin.append_, run_underlying ht, sizeOf, typeInfo, hi, Builtin.lenOf, Builtin.firstCells]
    · simp [Builtin.append_, run_underlying ht, sizeOf, typeInfo, hi, Builtin.lenOf, Builtin.firstCells, hnc, storeCells]
  | some a =>
    have hnw := hnews a rfl
    have hsmall : n + m ≤ 9223372036854775807 := by simp only [maxLen] at h63; omega
    rcases hown.2 with ⟨rfl, rfl⟩ | ⟨g, cap, cur, fz, rfl, hbg, hgh, hfz, hnc, hcm, hcs, htake⟩
    · have hx : xs = [] := List.eq_nil_of_length_eq_zero (by simpa using hown.1)
      subst hx
      obtain ⟨v', w', hr, ho, hg, hiff⟩ := run_append_own (P := P) w base t ty e i z size bytes ht hi hz hsize hby hzs hsz _ 0 [] (World.ownsRow_nil w base e size) a m c news hl hnw h1 h63 hbytes hbase
      refine ⟨v', w', hr, .of ho, hg, fun k hk => ?_, fun _ _ e => by simp [Value.ownBlock] at e⟩
      rcases Nat.eq_zero_or_pos m with hm | hm
      · have := hiff.2 ⟨rfl, hm⟩
        subst this
        simp [Value.ownBlock] at hk
      · have hr2 := run_append_nil (P := P) w t ty e i z ht hi hz a m c news (by rw [hsize]; exact hl) hnw hm (by omega) (by rw [hby]; simp only [Nat.zero_add] at hbytes; omega)
        rw [hr] at hr2
        simp only [Result.ok.injEq] at hr2
        rw [hr2.1] at hk
        simp only [Value.ownBlock, Option.some.injEq] at hk
        exact .inr hk.symm
    · have hlen : (xs ++ news).length = (n + m) * size := by rw [List.length_append, hown.1, hl, Nat.add_mul]
      have hgl : g < w.heap.size := (Array.getElem?_eq_some_iff.1 hgh).1
      by_cases hroom : n + m ≤ cap
      · have hfit : n * size + news.length ≤ cur.size := by rw [hl, hcs, ← Nat.add_mul]; exact Nat.mul_le_mul_right _ hroom
        have hf := run_firstCells_some (P := P) w size m a m c news hl hnw
        have hst := run_storeCells_fz (P := P) g (n * size) e fz news 0 cur w hgh hfz (by simpa using hfit) h1
        simp only [Nat.add_zero] at hst
        have hnx : ∀ q, q < n * size → cur.toList[q]? = xs[q]? := fun q hq => by rw [← htake, List.getElem?_take, if_pos hq]
        refine ⟨.slice (some ⟨g, 0, none⟩) (n + m) cap, w.setRow g (cur.toList.take (n * size) ++ news ++ cur.toList.drop (n * size + news.length)).toArray, ?_, ⟨hlen, .inr ⟨g, cap, _, fz, rfl, hbg, setRow_heap w g cur _ e _ hgh, ?_, hroom, hcm, ?_, ?_⟩⟩, ⟨rfl, rfl, rfl, by simp, fun k _ hk => setRow_other w g k _ (fun e => hk (by simp [Value.ownBlock, e]))⟩, fun k hk => .inl hk, fun g' o e ho' => ?_⟩
        · simp [Builtin.append_, run_underlying ht, sizeOf, typeInfo, hi, hsize, Builtin.lenOf, hroom, hf, Addr.add_lit, hst]
        · have : (cur.toList.take (n * size) ++ news ++ cur.toList.drop (n * size + news.length)).toArray.size = cur.size := by simp; omega
          rw [this]; exact hfz
        · simp only [List.size_toArray, List.length_append, List.length_take, List.length_drop, Array.length_toList]
          omega
        · rw [htake, ← hlen]
          exact List.take_left
        · simp only [Value.ownBlock, Option.some.injEq] at e
          subst e
          rw [cell_of_row w g o cur _ fz hgh, cell_of_row _ g o _ _ fz (setRow_heap w g cur _ _ fz hgh)]
          have hlt : o < (cur.toList.take (n * size)).length := by simp; omega
          simp only [List.getElem?_toArray]
          rw [List.append_assoc, List.getElem?_append_left hlt, List.getElem?_take, if_pos ho']
          simp
      · have holds : ∀ j u, xs[j]? = some u → w.cell? ((⟨g, 0, none⟩ : Addr).add j) = some u := hown.cells (g := g) rfl
        have hr := run_append_grow (P := P) w t ty e i z ht hi hz ⟨g, 0, none⟩ n cap xs (by rw [hsize]; exact hown.1) holds a m c news (by rw [hsize]; exact hl) hnw (by omega) (by omega) (growslice_fits (by omega) (by rw [hby]; exact hbytes))
        have hge := grownCap_ge w (n + m) cap e
        have hcm' : grownCap w (n + m) cap e ≤ maxLen := grownCap_le_maxLen w (n + m) cap e h63
        refine ⟨_, _, hr, ⟨hlen, .inr ⟨w.heap.size, _, _, (0, 0), rfl, hbase, heap_alloc_new w.drew _, .inl rfl, hge, hcm', ?_, ?_⟩⟩, ⟨rfl, rfl, rfl, by simp, fun k hk _ => heap_alloc_old w.drew _ k hk⟩, fun k hk => ?_, fun g' o e ho' => ?_⟩
        · simp only [Array.size_append, List.size_toArray, size_zeroCells, hzs, hown.1, hl, ← Nat.add_mul]
          congr 1
          omega
        · simp only [Array.toList_append, List.append_assoc]
          rw [← List.append_assoc, ← hlen]
          exact List.take_left
        · simp only [Value.ownBlock, Option.some.injEq] at hk
          exact .inr hk.symm
        · simp only [Value.ownBlock, Option.some.injEq] at e
          subst e
          exact World.cell?_of_block (w := w) (a := ⟨g, o, none⟩) (Below.heap_alloc w.drew _ g hgl)

theorem st_append (h : Inv C w0 Gin G gb fr ts w) (ok : Tab.Ok C P) {T e : Nat} {x y : Operand} (hT : C.ty T = some (.slice e)) {z : List AV} {s bytes : Nat} (hi : C.info e = some (z, s, bytes)) (hs0 : 0 < s) (hb0 : 0 < bytes)
    {fr1 : Fr} (ht : take fr (ev C fr T x).2 = some (.uni .own, fr1)) {mm : Md} {fr2 : Fr} (hy : appArg C fr1 e (ev C fr1 T y).2 = some (mm, fr2)) {l m : List AV} (hl : (ev C fr T x).1 = .sl e l) (hm : (ev C fr1 T y).1 = .sl e m)
    (hbd : (l.length + m.length) * bytes ≤ maxBytes) (hk : K (fr2.put dst (.sl e (l ++ m), .uni .own)) = some r) :
    StepOk C P w0 Gin ds r Q G gb fr true ts w ⟨dst, .call ⟨.builtin .append, #[x, y], #[T, T]⟩, type, pos, after, guard⟩ K := by
  obtain ⟨h1, _⟩ := h.ev ok ds T x
  obtain ⟨i1, l1, r1, f1⟩ := h.take h1 (ev_noblk C fr T x ts ds) ht
  obtain ⟨y1, _⟩ := i1.ev ok ds T y
  rw [hl] at r1 f1
  rw [hm] at y1
  have hO : OwnR C G w0.heap.size w (({ tmps := ts, defers := ds } : Act).eval x) (.sl e l) := by
    rcases r1 with r1 | ⟨_, _, _, _, e1, _⟩
    · exact r1
    · simp at e1
  have hyv : ∃ G2, Inv C w0 Gin G2 gb fr2 ts w ∧ Less G fr1 G2 fr2 gb ts w ∧ ∃ S, Frz C S w (({ tmps := ts, defers := ds } : Act).eval y) (.sl e m) ∧ (C.flat e = true ∨ ∀ b, S b → G2 b) := by
    obtain ⟨o, hoy, hyr⟩ := RepM.sl y1
    unfold appArg at hy
    cases hfl : C.flat e with
    | true =>
      rw [hfl] at hy
      simp only [Option.some.injEq, Prod.mk.injEq] at hy
      obtain ⟨rfl, rfl⟩ := hy
      obtain ⟨S, hf⟩ := RepO.frz hyr
      exact ⟨G, i1, Less.refl, S, hf, .inl rfl⟩
    | false =>
      rw [hfl, hoy] at hy
      simp only at hy
      cases o with
      | ro =>
        simp only [Option.some.injEq, Prod.mk.injEq] at hy
        obtain ⟨rfl, rfl⟩ := hy
        exact ⟨G, i1, Less.refl, G, hyr, .inr fun _ h => h⟩
      | lent => simp at hy
      | own => simp at hy
      | brw p f =>
        cases f with
        | false => simp at hy
        | true =>
          simp only at hy
          obtain ⟨G2, i2, l2, r2, f2, q1, q2⟩ := i1.giv false (m := .uni (.brw p true)) (.inl hyr) (NoBlk.of_owns rfl _ _) hy
          have hro := q2 rfl
          cases mm with
          | uni o' =>
            have : o' = .ro := hro
            subst this
            rcases r2 with r2 | ⟨_, _, _, _, e1, _⟩
            · exact ⟨G2, i2, l2, G2, r2, .inr fun _ h => h⟩
            · simp at e1
          | cells lo =>
            obtain ⟨_, _, _, e1, _⟩ := r2
            simp at e1
          | _ => exact hro.elim
  obtain ⟨G2, i2, l2, S, hyf, hyS⟩ := hyv
  obtain ⟨A, cap, s', b', z', ad, cv, hyv, hi', hmc, hcm, hA, hcell, hpl, hcr⟩ := hyf.slice
  rw [hi] at hi'; cases hi'
  obtain ⟨i, zv, e1, e2, e3, e4, e5, e6, e7, e8, e9⟩ := ok.info e z s bytes hi
  obtain ⟨T', l', z', s', b', xs, e10, hi', how, hp, hr⟩ := hO
  cases e10
  rw [hi] at hi'; cases hi'
  -- the cells that are appended
  have hnews : ∃ news : List Value, news.length = m.length * s ∧ ∀ k j, k < m.length → j < s → news[k * s + j]? = some (cv k j) := by
    refine ⟨(List.range (m.length * s)).map fun q => cv (q / s) (q % s), by simp, fun k j hk hj => ?_⟩
    have hlt : k * s + j < m.length * s := by
      have h1 : (k + 1) * s ≤ m.length * s := Nat.mul_le_mul_right _ (by omega)
      rw [Nat.add_mul] at h1; omega
    have hdiv : (k * s + j) / s = k := by rw [Nat.mul_comm, Nat.mul_add_div hs0, Nat.div_eq_of_lt hj, Nat.add_zero]
    have hmod : (k * s + j) % s = j := by rw [Nat.mul_comm, Nat.mul_add_mod]; exact Nat.mod_eq_of_lt hj
    simp only [List.getElem?_map, List.getElem?_range hlt, Option.map_some, hdiv, hmod]
  obtain ⟨news, hnl, hnc⟩ := hnews
  have hsplit : ∀ q, q < m.length * s → ∃ k j, k < m.length ∧ j < s ∧ q = k * s + j := fun q hq =>
    ⟨q / s, q % s, (Nat.div_lt_iff_lt_mul hs0).2 hq, Nat.mod_lt _ hs0, by rw [Nat.mul_comm]; exact (Nat.div_add_mod q s).symm⟩
  have hmb : maxBytes = 140737488355328 := rfl
  rw [hmb] at hbd
  have hle : l.length + m.length ≤ (l.length + m.length) * bytes := Nat.le_mul_of_pos_right _ hb0
  obtain ⟨v', w', hrun, how', hgr, hblk, hlive⟩ := run_append_dam (P := P) (w := w) w0.heap.size T type e i zv s bytes (ok.ty _ _ hT) e1 e4 e2 e3 (by rw [e6]; simp [e5]) hs0 _ l.length xs how A m.length cap news hnl
    (fun hp => ⟨ad, (hA hp).1⟩) (fun a ha q u hq => by
      have hqlt : q < m.length * s := by rw [← hnl]; exact (List.getElem?_eq_some_iff.1 hq).1
      obtain ⟨k, j, hk, hj, rfl⟩ := hsplit q hqlt
      rw [hnc k j hk hj] at hq
      cases hq
      have := (hA (by omega)).1
      rw [ha] at this
      cases this
      exact hcell k j hk hj)
    (fun u hu => by
      obtain ⟨q, hq, rfl⟩ := List.mem_iff_getElem.1 hu
      obtain ⟨k, j, hk, hj, rfl⟩ := hsplit q (hnl ▸ hq)
      have := hnc k j hk hj
      rw [List.getElem?_eq_getElem hq] at this
      rw [Option.some.inj this]
      exact (hcr k j hk hj).one) (by simp only [maxLen]; omega) (by omega) h.below.size
  -- the first argument's row is no one else's
  have hfree : ∀ k, (({ tmps := ts, defers := ds } : Act).eval x).ownBlock = some k → ¬ G2 k ∧ (∀ d cs, fr2.box? d = some cs → gb d ≠ k) ∧ ∀ p a u, fr2.homes ts (bvOf w gb) p = some (a, u) → u.ownBlock ≠ some k := by
    intro k hk2
    obtain ⟨q1, q2, q3, _⟩ := f1 0 0 (.sl e l) (({ tmps := ts, defers := ds } : Act).eval x) k (by simp [homeS, Md.home1, own?, av1, val1]) hk2
    refine ⟨fun hg2 => ?_, fun d cs hd => ?_, fun p a u hp => q3 p a u (l2.homes p a u hp)⟩
    · rcases l2.back k hg2 with hg2 | ⟨p, a, v, hp, hkp, _⟩
      · exact q1 hg2
      · exact q3 p a v hp hkp
    · obtain ⟨cs', hcs'⟩ := (l2.box d).1 ⟨cs, hd⟩
      exact q2 d cs' hcs'
  obtain ⟨i3, hh3⟩ := i2.grown hgr (fun k hk2 => ⟨(how.lt k hk2).1, hfree k hk2⟩)
  have hG2 : ∀ b, G2 b → w'.heap[b]? = w.heap[b]? := fun b hb => hgr.block b (i2.gs b hb) fun e => (hfree b e.symm).1 hb
  have hlen : (l ++ m).length = l.length + m.length := by simp
  have hfrom := h.take_from h1 (ev_noblk C fr T x ts ds) ht
  rw [hl] at hfrom
  have hxhome : ∀ k, (({ tmps := ts, defers := ds } : Act).eval x).ownBlock = some k → ∃ p, fr.homes ts (bvOf w gb) p = some (.sl e l, ({ tmps := ts, defers := ds } : Act).eval x) := fun k hk2 =>
    hfrom 0 0 _ _ k (by simp [homeS, Md.home1, own?, av1, val1]) hk2
  have l12 := l1.trans l2
  have hrel : StepRel C G gb fr ts w G2 gb fr2 ts w' true := {
    size := hgr.size
    home := fun p' T' l' v' k hp hk _ => by
      rw [hh3] at hp
      exact ⟨p', l', v', l12.homes _ _ _ hp, hk, Nat.le_refl _⟩
    gs := fun b hb _ => (l12.back b hb).imp id fun ⟨p, a, v, q1, q2, _⟩ => ⟨p, a, v, q1, q2⟩
    box := fun n cs' hn _ => by
      obtain ⟨c3, hc3⟩ := (l12.box n).1 ⟨cs', hn⟩
      exact ⟨n, c3, hc3, rfl⟩
    keep := fun _ b hb => by
      by_cases e : some b = (({ tmps := ts, defers := ds } : Act).eval x).ownBlock
      · obtain ⟨p, hp⟩ := hxhome b e.symm
        refine .inr ⟨p, _, l, _, hp, e.symm, fun z' s' bb hi2 o ho => ?_⟩
        rw [hi] at hi2; cases hi2
        exact hlive b o e.symm ho
      · exact .inl (hgr.block b hb e)
    far := fun b hb => by
      by_cases e : some b = (({ tmps := ts, defers := ds } : Act).eval x).ownBlock
      · obtain ⟨p, hp⟩ := hxhome b e.symm
        exact .inr (.inl ⟨p, _, _, hp, e.symm⟩)
      · exact .inl (hgr.block b hb e) }
  refine wp_val2 i3 hrel (x := (.sl e (l ++ m), .uni .own)) (v := v') ?_ (.inl ?_) ?_ (fun c j T3 l3 u k hx hk2 hlt => ?_) l12.dead hk
  · simp only [execOp, resolve, List.map_toArray, List.map_cons, List.map_nil, invoke, builtin, hyv]
    simp only [Sem.run_bind, Sem.run_pure, Result.andThen_ok, hyv, hrun]
  · show OwnR C G2 w0.heap.size w' _ _
    refine ⟨e, _, z, s, bytes, _, rfl, hi, by rw [hlen]; exact how', fun k j hk hj hz => ?_, fun k j hk hj => ?_⟩
    · rw [hlen] at hk
      by_cases hkl : k < l.length
      · have : (l ++ m).getD k .undef = l.getD k .undef := by simp [List.getD_eq_getElem?_getD, List.getElem?_append_left hkl]
        rw [this]; exact hp k j hkl hj hz
      · have : (l ++ m).getD k .undef = m.getD (k - l.length) .undef := by simp [List.getD_eq_getElem?_getD, List.getElem?_append_right (Nat.le_of_not_lt hkl)]
        rw [this]; exact hpl (k - l.length) j (by omega) hj hz
    · rw [hlen] at hk
      by_cases hkl : k < l.length
      · have : (l ++ m).getD k .undef = l.getD k .undef := by simp [List.getD_eq_getElem?_getD, List.getElem?_append_left hkl]
        rw [this]
        obtain ⟨c, hc, hf⟩ := hr k j hkl hj
        have hlt := (List.getElem?_eq_some_iff.1 hc).1
        exact ⟨c, by rw [List.getElem?_append_left hlt]; exact hc, (hf.mono l2.mono fun _ _ => rfl).mono (fun _ h => h) hG2⟩
      · have : (l ++ m).getD k .undef = m.getD (k - l.length) .undef := by simp [List.getD_eq_getElem?_getD, List.getElem?_append_right (Nat.le_of_not_lt hkl)]
        rw [this]
        have hxl := how.1
        have hk2 : k * s + j - xs.length = (k - l.length) * s + j := by
          rw [hxl, Nat.sub_mul]
          have : l.length * s ≤ k * s := Nat.mul_le_mul_right _ (by omega)
          omega
        have hge : xs.length ≤ k * s + j := by
          rw [hxl]
          have : l.length * s ≤ k * s := Nat.mul_le_mul_right _ (by omega)
          omega
        refine ⟨cv (k - l.length) j, by rw [List.getElem?_append_right hge, hk2]; exact hnc (k - l.length) j (by omega) hj, ?_⟩
        have hf := hcr (k - l.length) j (by omega) hj
        rcases hyS with hfl | hS
        · have hsc := hpl (k - l.length) j (by omega) hj (flat_plain ok hfl hi hj)
          obtain ⟨u, hu⟩ := isSc_eq hsc
          rw [hu] at hf ⊢
          generalize cv (k - l.length) j = vv at hf
          cases hf
          rename_i h1
          exact .sc _ h1
        · exact (hf.mono hS fun _ _ => rfl).mono (fun _ h => h) hG2
  · refine freshSl fun k hk2 => ?_
    rcases hblk k hk2 with hk3 | rfl
    · obtain ⟨q1, q2, q3⟩ := hfree k hk3
      exact ⟨q1, q2, fun p a u hp => by rw [hh3] at hp; exact q3 p a u hp⟩
    · refine ⟨fun hg => Nat.lt_irrefl _ (i2.gs _ hg), fun d cs hd => ?_, fun p a2 u hp hk3 => ?_⟩
      · have := i2.gb_lt hd; omega
      · rw [hh3] at hp
        have := ((i2.own hp).lt _ hk3).2
        omega
  · simp only [homeS] at hx
    split at hx
    · obtain ⟨q1, q2⟩ := own?_some hx
      simp only [Prod.mk.injEq, av1, val1, AV.sl.injEq] at q2
      obtain ⟨⟨rfl, rfl⟩, rfl⟩ := q2
      rcases hblk k hk2 with hk3 | rfl
      · obtain ⟨p, hp⟩ := hxhome k hk3
        exact ⟨p, l, _, hp, hk3, by simp⟩
      · exact absurd hlt (Nat.lt_irrefl _)
    · simp at hx
end

end Go.Dam
