/-
  One operation of the model does what the abstract machine says: new variables, stores, literals, aggregates.
-/
import Derived.Test.YtcammfdljiingaaAbsOp3
import Derived.Laws.Tables
namespace Go.Abs
set_option linter.unusedSimpArgs false
set_option linter.unusedVariables false
section
variable {P : Program} {o : Oper} {a : Act} {w : World} {G : Ghost} {h : Heap} {c : Operand → Option Opd} {ev : Opd → AVal} {r : AVal} {h' : Heap}

/-- An array of values stands for a list, place by place. -/
structure Pts (w : World) (G : Ghost) (cs : Array Value) (as : List AVal) : Prop where
  len : cs.size = as.length
  rel : ∀ (k : Nat) (c : Value) (a : AVal), cs[k]? = some c → as[k]? = some a → VRel w G c a

theorem cells_rel {v : Value} {x : AVal} (r : VRel w G v x) (h1 : x.cells.all AVal.one = true) : Pts w G v.cells x.cells := by
  cases x with
  | agg cs => cases r with
    | agg as _ hl hr h4 => exact ⟨hl, hr⟩
  | tup cs => simp [AVal.cells, AVal.one] at h1
  | bad => simp [AVal.cells, AVal.one] at h1
  | rp cs => simp [AVal.cells, AVal.one] at h1
  | _ =>
    have hc := (r.one rfl).2
    rw [hc]
    refine ⟨rfl, fun k c a hk ha => ?_⟩
    cases k with
    | zero => simp [AVal.cells] at hk ha; subst hk; subst ha; exact r
    | succ k => simp at hk

theorem setCells_len : ∀ (xs cs : List AVal) (i : Nat), (setCells cs i xs).length = cs.length
  | [], cs, i => rfl
  | x :: xs, cs, i => by simp [setCells, setCells_len xs]

theorem setCells_get : ∀ (xs cs : List AVal) (i k : Nat), i + xs.length ≤ cs.length → (setCells cs i xs)[k]? = if i ≤ k ∧ k < i + xs.length then xs[k - i]? else cs[k]?
  | [], cs, i, k, _ => by simp [setCells]; intro h1 h2; omega
  | x :: xs, cs, i, k, hl => by
    simp only [List.length_cons] at hl
    rw [setCells, setCells_get xs (cs.set i x) (i + 1) k (by simp; omega)]
    by_cases e : k = i
    · subst e
      rw [if_neg (by omega), if_pos (by simp)]
      simp [List.getElem?_set, show k < cs.length by omega]
    · by_cases e2 : i + 1 ≤ k ∧ k < i + 1 + xs.length
      · rw [if_pos e2, if_pos (by simp; omega), show k - i = (k - (i + 1)) + 1 by omega, List.getElem?_cons_succ]
      · rw [if_neg e2, if_neg (by simp; omega), List.getElem?_set_ne (by omega)]

theorem foldl_set (off : Nat) : ∀ (l : List Value) (n : Nat) (cs : Array Value), off + n + l.length ≤ cs.size →
    ((l.zipIdx n).foldl (fun cs (p : Value × Nat) => cs.setIfInBounds (off + p.2) p.1) cs).size = cs.size ∧
    ∀ k : Nat, ((l.zipIdx n).foldl (fun cs (p : Value × Nat) => cs.setIfInBounds (off + p.2) p.1) cs)[k]? = if off + n ≤ k ∧ k < off + n + l.length then l[k - (off + n)]? else cs[k]?
  | [], n, cs, _ => ⟨rfl, fun k => by simp; intro h1 h2; omega⟩
  | v :: l, n, cs, hl => by
    simp only [List.length_cons] at hl
    obtain ⟨e1, e2⟩ := foldl_set off l (n + 1) (cs.setIfInBounds (off + n) v) (by simp; omega)
    simp only [List.zipIdx_cons, List.foldl_cons]
    refine ⟨by rw [e1]; simp, fun k => ?_⟩
    rw [e2 k]
    by_cases e : k = off + n
    · subst e
      rw [if_neg (by omega), if_pos (by simp)]
      simp [Array.getElem?_setIfInBounds, show off + n < cs.size by omega]
    · by_cases h3 : off + (n + 1) ≤ k ∧ k < off + (n + 1) + l.length
      · rw [if_pos h3, if_pos (by simp; omega), show k - (off + n) = (k - (off + (n + 1))) + 1 by omega, List.getElem?_cons_succ]
      · rw [if_neg h3, if_neg (by simp; omega), Array.getElem?_setIfInBounds_ne (by omega)]

/-- Parts are written into an aggregate. -/
theorem fill_ok {plc : Nat → Option (Nat × Nat)} : ∀ {ps : List (Nat × Value)} {qs : List (Nat × Nat × AVal)} {cs : Array Value} {as as' : List AVal}, ps.length = qs.length →
    (∀ (k : Nat) (p : Nat × Value) (q : Nat × Nat × AVal), ps[k]? = some p → qs[k]? = some q → plc p.1 = some (q.1, q.2.1) ∧ VRel w G p.2 q.2.2) → Pts w G cs as → (∀ x ∈ as, x.one = true) → fillA as qs = some as' →
    ∃ cs', Instr.fill plc cs ps = some cs' ∧ Pts w G cs' as' ∧ (∀ x ∈ as', x.one = true) ∧ as'.length = as.length
  | [], [], cs, as, as', _, _, hp, ho, e => by simp [fillA] at e; subst e; exact ⟨cs, rfl, hp, ho, rfl⟩
  | (i, v) :: ps, (off, n, x) :: qs, cs, as, as', hl, hk, hp, ho, e => by
    simp only [fillA] at e
    split at e
    · rename_i hc
      obtain ⟨hc1, hc2, hc3⟩ := hc
      obtain ⟨hpl, hv⟩ := hk 0 (i, v) (off, n, x) rfl rfl
      have hr := cells_rel hv hc3
      have hsz : v.cells.size = n := by rw [hr.len]; exact hc1
      have hbig : ¬ (off + v.cells.size > cs.size) := by rw [hsz, hp.len]; omega
      obtain ⟨f1, f2⟩ := foldl_set off v.cells.toList 0 cs (by simp only [Array.length_toList, Nat.add_zero]; omega)
      have hfold : v.cells.zipIdx.foldl (fun cs (p : Value × Nat) => cs.setIfInBounds (off + p.2) p.1) cs = (v.cells.toList.zipIdx 0).foldl (fun cs (p : Value × Nat) => cs.setIfInBounds (off + p.2) p.1) cs := by
        rw [← Array.foldl_toList, Array.toList_zipIdx]
      have hp' : Pts w G (v.cells.zipIdx.foldl (fun cs (p : Value × Nat) => cs.setIfInBounds (off + p.2) p.1) cs) (setCells as off x.cells) := by
        rw [hfold]
        refine ⟨by rw [f1, setCells_len, hp.len], fun k c a hkc hka => ?_⟩
        rw [f2 k] at hkc
        rw [setCells_get _ _ _ _ (by rw [hc1]; omega)] at hka
        simp only [Array.length_toList, Nat.add_zero, hsz] at hkc
        rw [hc1] at hka
        split at hkc
        · rename_i hin
          rw [if_pos hin] at hka
          exact hr.rel (k - off) c a (by simpa using hkc) hka
        · rename_i hin
          rw [if_neg hin] at hka
          exact hp.rel k c a hkc hka
      have ho' : ∀ y ∈ setCells as off x.cells, y.one = true := by
        intro y hy
        obtain ⟨k, hk'⟩ := mem_get hy
        rw [setCells_get _ _ _ _ (by rw [hc1]; omega)] at hk'
        split at hk'
        · exact List.all_eq_true.1 hc3 y (List.mem_of_getElem? hk')
        · exact ho y (List.mem_of_getElem? hk')
      obtain ⟨cs', g1, g2, g3, g4⟩ := fill_ok (ps := ps) (qs := qs) (by simpa using hl) (fun k p q h1 h2 => hk (k + 1) p q (by simpa using h1) (by simpa using h2)) hp' ho' e
      refine ⟨cs', ?_, g2, g3, by rw [g4, setCells_len]⟩
      simp only [Instr.fill, hpl, hsz, bne_self_eq_false, Bool.false_or]
      rw [if_neg (by rw [hsz] at hbig; simpa using hbig)]
      exact g1
    · simp at e

theorem Pts.mono {w' : World} {G' : Ghost} {h'' : Heap} (x : Ext w G h w' G' h'') {cs : Array Value} {as : List AVal} (p : Pts w G cs as) : Pts w' G' cs as := ⟨p.len, fun k c a hc ha => (p.rel k c a hc ha).mono x⟩

theorem small_ty {sz : Nat} (h : small sz = true) {p : TypeId → Prop} : ∀ T, sz = typed T → p T := fun T hT => by
  simp only [small, decide_eq_true_eq] at h; simp only [typed] at hT; omega

/-- A new block that the abstract heap owns as a row. -/
theorem new_row (H : HRel w G h) (arr : Array Value) (e : TypeId) (sz : Nat) (ag : Bool) (cs : List AVal) (hle : cs.length ≤ arr.size) (hrel : ∀ (k : Nat) (c : Value) (x : AVal), arr[k]? = some c → cs[k]? = some x → VRel w G c x)
    (hone : ∀ x ∈ cs, x.one = true) (hty : ∀ T, sz = typed T → e = T ∧ arr.size = cs.length) : Ext w G h (w.alloc (.cells arr e)) (G.new w.heap.size 0 (some 0)) (h.push (.row true sz ag cs)) ∧ HRel (w.alloc (.cells arr e)) (G.new w.heap.size 0 (some 0)) (h.push (.row true sz ag cs)) ∧
      (G.new w.heap.size 0 (some 0)).loc h.next = w.heap.size ∧ h.next < (G.new w.heap.size 0 (some 0)).n ∧ (w.alloc (.cells arr e)).shape? w.heap.size = some (e, arr.size) := by
  have hX := Ext.alloc_obj H arr e 0 (some 0) (.row true sz ag cs)
  have hloc : (G.new w.heap.size 0 (some 0)).loc G.n = w.heap.size := by simp [Ghost.new]
  have hsh : (w.alloc (.cells arr e)).shape? w.heap.size = some (e, arr.size) := by
    unfold World.shape?; rw [heap_alloc_new]
  refine ⟨hX, HRel.alloc_obj H arr e 0 (some 0) _ ?_, by rw [← H.n_eq]; exact hloc, by simp [Ghost.new, H.n_eq], hsh⟩
  unfold OkObj
  rw [hloc]
  refine ⟨by simp [Ghost.new], fun k x hk => ?_, hone, ⟨e, arr.size, hsh, hle, hty⟩, fun _ k e' n' hs hk => by unfold World.frozen?; rw [heap_alloc_new]; simp⟩
  have hlt : k < arr.size := Nat.lt_of_lt_of_le (List.getElem?_eq_some_iff.1 hk).1 hle
  refine ⟨arr[k], by rw [World.cell?_alloc_new]; exact Array.getElem?_eq_getElem hlt, (hrel k _ x (Array.getElem?_eq_getElem hlt) hk).mono hX⟩

theorem op_alloc (H : HRel w G h) {t : TypeId} {sz : Nat} {ag : Bool} {z : List AVal} (hs : tSize P t = some sz) (hz : tZero P t = some z) (hop : o.op = .alloc t)
    (e : evalA (.alloc t sz ag z) ev h = some (r, h')) : OpRes P o a w G h r h' := by
  simp only [evalA] at e
  split at e
  · simp at e; obtain ⟨rfl, rfl⟩ := e
    obtain ⟨i, v, hi, hv, h1, h2, h3⟩ := tZero_ok hz
    obtain ⟨x1, x2, x3, x4, x5⟩ := new_row H v.cells t (typed t) ag z (Nat.le_of_eq h1.symm) (h3 w G) h2 (fun T hT => ⟨(Nat.add_left_cancel hT : t = T), h1⟩)
    refine ⟨.pointer (some ⟨w.heap.size, 0, none⟩), _, _, .inl ?_, x1, x2, ?_⟩
    · simp [execOp, hop, Instr.alloc, run_zeroValue' hi hv, newVar, newRow]
    · have := VRel.ptr (w := w.alloc (.cells v.cells t)) (G := G.new w.heap.size 0 (some 0)) h.next 0 x4
      rwa [x3] at this
  · simp at e

theorem op_box (H : HRel w G h) (hc : Ops a w G c ev) {x : Operand} {x' : Opd} {t : TypeId} {sz : Nat} {ag : Bool} (hx : c x = some x') (hs : tSize P t = some sz) (hop : o.op = .box t x)
    (e : evalA (.box sz ag x') ev h = some (r, h')) : OpRes P o a w G h r h' := by
  have rx := hc _ _ hx
  simp only [evalA] at e
  split at e
  · rename_i hcond
    simp at e; obtain ⟨rfl, rfl⟩ := e
    have hp := cells_rel rx hcond.2
    obtain ⟨x1, x2, x3, x4, x5⟩ := new_row H (a.eval x).cells t 0 ag (ev x').cells (Nat.le_of_eq hp.len.symm) hp.rel (fun y hy => List.all_eq_true.1 hcond.2 y hy) (fun T hT => by simp only [typed] at hT; omega)
    refine ⟨.pointer (some ⟨w.heap.size, 0, none⟩), _, _, .inl ?_, x1, x2, ?_⟩
    · simp [execOp, hop, Instr.box, newVar, newRow]
    · have := VRel.ptr (w := w.alloc (.cells (a.eval x).cells t)) (G := G.new w.heap.size 0 (some 0)) h.next 0 x4
      rwa [x3] at this
  · simp at e

/-- A row that may change, and is written. -/
theorem write_row (H : HRel w G h) {id sz off : Nat} {ag : Bool} {cs xs : List AVal} {vs : List Value} {w1 : World} (hg : h.get id = some (.row true sz ag cs)) (hw : Wrote w (G.loc id) off vs w1) (hl : vs.length = xs.length)
    (hv : ∀ (k : Nat) (v : Value) (x : AVal), vs[k]? = some v → xs[k]? = some x → VRel w G v x) (hone : ∀ x ∈ xs, x.one = true) (hb : off + xs.length ≤ cs.length) :
    ∃ G', Ext w G h w1 G' (h.put id (some (.row true sz ag (setCells cs off xs)))) ∧ HRel w1 G' (h.put id (some (.row true sz ag (setCells cs off xs)))) := by
  obtain ⟨h1, h2, h3, h4, h5⟩ := H.obj id _ hg
  have hns : ∀ k, ¬ stab G (G.loc id) k := fun k hk => by have := hk 0 h1; omega
  have ht : Turned w G (G.loc id) w1 (some 0) := ⟨hw.os, hw.tape, hw.out, hw.size, hw.other, hw.shape, fun k hk => absurd hk (hns k), fun k hk => absurd hk (hns k)⟩
  have hX := Ext.update hg ht (some (.row true sz ag (setCells cs off xs)))
  refine ⟨_, hX, HRel.update H hg ht _ fun o ho => ?_⟩
  obtain rfl := Option.some.inj ho
  unfold OkObj
  have hloc : (G.at (G.loc id) (some 0)).loc id = G.loc id := rfl
  simp only [hloc, hw.shape, hw.frozen]
  refine ⟨by simp [Ghost.at], fun k x hk => ?_, fun x hx => ?_, ?_, ?_⟩
  · rw [setCells_get _ _ _ _ hb] at hk
    rw [hw.cell k]
    split at hk
    · rename_i hin
      rw [if_pos (by omega)]
      obtain ⟨v, hv'⟩ : ∃ v, vs[k - off]? = some v := ⟨_, List.getElem?_eq_getElem (by omega)⟩
      exact ⟨v, hv', (hv _ v x hv' hk).mono hX⟩
    · rename_i hin
      rw [if_neg (by omega)]
      exact (h2 k x hk).imp fun u hu => ⟨hu.1, hu.2.mono hX⟩
  · obtain ⟨k, hk⟩ := mem_get hx
    rw [setCells_get _ _ _ _ hb] at hk
    split at hk
    · exact hone x (List.mem_of_getElem? hk)
    · exact h3 x (List.mem_of_getElem? hk)
  · obtain ⟨e, n, hs, hn, hT⟩ := h4
    exact ⟨e, n, hs, by rw [setCells_len]; exact hn, by rw [setCells_len]; exact hT⟩
  · exact fun _ => h5 rfl

/-- The cells of a row that may change may be written. -/
theorem row_writable (H : HRel w G h) {id sz off : Nat} {ag : Bool} {cs : List AVal} {vs : List Value} (hg : h.get id = some (.row true sz ag cs)) (hb : off + vs.length ≤ cs.length) (h1 : ∀ v ∈ vs, v.oneCell' = true) :
    ∃ w1, (storeCells ⟨G.loc id, off, none⟩ vs 0).run P w = .ok () w1 ∧ Wrote w (G.loc id) off vs w1 := by
  obtain ⟨_, h2, _, h4, h5⟩ := H.obj id _ hg
  obtain ⟨e, n, hs, hn, _⟩ := h4
  refine run_storeCells_ex (P := P) (G.loc id) off vs 0 w (fun j hj => ?_) h1
  rw [Nat.add_zero]
  obtain ⟨x, hx⟩ : ∃ x, cs[off + j]? = some x := ⟨_, List.getElem?_eq_getElem (by omega)⟩
  obtain ⟨u, hu, _⟩ := h2 _ x hx
  exact ⟨⟨u, hu⟩, h5 rfl _ e n hs (by omega)⟩

theorem op_store (H : HRel w G h) (hc : Ops a w G c ev) {x y : Operand} {x' y' : Opd} {t : TypeId} {n : Nat} (hx : c x = some x') (hy : c y = some y') (hs : tSize P t = some n) (hop : o.op = .store t x y)
    (e : evalA (.store n x' y') ev h = some (r, h')) : OpRes P o a w G h r h' := by
  have rx := hc _ _ hx
  have ry := hc _ _ hy
  simp only [evalA, Option.map_eq_some_iff, Prod.mk.injEq] at e
  obtain ⟨h1, e, rfl, rfl⟩ := e
  unfold storeA at e
  split at e
  · rename_i id off hb
    rw [hb] at rx; generalize hv : a.eval x = v at rx
    split at e
    · rename_i s ag cs hg
      split at e
      · rename_i hcond
        obtain ⟨hc1, hc2, hc3⟩ := hcond
        obtain rfl := Option.some.inj e
        cases rx with
        | ptr _ _ hid =>
          have hp := cells_rel ry hc3
          have hl : (a.eval y).cells.toList.length = (ev y').cells.length := by simpa using hp.len
          have hone : ∀ z ∈ (ev y').cells, z.one = true := fun z hz => List.all_eq_true.1 hc3 z hz
          have hrel : ∀ (k : Nat) (v : Value) (z : AVal), (a.eval y).cells.toList[k]? = some v → (ev y').cells[k]? = some z → VRel w G v z := fun k v z h1 h2 => hp.rel k v z (by simpa using h1) h2
          have h1c : ∀ v ∈ (a.eval y).cells.toList, v.oneCell' = true := fun v hv => by
            obtain ⟨k, hk⟩ := mem_get hv
            obtain ⟨z, hz⟩ : ∃ z, (ev y').cells[k]? = some z := ⟨_, List.getElem?_eq_getElem (by rw [← hl]; exact (List.getElem?_eq_some_iff.1 hk).1)⟩
            exact ((hrel k v z hk hz).one (hone z (List.mem_of_getElem? hz))).1
          obtain ⟨w1, hr, hw⟩ := row_writable (P := P) H hg (off := off) (vs := (a.eval y).cells.toList) (by rw [hl, hc1]; exact hc2) h1c
          obtain ⟨G', x1, x2⟩ := write_row H hg hw hl hrel hone (by rw [hc1]; exact hc2)
          refine ⟨undef, w1, G', .inr ⟨?_, rfl⟩, x1, x2, .tup #[] [] rfl (by simp)⟩
          have hsz : (a.eval y).cells.size = n := by rw [hp.len]; exact hc1
          simp [execOp, hop, hv, Instr.storeAt, Instr.sureAddr, storeVar, run_sizeOf' hs, hsz, hr]
      · simp at e
    · simp at e
  · simp at e

/-! ### literals -/

theorem repl_len (n : Nat) (z : List AVal) : (repl n z).length = n * z.length := by simp [repl, List.length_flatten]

theorem repl_get (z : List AVal) : ∀ (n k : Nat), k < n * z.length → (repl n z)[k]? = z[k % z.length]?
  | 0, k, h => by simp at h
  | n + 1, k, h => by
    have e : repl (n + 1) z = z ++ repl n z := by simp [repl, List.replicate_succ]
    rw [e]
    by_cases hk : k < z.length
    · rw [List.getElem?_append_left hk, Nat.mod_eq_of_lt hk]
    · rw [List.getElem?_append_right (by omega), repl_get z n (k - z.length) (by rw [Nat.succ_mul] at h; omega)]
      congr 1
      rw [← Nat.mod_eq_sub_mod (by omega)]

/-- The cells of a new array of zeros. -/
theorem zero_pts {v : Value} {z : List AVal} (hl : v.cells.size = z.length) (hr : ∀ (k : Nat) (u : Value) (x : AVal), v.cells[k]? = some u → z[k]? = some x → VRel w G u x) (m n : Nat) (hmn : m ≤ n * z.length) :
    ∀ (k : Nat) (c : Value) (x : AVal), ((Array.range m).map (v.cells[· % v.cells.size]!))[k]? = some c → (repl n z)[k]? = some x → VRel w G c x := by
  intro k c x hc hx
  simp only [Array.getElem?_map, Option.map_eq_some_iff] at hc
  obtain ⟨k', hk', rfl⟩ := hc
  rw [Array.getElem?_range] at hk'
  split at hk'
  · rename_i hlt
    obtain rfl := Option.some.inj hk'
    rw [repl_get z n k (by omega)] at hx
    have hpos : 0 < z.length := by
      rcases Nat.eq_zero_or_pos z.length with h0 | h0
      · rw [h0] at hmn; simp at hmn; omega
      · exact h0
    refine hr (k % z.length) _ x ?_ hx
    rw [hl, getElem!_pos v.cells (k % z.length) (by rw [hl]; exact Nat.mod_lt _ hpos)]
    exact Array.getElem?_eq_getElem _
  · simp at hk'

theorem parts_ok (hc : Ops a w G c ev) {ps : List (Nat × Operand)} {qs : List (Nat × Opd)} (e : compParts c ps = some qs) : ps.length = qs.length ∧ ∀ (k : Nat) (p : Nat × Operand) (q : Nat × Opd), ps[k]? = some p → qs[k]? = some q → p.1 = q.1 ∧ VRel w G (a.eval p.2) (ev q.2) := by
  obtain ⟨e1, e2⟩ := optL_ok e
  refine ⟨e1, fun k p q hp hq => ?_⟩
  obtain ⟨y, hy, hy'⟩ := e2 k p hp
  rw [hq] at hy; obtain rfl := Option.some.inj hy
  simp only [Option.map_eq_some_iff] at hy'
  obtain ⟨z, hz, rfl⟩ := hy'
  exact ⟨rfl, hc _ _ hz⟩

theorem mapM_places : ∀ {fs : List Field}, fs.all (fun f => (tSize P f.type).isSome) = true → fs.mapM (fun f => (P.info? f.type).map fun i => (f.offset, i.size)) = some (fs.map fun (f : Field) => (f.offset, (tSize P f.type).getD 0))
  | [], _ => rfl
  | f :: fs, h => by
    simp only [List.all_cons, Bool.and_eq_true] at h
    obtain ⟨n, hn⟩ := Option.isSome_iff_exists.1 h.1
    obtain ⟨i, hi, rfl⟩ := tSize_some hn
    simp [List.mapM_cons, hi, mapM_places h.2, tSize]

theorem op_build_struct (H : HRel w G h) (hc : Ops a w G c ev) {t : TypeId} {fs : Array Field} {z : List AVal} {ps : Array (Nat × Operand)} {qs : List (Nat × Opd)} {qs' : List (Nat × Nat × Opd)} (ht : P.underlying t = some (.struct fs)) (hz : tZero P t = some z)
    (hp : compParts c ps.toList = some qs) (hall : fs.toList.all (fun f => (tSize P f.type).isSome) = true) (hq : optL (fun p : Nat × Opd => (place P fs p.1).map fun q => (q.1, q.2, p.2)) qs = some qs') (hop : o.op = .build t ps)
    (e : evalA (.build z qs') ev h = some (r, h')) : OpRes P o a w G h r h' := by
  simp only [evalA, Option.map_eq_some_iff, Prod.mk.injEq] at e
  obtain ⟨cs, e, rfl, rfl⟩ := e
  obtain ⟨i, v, hi, hv, h1, h2, h3⟩ := tZero_ok hz
  obtain ⟨p1, p2⟩ := parts_ok hc hp
  obtain ⟨q1, q2⟩ := optL_ok hq
  have hplace : ∀ i : Nat, ((fs.toList.map fun (f : Field) => (f.offset, (tSize P f.type).getD 0)).toArray)[i]? = (fs[i]?).map fun (f : Field) => (f.offset, (tSize P f.type).getD 0) := fun i => by simp
  obtain ⟨cs', g1, g2, g3, g4⟩ := fill_ok (w := w) (G := G) (plc := fun (i : Nat) => ((fs.toList.map fun (f : Field) => (f.offset, (tSize P f.type).getD 0)).toArray)[i]?) (ps := (ps.map fun (p : Nat × Operand) => (p.1, a.eval p.2)).toList) (qs := qs'.map fun p => (p.1, p.2.1, ev p.2.2)) (cs := v.cells) (as := z) (as' := cs)
    (by simp [← q1, ← p1]) (fun k p q hp' hq' => by
      simp only [Array.toList_map, List.getElem?_map, Option.map_eq_some_iff] at hp' hq'
      obtain ⟨p0, hp0, rfl⟩ := hp'
      obtain ⟨q0, hq0, rfl⟩ := hq'
      obtain ⟨qm, hqm⟩ : ∃ qm, qs[k]? = some qm := ⟨_, List.getElem?_eq_getElem (by rw [q1]; exact (List.getElem?_eq_some_iff.1 hq0).1)⟩
      obtain ⟨q3, hq3, hq4⟩ := q2 k qm hqm
      rw [hq0] at hq3; obtain rfl := Option.some.inj hq3
      obtain ⟨e1, e2⟩ := p2 k p0 qm hp0 hqm
      simp only [Option.map_eq_some_iff] at hq4
      obtain ⟨pl, hpl, rfl⟩ := hq4
      refine ⟨?_, e2⟩
      rw [hplace, e1]
      unfold place at hpl
      split at hpl
      · rename_i f hf
        simp only [Option.map_eq_some_iff] at hpl
        obtain ⟨n, hn, rfl⟩ := hpl
        simp [hf, hn]
      · simp at hpl) ⟨h1, h3 w G⟩ h2 e
  refine OpRes.same H (v := .agg cs') ?_ (.agg _ _ g2.len g2.rel g3)
  have hbuilt : P.built t (ps.map fun (p : Nat × Operand) => (p.1, a.eval p.2)).toList = some cs' := by
    unfold Program.built
    simp only [hi, ht, hv, mapM_places hall]
    exact g1
  simp [execOp, hop, run_build w t _ _ hbuilt]

theorem op_build_array (H : HRel w G h) (hc : Ops a w G c ev) {t el : TypeId} {n sz : Nat} {z : List AVal} {ps : Array (Nat × Operand)} {qs : List (Nat × Opd)} (ht : P.underlying t = some (.array n el)) (hz : tZero P t = some z)
    (hs : tSize P el = some sz) (hp : compParts c ps.toList = some qs) (hop : o.op = .build t ps)
    (e : evalA (.build z (qs.map fun p => (p.1 * sz, sz, p.2))) ev h = some (r, h')) : OpRes P o a w G h r h' := by
  simp only [evalA, Option.map_eq_some_iff, Prod.mk.injEq] at e
  obtain ⟨cs, e, rfl, rfl⟩ := e
  obtain ⟨i, v, hi, hv, h1, h2, h3⟩ := tZero_ok hz
  obtain ⟨p1, p2⟩ := parts_ok hc hp
  obtain ⟨cs', g1, g2, g3, g4⟩ := fill_ok (w := w) (G := G) (plc := fun i => some (i * sz, sz)) (ps := (ps.map fun (p : Nat × Operand) => (p.1, a.eval p.2)).toList) (qs := (qs.map fun p => (p.1 * sz, sz, p.2)).map fun p => (p.1, p.2.1, ev p.2.2)) (cs := v.cells) (as := z) (as' := cs)
    (by simp [← p1]) (fun k p q hp' hq' => by
      simp only [Array.toList_map, List.getElem?_map, Option.map_eq_some_iff] at hp' hq'
      obtain ⟨p0, hp0, rfl⟩ := hp'
      obtain ⟨q1, ⟨q0, hq0, rfl⟩, rfl⟩ := hq'
      obtain ⟨e1, e2⟩ := p2 k p0 q0 hp0 hq0
      exact ⟨by rw [e1], e2⟩) ⟨h1, h3 w G⟩ h2 e
  refine OpRes.same H (v := .agg cs') ?_ (.agg _ _ g2.len g2.rel g3)
  simp only [execOp, hop, Instr.build, Sem.run_bind, run_zeroValue' hi hv, Result.andThen_ok, run_underlying ht, run_sizeOf' hs, Sem.run_pure]
  rw [show (fun x => match x with | (i, x) => (i, a.eval x)) = (fun (p : Nat × Operand) => (p.1, a.eval p.2)) from rfl, g1]
  rfl
end
end Go.Abs
