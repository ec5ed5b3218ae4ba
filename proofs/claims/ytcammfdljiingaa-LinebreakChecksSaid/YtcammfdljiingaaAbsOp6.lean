/-
  One operation of the model does what the abstract machine says: append and copy.
-/
import Derived.Test.YtcammfdljiingaaAbsOp5
namespace Go.Abs
set_option linter.unusedSimpArgs false
set_option linter.unusedVariables false
section
variable {P : Program} {o : Oper} {a : Act} {w : World} {G : Ghost} {h : Heap} {c : Operand → Option Opd} {ev : Opd → AVal} {r : AVal} {h' : Heap}

/-- What is appended or copied, as the model reads it. -/
structure Elems (P : Program) (w : World) (G : Ghost) (sz : Nat) (yv : Value) (m : Nat) (newsA : List AVal) (news : List Value) : Prop where
  lenOf : (Builtin.lenOf yv).run P w = .ok m w
  first : ∀ (w' : World) (n : Nat), w'.heap = w.heap → n ≤ m → (Builtin.firstCells sz n yv).run P w' = .ok (news.take (n * sz)).toArray w'
  len : news.length = m * sz
  lenA : newsA.length = m * sz
  rel : ∀ (k : Nat) (v : Value) (x : AVal), news[k]? = some v → newsA[k]? = some x → VRel w G v x
  one : ∀ x ∈ newsA, x.one = true

theorem Elems.one' {sz m : Nat} {yv : Value} {newsA : List AVal} {news : List Value} (E : Elems P w G sz yv m newsA news) : ∀ v ∈ news, v.oneCell' = true := by
  intro v hv
  obtain ⟨k, hk⟩ := mem_get hv
  obtain ⟨x, hx⟩ : ∃ x, newsA[k]? = some x := ⟨_, List.getElem?_eq_getElem (by rw [E.lenA, ← E.len]; exact (List.getElem?_eq_some_iff.1 hk).1)⟩
  exact ((E.rel k v x hk hx).one (E.one x (List.mem_of_getElem? hx))).1

theorem elems_cells {sz m cp b off : Nat} {newsA : List AVal} (hC : CellsAt w G b off newsA) (hl : newsA.length = m * sz) (hone : ∀ x ∈ newsA, x.one = true) : ∃ news, Elems P w G sz (.slice (some ⟨b, off, none⟩) m cp) m newsA news := by
  obtain ⟨vs, e1, e2, e3⟩ := hC.vals
  refine ⟨vs, by simp [Builtin.lenOf], fun w' n hw hn => ?_, by rw [e1, hl], hl, e3, hone⟩
  have hlt : (vs.take (n * sz)).length = n * sz := by
    rw [List.length_take, e1, hl]; exact Nat.min_eq_left (Nat.mul_le_mul_right _ hn)
  refine run_firstCells_some w' sz n ⟨b, off, none⟩ m cp (vs.take (n * sz)) hlt (fun j v hj => ?_)
  rw [List.getElem?_take] at hj
  split at hj
  · have := e2 j v hj
    rw [Addr.add_lit]
    simpa [World.cell?, hw] using this
  · simp at hj

theorem elems_ok (H : HRel w G h) {sz m : Nat} {y : AVal} {yv : Value} {newsA : List AVal} (ry : VRel w G yv y) (hm : lenA y = some m) (hn : elemsA h sz y = some newsA) : ∃ news, Elems P w G sz yv m newsA news := by
  unfold elemsA at hn
  split at hn
  · rename_i ys tk
    simp [lenA] at hm; subst hm
    split at hn
    · rename_i hhead
      obtain rfl := Option.some.inj hn
      cases ry with
      | nilsl => exact ⟨[], by simp [Builtin.lenOf], fun w' n _ hn => by simp [Builtin.firstCells], by simp, by simp [flat], by simp, by simp [flat]⟩
      | sl b off cap sz0 _ _ u h0 h1 h2 h3 h4 h5 hcp hnn ho =>
        refine elems_cells (fun k x hk => ⟨u k, h1 k x hk, h2 k x hk⟩) ?_ h4
        cases ys with
        | nil => simp [flat]
        | cons y ys =>
          have := flat_len h0
          rw [this, ← h0 y (by simp), hhead y rfl]
    · simp at hn
  · rename_i id off len s
    simp [lenA] at hm; subst hm
    split at hn
    · rename_i hs
      subst hs
      split at hn
      · rename_i mu s' ag' cs hg
        split at hn
        · rename_i hb
          obtain rfl := Option.some.inj hn
          obtain ⟨_, h2, h3, _, _⟩ := H.obj id _ hg
          have hone : ∀ x ∈ (cs.drop off).take (len * s), x.one = true := fun x hx => h3 x (List.mem_of_mem_drop (List.mem_of_mem_take hx))
          have hl : ((cs.drop off).take (len * s)).length = len * s := by simp; omega
          cases ry with
          | ref0 _ _ _ b bo hid => exact elems_cells (m := 0) (by intro k x hk; simp at hk) (by simp) (by simp)
          | ref _ _ _ _ cap hid hcp hsh =>
            refine elems_cells ?_ hl hone
            have hC : CellsAt w G (G.loc id) 0 cs := fun k x hk => by simpa using h2 k x hk
            have := (hC.drop off).take (len * s)
            rwa [Nat.zero_add] at this
        · simp at hn
      · simp at hn
    · simp at hn
  · rename_i s
    simp [lenA] at hm; subst hm
    split at hn
    · rename_i hs
      subst hs
      obtain rfl := Option.some.inj hn
      cases ry with
      | str s =>
        have hsz : s.data.toList.length = s.size := rfl
        refine ⟨s.data.toList.map fun b => .int .u8 b.toNat, by simp [Builtin.lenOf], fun w' n _ hn => ?_, by simp, by simp, fun k v x hv hx => ?_, fun x hx => ?_⟩
        · simp only [Builtin.firstCells, Sem.run_pure, Nat.mul_one]
          congr 1
          apply Array.ext'
          simp only [Array.toList_map, ByteArray.data_extract, Array.toList_extract, List.extract_eq_take_drop, List.drop_zero, Nat.sub_zero, List.toList_toArray, List.map_take]
        · simp only [List.getElem?_map, Option.map_eq_some_iff] at hv hx
          obtain ⟨b, hb, rfl⟩ := hv
          obtain ⟨b', hb', rfl⟩ := hx
          rw [hb] at hb'; obtain rfl := Option.some.inj hb'
          exact .int _ _
        · simp only [List.mem_map] at hx
          obtain ⟨b, _, rfl⟩ := hx; rfl
    · simp at hn
  · simp at hn

/-- The slice or the string that is appended. -/
def appendable (P : Program) (u : TypeId) : Prop := (∃ e, P.underlying u = some (.slice e)) ∨ P.underlying u = some .string

theorem run_append_same {t u ty el : TypeId} {sz bb oo len cap : Nat} {yv : Value} {newsA : List AVal} {news : List Value} {m : Nat} (ht : P.underlying t = some (.slice el)) (hu : appendable P u) (hs : tSize P el = some sz) (E : Elems P w G sz yv m newsA news)
    (hroom : len + m ≤ cap) {w1 : World} (hst : (storeCells ⟨bb, oo + len * sz, none⟩ news 0).run P w = .ok () w1) :
    (Builtin.append_ #[t, u] ty #[.slice (some ⟨bb, oo, none⟩) len cap, yv]).run P w = .ok (.slice (some ⟨bb, oo, none⟩) (len + m) cap) w1 := by
  have hf := E.first w m rfl (Nat.le_refl _)
  rw [List.take_of_length_le (by rw [E.len]; exact Nat.le_refl _)] at hf
  rcases hu with ⟨e, hu⟩ | hu <;> simp [Builtin.append_, run_underlying ht, run_underlying hu, run_sizeOf' hs, E.lenOf, hroom, hf, Addr.add_lit, hst]

theorem run_append_none {t u ty el : TypeId} {sz len cap : Nat} {b : Option Addr} {yv : Value} {newsA : List AVal} {news : List Value} (ht : P.underlying t = some (.slice el)) (hu : appendable P u) (hs : tSize P el = some sz) (E : Elems P w G sz yv 0 newsA news)
    (hc : len ≤ cap) : (Builtin.append_ #[t, u] ty #[.slice b len cap, yv]).run P w = .ok (.slice b len cap) w := by
  have hf := E.first w 0 rfl (Nat.le_refl _)
  simp only [Nat.zero_mul, List.take_zero] at hf
  cases b <;> (rcases hu with ⟨e, hu⟩ | hu <;> simp [Builtin.append_, run_underlying ht, run_underlying hu, run_sizeOf' hs, E.lenOf, hc, hf, storeCells])

theorem run_append_grow' {t u ty el : TypeId} {sz bytes len cap m : Nat} {b : Option Addr} {yv zv : Value} {i : TypeInfo} {newsA : List AVal} {news olds : List Value} (ht : P.underlying t = some (.slice el)) (hu : appendable P u) (hs : tSize P el = some sz)
    (hi : P.info? el = some i) (hz : i.zero = some zv) (hb : i.bytes = bytes) (E : Elems P w G sz yv m newsA news) (hgr : cap < len + m)
    (hold : ∀ w' : World, w'.heap = w.heap → (Builtin.firstCells sz len (.slice b len cap)).run P w' = .ok olds.toArray w') (hroom : roomOk (len + m) bytes = true) :
    (Builtin.append_ #[t, u] ty #[.slice b len cap, yv]).run P w = .ok (.slice (some ⟨w.heap.size, 0, none⟩) (len + m) (grownCap w (len + m) cap el))
      (w.drew.alloc (.cells (olds.toArray ++ news.toArray ++ Builtin.zeroCells zv.cells (grownCap w (len + m) cap el - (len + m))) el)) := by
  have hn : ¬ (len + m ≤ cap) := by omega
  have hf := E.first w.drew m rfl (Nat.le_refl _)
  rw [List.take_of_length_le (by rw [E.len]; exact Nat.le_refl _)] at hf
  have ho := hold w.drew rfl
  simp only [roomOk, Bool.and_eq_true, decide_eq_true_eq] at hroom
  have h63' : ¬ (9223372036854775807 < ((len : Int) + (m : Int))) := by omega
  have h48' : ¬ (281474976710656 < Builtin.nextslicecap (len + m) cap * bytes) := by
    have h1 := nextslicecap_le hgr
    have h2 : Builtin.nextslicecap (len + m) cap * bytes ≤ (4 * (len + m) + 1024) * bytes := Nat.mul_le_mul_right _ (by omega)
    omega
  rcases hu with ⟨e, hu⟩ | hu <;> simp [Builtin.append_, run_underlying ht, run_underlying hu, run_sizeOf' hs, typeInfo, zeroValue, hi, hz, hb, E.lenOf, hn, h63', h48', Question.forced, hf, ho, newRow, grownCap] <;> (congr 2; apply Array.ext'; simp [List.append_assoc])

theorem kill_ok (H : HRel w G h) {id : Nat} {ob : Obj} (hg : h.get id = some ob) : ∃ G1, Ext w G h w G1 (h.put id none) ∧ HRel w G1 (h.put id none) ∧ (∀ b k, stab G b k → stab G1 b k) ∧ G1.n = G.n := by
  have ht : Turned w G (G.loc id) w (G.lim (G.loc id)) := Turned.same (fun k hk m hm => hk m hm)
  refine ⟨_, Ext.update hg ht none, HRel.update H hg ht none (by simp), fun b k hk m hm => ?_, rfl⟩
  by_cases eb : b = G.loc id
  · subst eb; simp [Ghost.at] at hm; exact hk m hm
  · simp [Ghost.at, eb] at hm; exact hk m hm

theorem arr_get {olds news : List Value} {tl : Array Value} {k : Nat} {v : Value} (h : (olds ++ news)[k]? = some v) : (olds.toArray ++ news.toArray ++ tl)[k]? = some v := by
  have hlt : k < (olds ++ news).length := (List.getElem?_eq_some_iff.1 h).1
  rw [Array.getElem?_append_left (by simpa using hlt)]
  simpa using h

theorem room_le {k cap : Nat} (s : Nat) (h : k ≤ cap) : cap * s ≤ k * s + (cap - k) * s := by
  rw [← Nat.add_mul]; exact Nat.mul_le_mul_right _ (by omega)

theorem zeroCells_size (z : Array Value) (n : Nat) : (Builtin.zeroCells z n).size = n * z.size := by simp [Builtin.zeroCells]

set_option maxHeartbeats 1600000 in
theorem op_append (H : HRel w G h) (hc : Ops a w G c ev) {arr : Bool} {x y : Operand} {x' y' : Opd} {t u el : TypeId} {bytes sz : Nat} {ag : Bool} {z : List AVal} (hx : c x = some x') (hy : c y = some y') (ht : P.underlying t = some (.slice el)) (hu : appendable P u)
    (hb : tBytes P el = some bytes) (hs : tSize P el = some sz) (hz : tZero P el = some z) (hzl : z.length = sz) (hop : o.op = .call { callee := .builtin .append, args := #[x, y], argTypes := #[t, u] })
    (e : evalA (.append arr el bytes sz ag x' y') ev h = some (r, h')) : OpRes P o a w G h r h' := by
  have rx := hc _ _ hx
  have ry := hc _ _ hy
  simp only [evalA] at e
  unfold appendA at e
  split at e
  · rename_i m newsA hm hnews
    obtain ⟨news, E⟩ := elems_ok (P := P) H ry hm hnews
    obtain ⟨i, zv, hi, hzv, g1, g2, g3⟩ := tZero_ok hz
    have hib : i.bytes = bytes := by simp [tBytes, hi] at hb; exact hb
    generalize hv : a.eval x = v at rx
    generalize hv' : a.eval y = yv at ry E
    have hexec : ∀ {res : Value} {w1 : World}, (Builtin.append_ #[t, u] o.type #[v, yv]).run P w = .ok res w1 → (execOp a.eval o).run P w = .ok (.value res) w1 := fun hr => by
      simp [execOp, hop, hv, hv', resolve, invoke, builtin, hr]
    -- the new block after a growth
    have hzs : ∀ q, (Builtin.zeroCells zv.cells q).size = q * sz := fun q => by rw [zeroCells_size, g1, hzl]
    split at e
    · rename_i hm0
      subst hm0
      split at e
      · rename_i xs tk hbx
        simp at e; obtain ⟨rfl, rfl⟩ := e
        have rx' := rx
        rw [hbx] at rx
        cases rx with
        | nilsl => exact OpRes.same H (hexec (run_append_none ht hu hs E (Nat.le_refl _))) rx'
        | sl b off cap sz0 _ _ u0 h0 h1 h2 h3 h4 h5 hcp hnn ho => exact OpRes.same H (hexec (run_append_none ht hu hs E hcp)) rx'
      · rename_i id off len s hbx
        simp at e; obtain ⟨rfl, rfl⟩ := e
        have rx' := rx
        rw [hbx] at rx
        cases rx with
        | ref0 => exact OpRes.same H (hexec (run_append_none ht hu hs E (Nat.le_refl _))) rx'
        | ref _ _ _ _ cap hid hcp hsh => exact OpRes.same H (hexec (run_append_none ht hu hs E hcp)) rx'
      · simp at e
    · rename_i hm0
      split at e
      · rename_i xs tk hbx
        rw [hbx] at rx
        split at e
        · simp at e
        · rename_i hroom
          simp only [Bool.not_eq_true, Bool.not_eq_false', Bool.and_eq_true, decide_eq_true_eq] at hroom
          obtain ⟨⟨hroom, hpos⟩, hsml⟩ := hroom
          split at e
          · -- an array from nil
            split at e
            · split at e
              · rename_i hxs
                subst hxs
                simp at e; obtain ⟨rfl, rfl⟩ := e
                cases rx with
                | sl _ _ _ _ _ _ _ _ _ _ _ _ _ _ hnn => exact absurd rfl hnn
                | nilsl =>
                  have hr := run_append_grow' (P := P) (ty := o.type) (b := none) (len := 0) (cap := 0) (olds := []) ht hu hs hi hzv hib E (by omega) (fun w' _ => by simp [Builtin.firstCells]) hroom
                  have H1 := HRel.of_heap (w := w) (w' := w.drew) ⟨rfl, rfl, rfl, rfl⟩ H
                  have hge := grownCap_ge w (0 + m) 0 el
                  obtain ⟨x1, x2, x3, x4, x5⟩ := new_row H1 ([].toArray ++ news.toArray ++ Builtin.zeroCells zv.cells (grownCap w (0 + m) 0 el - (0 + m))) el sz ag newsA (by simp [E.len, E.lenA]) (fun k cc xx hk hx => by
                      have hlt : k < news.length := by rw [E.len, ← E.lenA]; exact (List.getElem?_eq_some_iff.1 hx).1
                      obtain ⟨v0, hv0⟩ : ∃ v0, news[k]? = some v0 := ⟨_, List.getElem?_eq_getElem hlt⟩
                      have := arr_get (olds := []) (news := news) (tl := Builtin.zeroCells zv.cells (grownCap w (0 + m) 0 el - (0 + m))) (k := k) (v := v0) (by simpa using hv0)
                      rw [hk] at this; obtain rfl := Option.some.inj this
                      exact VRel.of_heap (w := w) (w' := w.drew) ⟨rfl, rfl, rfl, rfl⟩ (E.rel k cc xx hv0 hx)) E.one (small_ty hsml)
                  refine ⟨_, _, _, .inl (hexec hr), x1.drew, x2, ?_⟩
                  have := VRel.ref (w := w.drew.alloc (.cells ([].toArray ++ news.toArray ++ Builtin.zeroCells zv.cells (grownCap w (0 + m) 0 el - (0 + m))) el)) (G := G.new w.drew.heap.size 0 (some 0)) h.next 0 (0 + m) sz (grownCap w (0 + m) 0 el) x4 hge ⟨el, _, by rw [x3]; exact x5, by
                    have hq := room_le sz hge
                    simp only [Array.size_append, List.size_toArray, hzs, E.len, List.length_nil, Nat.zero_add] at hq ⊢
                    exact hq⟩
                  rw [x3, Nat.zero_add] at this
                  rw [Nat.zero_add]
                  exact this
              · simp at e
            · simp at e
          · split at e
            · simp at e
            · rename_i news1 hstrip
              split at e
              · simp at e
              · rename_i ys hch
                have hrelA : ∀ (k : Nat) (x : AVal), newsA[k]? = some x → ∃ v0, news[k]? = some v0 ∧ VRel w G v0 x := fun k x hk => by
                  obtain ⟨v0, hv0⟩ : ∃ v0, news[k]? = some v0 := ⟨_, List.getElem?_eq_getElem (by rw [E.len, ← E.lenA]; exact (List.getElem?_eq_some_iff.1 hk).1)⟩
                  exact ⟨v0, hv0, E.rel k v0 x hv0 hk⟩
                obtain ⟨c1, c2, c3, c4, c5, c6⟩ := strip_chunk (w := w) (G := G) (arr := news.toArray) (off := 0) hstrip hch E.one E.lenA (fun k x hk => by obtain ⟨v0, q1, q2⟩ := hrelA k x hk; exact ⟨v0, by simpa using q1, q2⟩)
                have c6' : ∀ (k : Nat) (x : AVal), (flat ys)[k]? = some x → ∃ v0, news[k]? = some v0 ∧ VRel w G v0 x := fun k x hk => by simpa using c6 k x hk
                split at e
                · -- a list from nil
                  split at e
                  · rename_i hxs
                    subst hxs
                    simp at e; obtain ⟨rfl, rfl⟩ := e
                    cases rx with
                    | sl _ _ _ _ _ _ _ _ _ _ _ _ _ _ hnn => exact absurd rfl hnn
                    | nilsl =>
                      have hr := run_append_grow' (P := P) (ty := o.type) (b := none) (len := 0) (cap := 0) (olds := []) ht hu hs hi hzv hib E (by omega) (fun w' _ => by simp [Builtin.firstCells]) hroom
                      have H1 := HRel.of_heap (w := w) (w' := w.drew) ⟨rfl, rfl, rfl, rfl⟩ H
                      have hge := grownCap_ge w (0 + m) 0 el
                      obtain ⟨G', z1, z2, z3⟩ := new_tok H1 (arr := [].toArray ++ news.toArray ++ Builtin.zeroCells zv.cells (grownCap w (0 + m) 0 el - (0 + m))) (el := el) (xs := ys) (sz := sz) (cap := grownCap w (0 + m) 0 el) c2 (fun k xx hk => by
                          obtain ⟨v0, hv0, hv1⟩ := c6' k xx hk
                          exact ⟨v0, arr_get (olds := []) (by simpa using hv0), VRel.of_heap (w := w) (w' := w.drew) ⟨rfl, rfl, rfl, rfl⟩ hv1⟩) c4 c5 (by rw [c1]; omega) (by
                          have hq := room_le sz hge
                          simp only [Array.size_append, List.size_toArray, hzs, E.len, List.length_nil, Nat.zero_add] at hq ⊢
                          exact hq)
                      refine ⟨_, _, G', .inl (hexec hr), z1.drew, z2, ?_⟩
                      rw [c1] at z3
                      rw [Nat.zero_add] at z3 ⊢
                      exact z3
                  · simp at e
                · -- a list with its right
                  rename_i id s
                  split at e
                  · rename_i tyo hg
                    split at e
                    · rename_i hss
                      obtain ⟨hss, hty⟩ := hss
                      subst hss
                      rw [hty] at hg
                      simp at e; obtain ⟨rfl, rfl⟩ := e
                      cases rx with
                      | nilsl _ htk => simp at htk
                      | sl b off cap sz0 _ _ u0 h0 h1 h2 h3 h4 h5 hcp hnn ho =>
                        obtain ⟨k1, k0, k2, k3, k4, eT, nT, k5, k6⟩ := ho id s rfl
                        subst k1
                        subst k3
                        obtain ⟨t1, t2, t3⟩ := H.obj id _ hg
                        have heT : eT = el := by
                          obtain ⟨n', q1, _⟩ := t2
                          rw [q1] at k5
                          exact (congrArg (·.1) (Option.some.inj k5)).symm
                        rw [heT] at k5
                        have hfl := flat_len h0
                        have hstabs : ∀ k, stab G (G.loc id) k → k < G.tip id := fun k hk => hk _ t1
                        by_cases hfit : xs.length + m ≤ cap
                        · -- in place
                          have hle : (xs.length + m) * s ≤ cap * s := Nat.mul_le_mul_right _ hfit
                          rw [Nat.add_mul] at hle
                          have hcellex : ∀ j, off + xs.length * s ≤ j → j < off + xs.length * s + news.length → (∃ u, w.cell? ⟨G.loc id, j, none⟩ = some u) ∧ w.frozen? ⟨G.loc id, j, none⟩ = false := by
                            intro j hj1 hj2
                            rw [E.len] at hj2
                            have hjn : j < nT := by omega
                            refine ⟨?_, fzr_frozen (Nat.le_trans t3 (by omega))⟩
                            unfold World.shape? at k5
                            split at k5
                            · rename_i ca ea fa hca
                              simp at k5
                              refine ⟨ca[j]'(by omega), ?_⟩
                              simp only [World.cell?, hca]
                              simp [k5.2, hjn]
                            · simp at k5
                          obtain ⟨w1, hst, hw⟩ := run_storeCells_ex (P := P) (G.loc id) (off + xs.length * s) news 0 w (fun j hj => hcellex _ (by omega) (by omega)) E.one'
                          have hr := run_append_same (P := P) (ty := o.type) ht hu hs E hfit hst
                          have htip : G.tip id = off + xs.length * s := k4
                          have hTurn : Turned w G (G.loc id) w1 (some (off + (xs.length + m) * s)) := ⟨hw.os, hw.tape, hw.out, hw.size, hw.other, hw.shape, fun k hk => by
                              have := hstabs k hk
                              rw [hw.cell, if_neg (by omega)], fun k hk q hq => by
                              have := hstabs k hk
                              simp at hq; subst hq; rw [Nat.add_mul]; omega⟩
                          have hX := Ext.replace H hg hTurn (off + (xs.length + m) * s) (.tok el)
                          have hloc : (G.new (G.loc id) (off + (xs.length + m) * s) (some (off + (xs.length + m) * s))).loc G.n = G.loc id := by simp [Ghost.new]
                          have hcells : ∀ (k : Nat) (xx : AVal), (flat (xs ++ ys))[k]? = some xx → ∃ v0, w1.cell? ⟨G.loc id, off + k, none⟩ = some v0 ∧ VRel w G v0 xx := by
                            intro k xx hk
                            rw [flat_append] at hk
                            by_cases hkl : k < (flat xs).length
                            · rw [List.getElem?_append_left hkl] at hk
                              refine ⟨u0 k, ?_, h2 k xx hk⟩
                              rw [hw.cell, if_neg (by omega)]
                              exact h1 k xx hk
                            · rw [List.getElem?_append_right (by omega)] at hk
                              obtain ⟨v0, hv0, hv1⟩ := c6' _ xx hk
                              have hlt := (List.getElem?_eq_some_iff.1 hv0).1
                              refine ⟨v0, ?_, hv1⟩
                              rw [hw.cell, if_pos (by omega)]
                              rw [← hv0]; congr 1; omega
                          have hlenys : (xs ++ ys).length = xs.length + m := by rw [List.length_append, c1]
                          have hsizes : ∀ x ∈ xs ++ ys, x.cells.length = s := fun q hq => (List.mem_append.1 hq).elim (h0 q) (c2 q)
                          refine ⟨_, w1, _, .inl (hexec hr), hX, HRel.replace H hg hTurn _ (.tok el) ?_, ?_⟩
                          · unfold OkObj
                            rw [hloc, hw.shape]
                            refine ⟨by simp [Ghost.new], ⟨nT, k5, by simp [Ghost.new]; rw [Nat.add_mul]; omega⟩, ?_⟩
                            rw [hw.fz]
                            simp only [Ghost.new, if_true]
                            rw [Nat.add_mul]; omega
                          · have hvr : VRel w1 (G.new (G.loc id) (off + (xs.length + m) * s) (some (off + (xs.length + m) * s))) (.slice (some ⟨G.loc id, off, none⟩) (xs ++ ys).length cap) (.sl (xs ++ ys) (.own h.next s)) := ?hvr
                            · rw [hlenys] at hvr; exact hvr
                            refine .sl (G.loc id) off cap s (xs ++ ys) _ (fun k => (w1.cell? ⟨G.loc id, off + k, none⟩).getD (.bool false)) hsizes (fun k xx hk => ?_) (fun k xx hk => ?_) (fun k hk q hq => ?_) (fun q hq => ?_) (fun q hq => ?_) (by rw [hlenys]; exact hfit) (by simp) (fun id' s' hs' => ?_)
                            · obtain ⟨v0, q1, q2⟩ := hcells k xx hk
                              rw [q1]; rfl
                            · obtain ⟨v0, q1, q2⟩ := hcells k xx hk
                              rw [q1]; exact q2.mono hX
                            · simp [Ghost.new] at hq
                              rw [flat_len hsizes, hlenys] at hk
                              omega
                            · rw [flat_append] at hq; exact (List.mem_append.1 hq).elim (h4 q) (c4 q)
                            · rw [flat_append] at hq; exact (List.mem_append.1 hq).elim (h5 q) (c5 q)
                            · simp only [Tok.own.injEq] at hs'
                              obtain ⟨rfl, rfl⟩ := hs'
                              refine ⟨rfl, k0, by simp [Ghost.new, H.n_eq], by simp [Ghost.new, H.n_eq], by simp [Ghost.new, H.n_eq, hlenys, c1], el, nT, by rw [hw.shape]; exact k5, k6⟩
                        · -- in a new block
                          obtain ⟨olds, eo1, eo2, eo3⟩ := (show CellsAt w G (G.loc id) off (flat xs) from fun k xx hk => ⟨u0 k, h1 k xx hk, h2 k xx hk⟩).vals
                          have hr := run_append_grow' (P := P) (ty := o.type) (b := some ⟨G.loc id, off, none⟩) (len := xs.length) (cap := cap) (olds := olds) ht hu hs hi hzv hib E (by omega) (fun w' hw' => by
                            have := run_firstCells_some (P := P) w' s xs.length ⟨G.loc id, off, none⟩ xs.length cap olds (by rw [eo1, hfl]) (fun j v hj => by rw [Addr.add_lit]; simpa [World.cell?, hw'] using eo2 j v hj)
                            exact this) hroom
                          obtain ⟨G1, y1, y2, y3, y4⟩ := kill_ok H hg
                          have H1 := HRel.of_heap (w := w) (w' := w.drew) ⟨rfl, rfl, rfl, rfl⟩ y2
                          have hge := grownCap_ge w (xs.length + m) cap el
                          have hlenys : (xs ++ ys).length = xs.length + m := by rw [List.length_append, c1]
                          have hsizes : ∀ x ∈ xs ++ ys, x.cells.length = s := fun q hq => (List.mem_append.1 hq).elim (h0 q) (c2 q)
                          have e1' : Ext w G h w.drew G1 (h.put id none) := y1.trans (Ext.of_heap ⟨rfl, rfl, rfl, rfl⟩)
                          obtain ⟨G', z1, z2, z3⟩ := new_tok H1 (arr := olds.toArray ++ news.toArray ++ Builtin.zeroCells zv.cells (grownCap w (xs.length + m) cap el - (xs.length + m))) (el := el) (xs := xs ++ ys) (sz := s) (cap := grownCap w (xs.length + m) cap el) hsizes (fun k xx hk => by
                              rw [flat_append] at hk
                              by_cases hkl : k < (flat xs).length
                              · rw [List.getElem?_append_left hkl] at hk
                                obtain ⟨v0, hv0⟩ : ∃ v0, olds[k]? = some v0 := ⟨_, List.getElem?_eq_getElem (by rw [eo1]; exact hkl)⟩
                                exact ⟨v0, arr_get (by rw [List.getElem?_append_left (by rw [eo1]; exact hkl)]; exact hv0), (eo3 k v0 xx hv0 hk).mono e1'⟩
                              · rw [List.getElem?_append_right (by omega)] at hk
                                obtain ⟨v0, hv0, hv1⟩ := c6' _ xx hk
                                exact ⟨v0, arr_get (by rw [List.getElem?_append_right (by rw [eo1]; omega), eo1]; exact hv0), hv1.mono e1'⟩) (fun q hq => by rw [flat_append] at hq; exact (List.mem_append.1 hq).elim (h4 q) (c4 q)) (fun q hq => by rw [flat_append] at hq; exact (List.mem_append.1 hq).elim (h5 q) (c5 q))
                              (by rw [hlenys]; exact hge) (by
                              have hq := room_le s hge
                              simp only [Array.size_append, List.size_toArray, hzs, E.len, eo1, hfl]
                              rw [Nat.add_mul] at hq
                              exact hq)
                          refine ⟨_, _, G', .inl (hexec hr), e1'.trans z1, z2, ?_⟩
                          rw [hlenys, Heap.next_put] at z3
                          exact z3
                    · simp at e
                  · simp at e
                · simp at e
      · -- an array that grows
        rename_i id off len s0 hbx
        rw [hbx] at rx
        split at e
        · rename_i s ag' cs hg
          split at e
          · rename_i hcond
            obtain ⟨q1, q2, q3, q4, hroom, hpos, hsml⟩ := hcond
            subst q1; subst q2; subst q3
            simp at e; obtain ⟨rfl, rfl⟩ := e
            obtain ⟨o1, o2, o3, o4, o5⟩ := H.obj id _ hg
            have grow : ∀ {b : Option Addr} {cap : Nat} {olds : List Value}, cap < len + m → olds.length = cs.length → (∀ (k : Nat) (v : Value) (x : AVal), olds[k]? = some v → cs[k]? = some x → VRel w G v x) →
                (∀ w' : World, w'.heap = w.heap → (Builtin.firstCells s len (.slice b len cap)).run P w' = .ok olds.toArray w') → v = .slice b len cap → OpRes P o a w G h (.ref h.next 0 (len + m) s) ((h.put id none).push (.row true s ag' (cs ++ newsA))) := by
              intro b cap olds hgr hol horel hfirst hveq
              have hr := run_append_grow' (P := P) (ty := o.type) (b := b) (len := len) (cap := cap) (olds := olds) ht hu hs hi hzv hib E hgr hfirst hroom
              obtain ⟨G1, y1, y2, y3, y4⟩ := kill_ok H hg
              have H1 := HRel.of_heap (w := w) (w' := w.drew) ⟨rfl, rfl, rfl, rfl⟩ y2
              have hge := grownCap_ge w (len + m) cap el
              have e1' : Ext w G h w.drew G1 (h.put id none) := y1.trans (Ext.of_heap ⟨rfl, rfl, rfl, rfl⟩)
              obtain ⟨x1, x2, x3, x4, x5⟩ := new_row H1 (olds.toArray ++ news.toArray ++ Builtin.zeroCells zv.cells (grownCap w (len + m) cap el - (len + m))) el s ag' (cs ++ newsA) (by simp [E.len, E.lenA, hol]) (fun k cc xx hk hx => by
                  have hlt : k < (cs ++ newsA).length := (List.getElem?_eq_some_iff.1 hx).1
                  rw [List.length_append, E.lenA] at hlt
                  obtain ⟨v0, hv0⟩ : ∃ v0, (olds ++ news)[k]? = some v0 := ⟨_, List.getElem?_eq_getElem (by rw [List.length_append, E.len, hol]; exact hlt)⟩
                  have := arr_get (tl := Builtin.zeroCells zv.cells (grownCap w (len + m) cap el - (len + m))) hv0
                  rw [hk] at this; obtain rfl := Option.some.inj this
                  by_cases hkl : k < cs.length
                  · rw [List.getElem?_append_left hkl] at hx
                    rw [List.getElem?_append_left (by rw [hol]; exact hkl)] at hv0
                    exact (horel k cc xx hv0 hx).mono e1'
                  · rw [List.getElem?_append_right (by omega)] at hx
                    rw [List.getElem?_append_right (by rw [hol]; omega), hol] at hv0
                    exact (E.rel _ cc xx hv0 hx).mono e1') (fun q hq => (List.mem_append.1 hq).elim (o3 q) (E.one q)) (small_ty hsml)
              subst hveq
              refine ⟨_, _, _, .inl (hexec hr), e1'.trans x1, x2, ?_⟩
              have := VRel.ref (w := w.drew.alloc (.cells (olds.toArray ++ news.toArray ++ Builtin.zeroCells zv.cells (grownCap w (len + m) cap el - (len + m))) el)) (G := G1.new w.drew.heap.size 0 (some 0)) (h.put id none).next 0 (len + m) s (grownCap w (len + m) cap el) x4 hge ⟨el, _, by rw [x3]; exact x5, by
                have hq := room_le s hge
                simp only [Array.size_append, List.size_toArray, hzs, E.len, hol, q4]
                rw [Nat.add_mul] at hq
                rw [Nat.zero_add]
                exact hq⟩
              rw [x3, Heap.next_put] at this
              exact this
            cases rx with
            | ref0 _ _ _ b bo hid =>
              have hcs : cs = [] := List.eq_nil_of_length_eq_zero (by simpa using q4)
              subst hcs
              exact grow (cap := 0) (olds := []) (by omega) rfl (by simp) (fun w' _ => by simp [Builtin.firstCells, loadCells, loadCellsFrom]) rfl
            | ref _ _ _ _ cap hid hcp hsh =>
              obtain ⟨eT, nT, k5, k6⟩ := hsh
              by_cases hfit : len + m ≤ cap
              · have hle : (len + m) * s ≤ cap * s := Nat.mul_le_mul_right _ hfit
                rw [Nat.add_mul] at hle
                have hcellex : ∀ j, 0 + len * s ≤ j → j < 0 + len * s + news.length → (∃ u, w.cell? ⟨G.loc id, j, none⟩ = some u) ∧ w.frozen? ⟨G.loc id, j, none⟩ = false := by
                  intro j hj1 hj2
                  rw [E.len] at hj2
                  have hjn : j < nT := by omega
                  refine ⟨?_, o5 rfl j eT nT k5 hjn⟩
                  unfold World.shape? at k5
                  split at k5
                  · rename_i ca ea fa hca
                    simp at k5
                    refine ⟨ca[j]'(by omega), ?_⟩
                    simp only [World.cell?, hca]
                    simp [k5.2, hjn]
                  · simp at k5
                obtain ⟨w1, hst, hw⟩ := run_storeCells_ex (P := P) (G.loc id) (0 + len * s) news 0 w (fun j hj => hcellex _ (by omega) (by omega)) E.one'
                have hr := run_append_same (P := P) (ty := o.type) ht hu hs E hfit hst
                have hns : ∀ k, ¬ stab G (G.loc id) k := fun k hk => by have := hk 0 o1; omega
                have hTurn : Turned w G (G.loc id) w1 (some 0) := ⟨hw.os, hw.tape, hw.out, hw.size, hw.other, hw.shape, fun k hk => absurd hk (hns k), fun k hk => absurd hk (hns k)⟩
                have hX := Ext.replace H hg hTurn 0 (.row true s ag' (cs ++ newsA))
                have hloc : (G.new (G.loc id) 0 (some 0)).loc G.n = G.loc id := by simp [Ghost.new]
                refine ⟨_, w1, _, .inl (hexec hr), hX, HRel.replace H hg hTurn 0 _ ?_, ?_⟩
                · unfold OkObj
                  rw [hloc, hw.shape]
                  refine ⟨by simp [Ghost.new], fun k xx hk => ?_, fun q hq => (List.mem_append.1 hq).elim (o3 q) (E.one q), ⟨eT, nT, k5, by rw [List.length_append, E.lenA, q4]; omega, small_ty hsml⟩, fun _ k e1 n1 p1 p2 => by rw [hw.frozen]; exact o5 rfl k e1 n1 p1 p2⟩
                  by_cases hkl : k < cs.length
                  · rw [List.getElem?_append_left hkl] at hk
                    rw [hw.cell, if_neg (by omega)]
                    exact (o2 k xx hk).imp fun u hu => ⟨hu.1, hu.2.mono hX⟩
                  · rw [List.getElem?_append_right (by omega)] at hk
                    have hlt := (List.getElem?_eq_some_iff.1 hk).1
                    rw [E.lenA, ← E.len] at hlt
                    obtain ⟨v0, hv0⟩ : ∃ v0, news[k - cs.length]? = some v0 := ⟨_, List.getElem?_eq_getElem hlt⟩
                    refine ⟨v0, ?_, (E.rel _ v0 xx hv0 hk).mono hX⟩
                    rw [hw.cell, if_pos (by omega), ← hv0]; congr 1; omega
                · have := VRel.ref (w := w1) (G := G.new (G.loc id) 0 (some 0)) h.next 0 (len + m) s cap (by simp [Ghost.new, H.n_eq]) hfit ⟨eT, nT, by rw [← H.n_eq, hloc, hw.shape]; exact k5, by omega⟩
                  rwa [← H.n_eq, hloc, H.n_eq] at this
              · obtain ⟨olds, eo1, eo2, eo3⟩ := (show CellsAt w G (G.loc id) 0 cs from fun k xx hk => by simpa using o2 k xx hk).vals
                exact grow (b := some ⟨G.loc id, 0, none⟩) (cap := cap) (olds := olds) (by omega) eo1 eo3 (fun w' hw' =>
                  run_firstCells_some (P := P) w' s len ⟨G.loc id, 0, none⟩ len cap olds (by rw [eo1, q4]) (fun j v hj => by rw [Addr.add_lit]; simpa [World.cell?, hw'] using eo2 j v hj)) rfl
          · simp at e
        · simp at e
      · simp at e
  · simp at e

set_option maxHeartbeats 800000 in
theorem op_copy (H : HRel w G h) (hc : Ops a w G c ev) {x y : Operand} {x' y' : Opd} {t u el : TypeId} {sz : Nat} (hx : c x = some x') (hy : c y = some y') (ht : P.underlying t = some (.slice el)) (hs : tSize P el = some sz)
    (hop : o.op = .call { callee := .builtin .copy, args := #[x, y], argTypes := #[t, u] }) (e : evalA (.copy sz x' y') ev h = some (r, h')) : OpRes P o a w G h r h' := by
  have rx := hc _ _ hx
  have ry := hc _ _ hy
  simp only [evalA] at e
  unfold copyA at e
  split at e
  · rename_i m newsA hm hnews
    obtain ⟨news, E⟩ := elems_ok (P := P) H ry hm hnews
    generalize hv : a.eval x = v at rx
    generalize hv' : a.eval y = yv at ry E
    split at e
    · rename_i id off len s hbx
      rw [hbx] at rx
      split at e
      · rename_i s' ag cs hg
        split at e
        · rename_i hcond
          obtain ⟨q1, q2, q3⟩ := hcond
          subst q1
          simp at e; obtain ⟨rfl, rfl⟩ := e
          have hmin : Nat.min m len = min m len := rfl
          have hf := E.first w (min m len) rfl (Nat.min_le_left _ _)
          have hle : min m len * s ≤ len * s := Nat.mul_le_mul_right _ (Nat.min_le_right _ _)
          have hle2 : min m len * s ≤ m * s := Nat.mul_le_mul_right _ (Nat.min_le_left _ _)
          have hln : (news.take (min m len * s)).length = min m len * s := by rw [List.length_take, E.len]; omega
          have hlnA : (newsA.take (min m len * s)).length = min m len * s := by rw [List.length_take, E.lenA]; omega
          have hone : ∀ q ∈ newsA.take (min m len * s), q.one = true := fun q hq => E.one q (List.mem_of_mem_take hq)
          have hrel : ∀ (k : Nat) (v : Value) (x : AVal), (news.take (min m len * s))[k]? = some v → (newsA.take (min m len * s))[k]? = some x → VRel w G v x := by
            intro k v x h1 h2
            rw [List.getElem?_take] at h1 h2
            split at h1
            · rename_i hk; rw [if_pos hk] at h2; exact E.rel k v x h1 h2
            · simp at h1
          cases rx with
          | ref0 _ _ _ b bo hid =>
            have hz : min m 0 = 0 := Nat.min_zero m
            rw [hz] at hf ⊢
            simp only [Nat.zero_mul, List.take_zero] at hf ⊢
            have hput : ∃ G', Ext w G h w G' (h.put id (some (.row true s' ag (setCells cs off [])))) ∧ HRel w G' (h.put id (some (.row true s' ag (setCells cs off [])))) := by
              have hw0 : Wrote w (G.loc id) off [] w := ⟨rfl, rfl, rfl, rfl, fun _ _ => rfl, rfl, fun _ => rfl, rfl, fun k => by simp; intro h1 h2; omega⟩
              exact write_row H hg hw0 rfl (by simp) (by simp) (by simp; omega)
            obtain ⟨G', x1, x2⟩ := hput
            refine ⟨.int .i64 0, w, G', .inl ?_, x1, x2, .int _ _⟩
            simp [execOp, hop, hv, hv', resolve, invoke, builtin, Builtin.copy_, run_underlying ht, E.lenOf, run_sizeOf' hs, hf, storeCells, goInt]
          | ref _ _ _ _ cap hid hcp hsh =>
            obtain ⟨w1, hst, hw⟩ := row_writable (P := P) H hg (off := off) (vs := news.take (min m len * s)) (by rw [hln]; omega) (fun v hv => E.one' v (List.mem_of_mem_take hv))
            obtain ⟨G', x1, x2⟩ := write_row H hg hw (by rw [hln, hlnA]) hrel hone (by rw [hlnA]; omega)
            refine ⟨.int .i64 (min m len : Nat), w1, G', .inl ?_, x1, x2, ?_⟩
            · simp [execOp, hop, hv, hv', resolve, invoke, builtin, Builtin.copy_, run_underlying ht, E.lenOf, run_sizeOf' hs, hmin, hf, hst, goInt]
            · have := VRel.int (w := w1) (G := G') .i64 ((min m len : Nat) : Int)
              simpa using this
        · simp at e
      · simp at e
    · rename_i tk hbx
      rw [hbx] at rx
      simp at e; obtain ⟨rfl, rfl⟩ := e
      have hf := E.first w 0 rfl (Nat.zero_le _)
      simp only [Nat.zero_mul, List.take_zero] at hf
      cases rx with
      | nilsl => exact OpRes.same H (v := .int .i64 0) (by simp [execOp, hop, hv, hv', resolve, invoke, builtin, Builtin.copy_, run_underlying ht, E.lenOf, run_sizeOf' hs, hf, goInt]) (.int _ _)
      | sl b off cap sz0 _ _ u0 => exact OpRes.same H (v := .int .i64 0) (by simp [execOp, hop, hv, hv', resolve, invoke, builtin, Builtin.copy_, run_underlying ht, E.lenOf, run_sizeOf' hs, hf, goInt, storeCells]) (.int _ _)
    · simp at e
  · simp at e
end
end Go.Abs
