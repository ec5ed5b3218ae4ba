/-
  Merged from AbsOp6 AbsDisp AbsDraw AbsPerm AbsSound AbsBld: One operation of the model does what the abstract machine says: append and copy.
-/
import Derived.Test.YtcammfdljiingaaM00
import Derived.Scope
import Derived.Shelf.Strings.Builder1
/-
  One operation of the model does what the abstract machine says: append and copy.
-/
namespace Go.Abs
set_option linter.unusedSimpArgs false
set_option linter.unusedVariables false
section
variable {P : Program} {o : Oper} {a : Act} {w : World} {G : Ghost} {h : Heap} {c : Operand → Option Opd} {ev : Opd → AVal} {r : AVal} {h' : Heap}

/-- What is appended or copied, as the model reads it. -/
structure Elems (P : Program) (w : World) (G : Ghost) (sz : Nat) (yv : Value) (m : Nat) (newsA : List AVal) (news : List Value) : Prop where
  lenOf : (Builtin.lenOf yv).run P w = .ok m w
  first : ∀ (w' : World) (n : Nat), w'.heap = w.heap → n ≤ m → (Builtin.firstCells sz n yv).run P w' = .ok (news.take (n * sz)).toArray w'
  len : news.length = m * sz
  lenA : newsA.length = m * sz
  rel : ∀ (k : Nat) (v : Value) (x : AVal), news[k]? = some v → newsA[k]? = some x → VRel w G v x
  one : ∀ x ∈ newsA, x.one = true

theorem Elems.one' {sz m : Nat} {yv : Value} {newsA : List AVal} {news : List Value} (E : Elems P w G sz yv m newsA news) : ∀ v ∈ news, v.oneCell' = true := by
  intro v hv
  obtain ⟨k, hk⟩ := mem_get hv
  obtain ⟨x, hx⟩ : ∃ x, newsA[k]? = some x := ⟨_, List.getElem?_eq_getElem (by rw [E.lenA, ← E.len]; exact (List.getElem?_eq_some_iff.1 hk).1)⟩
  exact ((E.rel k v x hk hx).one (E.one x (List.mem_of_getElem? hx))).1

theorem elems_cells {sz m cp b off : Nat} {newsA : List AVal} (hC : CellsAt w G b off newsA) (hl : newsA.length = m * sz) (hone : ∀ x ∈ newsA, x.one = true) : ∃ news, Elems P w G sz (.slice (some ⟨b, off, none⟩) m cp) m newsA news := by
  obtain ⟨vs, e1, e2, e3⟩ := hC.vals
  refine ⟨vs, by simp [Builtin.lenOf], fun w' n hw hn => ?_, by rw [e1, hl], hl, e3, hone⟩
  have hlt : (vs.take (n * sz)).length = n * sz := by
    rw [List.length_take, e1, hl]; exact Nat.min_eq_left (Nat.mul_le_mul_right _ hn)
  refine run_firstCells_some w' sz n ⟨b, off, none⟩ m cp (vs.take (n * sz)) hlt (fun j v hj => ?_)
  rw [List.getElem?_take] at hj
  split at hj
  · have := e2 j v hj
    rw [Addr.add_lit]
    simpa [World.cell?, hw] using this
  · simp at hj

theorem elems_ok (H : HRel w G h) {sz m : Nat} {y : AVal} {yv : Value} {newsA : List AVal} (ry : VRel w G yv y) (hm : lenA y = some m) (hn : elemsA h sz y = some newsA) : ∃ news, Elems P w G sz yv m newsA news := by
  unfold elemsA at hn
  split at hn
  · rename_i ys tk
    simp [lenA] at hm; subst hm
    split at hn
    · rename_i hhead
      obtain rfl := Option.some.inj hn
      cases ry with
      | nilsl => exact ⟨[], by simp [Builtin.lenOf], fun w' n _ hn => by simp [Builtin.firstCells], by simp, by simp [flat], by simp, by simp [flat]⟩
      | sl b off cap sz0 _ _ u h0 h1 h2 h3 h4 h5 hcp hnn ho =>
        refine elems_cells (fun k x hk => ⟨u k, h1 k x hk, h2 k x hk⟩) ?_ h4
        cases ys with
        | nil => simp [flat]
        | cons y ys =>
          have := flat_len h0
          rw [this, ← h0 y (by simp), hhead y rfl]
    · simp at hn
  · rename_i id off len s
    simp [lenA] at hm; subst hm
    split at hn
    · rename_i hs
      subst hs
      split at hn
      · rename_i mu s' ag' cs hg
        split at hn
        · rename_i hb
          obtain rfl := Option.some.inj hn
          obtain ⟨_, h2, h3, _, _⟩ := H.obj id _ hg
          have hone : ∀ x ∈ (cs.drop off).take (len * s), x.one = true := fun x hx => h3 x (List.mem_of_mem_drop (List.mem_of_mem_take hx))
          have hl : ((cs.drop off).take (len * s)).length = len * s := by simp; omega
          cases ry with
          | ref0 _ _ _ b bo hid => exact elems_cells (m := 0) (by intro k x hk; simp at hk) (by simp) (by simp)
          | ref _ _ _ _ cap hid hcp hsh =>
            refine elems_cells ?_ hl hone
            have hC : CellsAt w G (G.loc id) 0 cs := fun k x hk => by simpa using h2 k x hk
            have := (hC.drop off).take (len * s)
            rwa [Nat.zero_add] at this
        · simp at hn
      · simp at hn
    · simp at hn
  · rename_i s
    simp [lenA] at hm; subst hm
    split at hn
    · rename_i hs
      subst hs
      obtain rfl := Option.some.inj hn
      cases ry with
      | str s =>
        have hsz : s.data.toList.length = s.size := rfl
        refine ⟨s.data.toList.map fun b => .int .u8 b.toNat, by simp [Builtin.lenOf], fun w' n _ hn => ?_, by simp, by simp, fun k v x hv hx => ?_, fun x hx => ?_⟩
        · simp only [Builtin.firstCells, Sem.run_pure, Nat.mul_one]
          congr 1
          apply Array.ext'
          simp only [Array.toList_map, ByteArray.data_extract, Array.toList_extract, List.extract_eq_take_drop, List.drop_zero, Nat.sub_zero, List.toList_toArray, List.map_take]
        · simp only [List.getElem?_map, Option.map_eq_some_iff] at hv hx
          obtain ⟨b, hb, rfl⟩ := hv
          obtain ⟨b', hb', rfl⟩ := hx
          rw [hb] at hb'; obtain rfl := Option.some.inj hb'
          exact .int _ _
        · simp only [List.mem_map] at hx
          obtain ⟨b, _, rfl⟩ := hx; rfl
    · simp at hn
  · simp at hn

/-- The slice or the string that is appended. -/
def appendable (P : Program) (u : TypeId) : Prop := (∃ e, P.underlying u = some (.slice e)) ∨ P.underlying u = some .string

theorem run_append_same {t u ty el : TypeId} {sz bb oo len cap : Nat} {yv : Value} {newsA : List AVal} {news : List Value} {m : Nat} (ht : P.underlying t = some (.slice el)) (hu : appendable P u) (hs : tSize P el = some sz) (E : Elems P w G sz yv m newsA news)
    (hroom : len + m ≤ cap) {w1 : World} (hst : (storeCells ⟨bb, oo + len * sz, none⟩ news 0).run P w = .ok () w1) :
    (Builtin.append_ #[t, u] ty #[.slice (some ⟨bb, oo, none⟩) len cap, yv]).run P w = .ok (.slice (some ⟨bb, oo, none⟩) (len + m) cap) w1 := by
  have hf := E.first w m rfl (Nat.le_refl _)
  rw [List.take_of_length_le (by rw [E.len]; exact Nat.le_refl _)] at hf
  rcases hu with ⟨e, hu⟩ | hu <;> simp [Builtin.append_, run_underlying ht, run_underlying hu, run_sizeOf' hs, E.lenOf, hroom, hf, Addr.add_lit, hst]

theorem run_append_none {t u ty el : TypeId} {sz len cap : Nat} {b : Option Addr} {yv : Value} {newsA : List AVal} {news : List Value} (ht : P.underlying t = some (.slice el)) (hu : appendable P u) (hs : tSize P el = some sz) (E : Elems P w G sz yv 0 newsA news)
    (hc : len ≤ cap) : (Builtin.append_ #[t, u] ty #[.slice b len cap, yv]).run P w = .ok (.slice b len cap) w := by
  have hf := E.first w 0 rfl (Nat.le_refl _)
  simp only [Nat.zero_mul, List.take_zero] at hf
  cases b <;> (rcases hu with ⟨e, hu⟩ | hu <;> simp [Builtin.append_, run_underlying ht, run_underlying hu, run_sizeOf' hs, E.lenOf, hc, hf, storeCells])

theorem run_append_grow' {t u ty el : TypeId} {sz bytes len cap m : Nat} {b : Option Addr} {yv zv : Value} {i : TypeInfo} {newsA : List AVal} {news olds : List Value} (ht : P.underlying t = some (.slice el)) (hu : appendable P u) (hs : tSize P el = some sz)
    (hi : P.info? el = some i) (hz : i.zero = some zv) (hb : i.bytes = bytes) (E : Elems P w G sz yv m newsA news) (hgr : cap < len + m)
    (hold : ∀ w' : World, w'.heap = w.heap → (Builtin.firstCells sz len (.slice b len cap)).run P w' = .ok olds.toArray w') (hroom : roomOk (len + m) bytes = true) :
    (Builtin.append_ #[t, u] ty #[.slice b len cap, yv]).run P w = .ok (.slice (some ⟨w.heap.size, 0, none⟩) (len + m) (grownCap w (len + m) cap el))
      (w.drew.alloc (.cells (olds.toArray ++ news.toArray ++ Builtin.zeroCells zv.cells (grownCap w (len + m) cap el - (len + m))) el)) := by
  have hn : ¬ (len + m ≤ cap) := by omega
  have hf := E.first w.drew m rfl (Nat.le_refl _)
  rw [List.take_of_length_le (by rw [E.len]; exact Nat.le_refl _)] at hf
  have ho := hold w.drew rfl
  simp only [roomOk, Bool.and_eq_true, decide_eq_true_eq] at hroom
  have h63' : ¬ (9223372036854775807 < ((len : Int) + (m : Int))) := by omega
  have h48' : ¬ (281474976710656 < Builtin.nextslicecap (len + m) cap * bytes) := by
    have h1 := nextslicecap_le hgr
    have h2 : Builtin.nextslicecap (len + m) cap * bytes ≤ (4 * (len + m) + 1024) * bytes := Nat.mul_le_mul_right _ (by omega)
    omega
  rcases hu with ⟨e, hu⟩ | hu <;> simp [Builtin.append_, run_underlying ht, run_underlying hu, run_sizeOf' hs, typeInfo, zeroValue, hi, hz, hb, E.lenOf, hn, h63', h48', Question.forced, hf, ho, newRow, grownCap] <;> (congr 2; apply Array.ext'; simp [List.append_assoc])

theorem kill_ok (H : HRel w G h) {id : Nat} {ob : Obj} (hg : h.get id = some ob) : ∃ G1, Ext w G h w G1 (h.put id none) ∧ HRel w G1 (h.put id none) ∧ (∀ b k, stab G b k → stab G1 b k) ∧ G1.n = G.n := by
  have ht : Turned w G (G.loc id) w (G.lim (G.loc id)) := Turned.same (fun k hk m hm => hk m hm)
  refine ⟨_, Ext.update hg ht none, HRel.update H hg ht none (by simp), fun b k hk m hm => ?_, rfl⟩
  by_cases eb : b = G.loc id
  · subst eb; simp [Ghost.at] at hm; exact hk m hm
  · simp [Ghost.at, eb] at hm; exact hk m hm

theorem arr_get {olds news : List Value} {tl : Array Value} {k : Nat} {v : Value} (h : (olds ++ news)[k]? = some v) : (olds.toArray ++ news.toArray ++ tl)[k]? = some v := by
  have hlt : k < (olds ++ news).length := (List.getElem?_eq_some_iff.1 h).1
  rw [Array.getElem?_append_left (by simpa using hlt)]
  simpa using h

theorem room_le {k cap : Nat} (s : Nat) (h : k ≤ cap) : cap * s ≤ k * s + (cap - k) * s := by
  rw [← Nat.add_mul]; exact Nat.mul_le_mul_right _ (by omega)

theorem zeroCells_size (z : Array Value) (n : Nat) : (Builtin.zeroCells z n).size = n * z.size := by simp [Builtin.zeroCells]

set_option maxHeartbeats 1600000 in
theorem op_append (H : HRel w G h) (hc : Ops a w G c ev) {arr : Bool} {x y : Operand} {x' y' : Opd} {t u el : TypeId} {bytes sz : Nat} {ag : Bool} {z : List AVal} (hx : c x = some x') (hy : c y = some y') (ht : P.underlying t = some (.slice el)) (hu : appendable P u)
    (hb : tBytes P el = some bytes) (hs : tSize P el = some sz) (hz : tZero P el = some z) (hzl : z.length = sz) (hop : o.op = .call { callee := .builtin .append, args := #[x, y], argTypes := #[t, u] })
    (e : evalA (.append arr el bytes sz ag x' y') ev h = some (r, h')) : OpRes P o a w G h r h' := by
  have rx := hc _ _ hx
  have ry := hc _ _ hy
  simp only [evalA] at e
  unfold appendA at e
  split at e
  · rename_i m newsA hm hnews
    obtain ⟨news, E⟩ := elems_ok (P := P) H ry hm hnews
    obtain ⟨i, zv, hi, hzv, g1, g2, g3⟩ := tZero_ok hz
    have hib : i.bytes = bytes := by simp [tBytes, hi] at hb; exact hb
    generalize hv : a.eval x = v at rx
    generalize hv' : a.eval y = yv at ry E
    have hexec : ∀ {res : Value} {w1 : World}, (Builtin.append_ #[t, u] o.type #[v, yv]).run P w = .ok res w1 → (execOp a.eval o).run P w = .ok (.value res) w1 := fun hr => by
      simp [execOp, hop, hv, hv', resolve, invoke, builtin, hr]
    -- the new block after a growth
    have hzs : ∀ q, (Builtin.zeroCells zv.cells q).size = q * sz := fun q => by rw [zeroCells_size, g1, hzl]
    split at e
    · rename_i hm0
      subst hm0
      split at e
      · rename_i xs tk hbx
        simp at e; obtain ⟨rfl, rfl⟩ := e
        have rx' := rx
        rw [hbx] at rx
        cases rx with
        | nilsl => exact OpRes.same H (hexec (run_append_none ht hu hs E (Nat.le_refl _))) rx'
        | sl b off cap sz0 _ _ u0 h0 h1 h2 h3 h4 h5 hcp hnn ho => exact OpRes.same H (hexec (run_append_none ht hu hs E hcp)) rx'
      · rename_i id off len s hbx
        simp at e; obtain ⟨rfl, rfl⟩ := e
        have rx' := rx
        rw [hbx] at rx
        cases rx with
        | ref0 => exact OpRes.same H (hexec (run_append_none ht hu hs E (Nat.le_refl _))) rx'
        | ref _ _ _ _ cap hid hcp hsh => exact OpRes.same H (hexec (run_append_none ht hu hs E hcp)) rx'
      · simp at e
    · rename_i hm0
      split at e
      · rename_i xs tk hbx
        rw [hbx] at rx
        split at e
        · simp at e
        · rename_i hroom
          simp only [Bool.not_eq_true, Bool.not_eq_false', Bool.and_eq_true, decide_eq_true_eq] at hroom
          obtain ⟨⟨hroom, hpos⟩, hsml⟩ := hroom
          split at e
          · -- an array from nil
            split at e
            · split at e
              · rename_i hxs
                subst hxs
                simp at e; obtain ⟨rfl, rfl⟩ := e
                cases rx with
                | sl _ _ _ _ _ _ _ _ _ _ _ _ _ _ hnn => exact absurd rfl hnn
                | nilsl =>
                  have hr := run_append_grow' (P := P) (ty := o.type) (b := none) (len := 0) (cap := 0) (olds := []) ht hu hs hi hzv hib E (by omega) (fun w' _ => by simp [Builtin.firstCells]) hroom
                  have H1 := HRel.of_heap (w := w) (w' := w.drew) ⟨rfl, rfl, rfl, rfl⟩ H
                  have hge := grownCap_ge w (0 + m) 0 el
                  obtain ⟨x1, x2, x3, x4, x5⟩ := new_row H1 ([].toArray ++ news.toArray ++ Builtin.zeroCells zv.cells (grownCap w (0 + m) 0 el - (0 + m))) el sz ag newsA (by simp [E.len, E.lenA]) (fun k cc xx hk hx => by
                      have hlt : k < news.length := by rw [E.len, ← E.lenA]; exact (List.getElem?_eq_some_iff.1 hx).1
                      obtain ⟨v0, hv0⟩ : ∃ v0, news[k]? = some v0 := ⟨_, List.getElem?_eq_getElem hlt⟩
                      have := arr_get (olds := []) (news := news) (tl := Builtin.zeroCells zv.cells (grownCap w (0 + m) 0 el - (0 + m))) (k := k) (v := v0) (by simpa using hv0)
                      rw [hk] at this; obtain rfl := Option.some.inj this
                      exact VRel.of_heap (w := w) (w' := w.drew) ⟨rfl, rfl, rfl, rfl⟩ (E.rel k cc xx hv0 hx)) E.one (small_ty hsml)
                  refine ⟨_, _, _, .inl (hexec hr), x1.drew, x2, ?_⟩
                  have := VRel.ref (w := w.drew.alloc (.cells ([].toArray ++ news.toArray ++ Builtin.zeroCells zv.cells (grownCap w (0 + m) 0 el - (0 + m))) el)) (G := G.new w.drew.heap.size 0 (some 0)) h.next 0 (0 + m) sz (grownCap w (0 + m) 0 el) x4 hge ⟨el, _, by rw [x3]; exact x5, by
                    have hq := room_le sz hge
                    simp only [Array.size_append, List.size_toArray, hzs, E.len, List.length_nil, Nat.zero_add] at hq ⊢
                    exact hq⟩
                  rw [x3, Nat.zero_add] at this
                  rw [Nat.zero_add]
                  exact this
              · simp at e
            · simp at e
          · split at e
            · simp at e
            · rename_i news1 hstrip
              split at e
              · simp at e
              · rename_i ys hch
                have hrelA : ∀ (k : Nat) (x : AVal), newsA[k]? = some x → ∃ v0, news[k]? = some v0 ∧ VRel w G v0 x := fun k x hk => by
                  obtain ⟨v0, hv0⟩ : ∃ v0, news[k]? = some v0 := ⟨_, List.getElem?_eq_getElem (by rw [E.len, ← E.lenA]; exact (List.getElem?_eq_some_iff.1 hk).1)⟩
                  exact ⟨v0, hv0, E.rel k v0 x hv0 hk⟩
                obtain ⟨c1, c2, c3, c4, c5, c6⟩ := strip_chunk (w := w) (G := G) (arr := news.toArray) (off := 0) hstrip hch E.one E.lenA (fun k x hk => by obtain ⟨v0, q1, q2⟩ := hrelA k x hk; exact ⟨v0, by simpa using q1, q2⟩)
                have c6' : ∀ (k : Nat) (x : AVal), (flat ys)[k]? = some x → ∃ v0, news[k]? = some v0 ∧ VRel w G v0 x := fun k x hk => by simpa using c6 k x hk
                split at e
                · -- a list from nil
                  split at e
                  · rename_i hxs
                    subst hxs
                    simp at e; obtain ⟨rfl, rfl⟩ := e
                    cases rx with
                    | sl _ _ _ _ _ _ _ _ _ _ _ _ _ _ hnn => exact absurd rfl hnn
                    | nilsl =>
                      have hr := run_append_grow' (P := P) (ty := o.type) (b := none) (len := 0) (cap := 0) (olds := []) ht hu hs hi hzv hib E (by omega) (fun w' _ => by simp [Builtin.firstCells]) hroom
                      have H1 := HRel.of_heap (w := w) (w' := w.drew) ⟨rfl, rfl, rfl, rfl⟩ H
                      have hge := grownCap_ge w (0 + m) 0 el
                      obtain ⟨G', z1, z2, z3⟩ := new_tok H1 (arr := [].toArray ++ news.toArray ++ Builtin.zeroCells zv.cells (grownCap w (0 + m) 0 el - (0 + m))) (el := el) (xs := ys) (sz := sz) (cap := grownCap w (0 + m) 0 el) c2 (fun k xx hk => by
                          obtain ⟨v0, hv0, hv1⟩ := c6' k xx hk
                          exact ⟨v0, arr_get (olds := []) (by simpa using hv0), VRel.of_heap (w := w) (w' := w.drew) ⟨rfl, rfl, rfl, rfl⟩ hv1⟩) c4 c5 (by rw [c1]; omega) (by
                          have hq := room_le sz hge
                          simp only [Array.size_append, List.size_toArray, hzs, E.len, List.length_nil, Nat.zero_add] at hq ⊢
                          exact hq)
                      refine ⟨_, _, G', .inl (hexec hr), z1.drew, z2, ?_⟩
                      rw [c1] at z3
                      rw [Nat.zero_add] at z3 ⊢
                      exact z3
                  · simp at e
                · -- a list with its right
                  rename_i id s
                  split at e
                  · rename_i tyo hg
                    split at e
                    · rename_i hss
                      obtain ⟨hss, hty⟩ := hss
                      subst hss
                      rw [hty] at hg
                      simp at e; obtain ⟨rfl, rfl⟩ := e
                      cases rx with
                      | nilsl _ htk => simp at htk
                      | sl b off cap sz0 _ _ u0 h0 h1 h2 h3 h4 h5 hcp hnn ho =>
                        obtain ⟨k1, k0, k2, k3, k4, eT, nT, k5, k6⟩ := ho id s rfl
                        subst k1
                        subst k3
                        obtain ⟨t1, t2, t3⟩ := H.obj id _ hg
                        have heT : eT = el := by
                          obtain ⟨n', q1, _⟩ := t2
                          rw [q1] at k5
                          exact (congrArg (·.1) (Option.some.inj k5)).symm
                        rw [heT] at k5
                        have hfl := flat_len h0
                        have hstabs : ∀ k, stab G (G.loc id) k → k < G.tip id := fun k hk => hk _ t1
                        by_cases hfit : xs.length + m ≤ cap
                        · -- in place
                          have hle : (xs.length + m) * s ≤ cap * s := Nat.mul_le_mul_right _ hfit
                          rw [Nat.add_mul] at hle
                          have hcellex : ∀ j, off + xs.length * s ≤ j → j < off + xs.length * s + news.length → (∃ u, w.cell? ⟨G.loc id, j, none⟩ = some u) ∧ w.frozen? ⟨G.loc id, j, none⟩ = false := by
                            intro j hj1 hj2
                            rw [E.len] at hj2
                            have hjn : j < nT := by omega
                            refine ⟨?_, fzr_frozen (Nat.le_trans t3 (by omega))⟩
                            unfold World.shape? at k5
                            split at k5
                            · rename_i ca ea fa hca
                              simp at k5
                              refine ⟨ca[j]'(by omega), ?_⟩
                              simp only [World.cell?, hca]
                              simp [k5.2, hjn]
                            · simp at k5
                          obtain ⟨w1, hst, hw⟩ := run_storeCells_ex (P := P) (G.loc id) (off + xs.length * s) news 0 w (fun j hj => hcellex _ (by omega) (by omega)) E.one'
                          have hr := run_append_same (P := P) (ty := o.type) ht hu hs E hfit hst
                          have htip : G.tip id = off + xs.length * s := k4
                          have hTurn : Turned w G (G.loc id) w1 (some (off + (xs.length + m) * s)) := ⟨hw.os, hw.tape, hw.out, hw.size, hw.other, hw.shape, fun k hk => by
                              have := hstabs k hk
                              rw [hw.cell, if_neg (by omega)], fun k hk q hq => by
                              have := hstabs k hk
                              simp at hq; subst hq; rw [Nat.add_mul]; omega⟩
                          have hX := Ext.replace H hg hTurn (off + (xs.length + m) * s) (.tok el)
                          have hloc : (G.new (G.loc id) (off + (xs.length + m) * s) (some (off + (xs.length + m) * s))).loc G.n = G.loc id := by simp [Ghost.new]
                          have hcells : ∀ (k : Nat) (xx : AVal), (flat (xs ++ ys))[k]? = some xx → ∃ v0, w1.cell? ⟨G.loc id, off + k, none⟩ = some v0 ∧ VRel w G v0 xx := by
                            intro k xx hk
                            rw [flat_append] at hk
                            by_cases hkl : k < (flat xs).length
                            · rw [List.getElem?_append_left hkl] at hk
                              refine ⟨u0 k, ?_, h2 k xx hk⟩
                              rw [hw.cell, if_neg (by omega)]
                              exact h1 k xx hk
                            · rw [List.getElem?_append_right (by omega)] at hk
                              obtain ⟨v0, hv0, hv1⟩ := c6' _ xx hk
                              have hlt := (List.getElem?_eq_some_iff.1 hv0).1
                              refine ⟨v0, ?_, hv1⟩
                              rw [hw.cell, if_pos (by omega)]
                              rw [← hv0]; congr 1; omega
                          have hlenys : (xs ++ ys).length = xs.length + m := by rw [List.length_append, c1]
                          have hsizes : ∀ x ∈ xs ++ ys, x.cells.length = s := fun q hq => (List.mem_append.1 hq).elim (h0 q) (c2 q)
                          refine ⟨_, w1, _, .inl (hexec hr), hX, HRel.replace H hg hTurn _ (.tok el) ?_, ?_⟩
                          · unfold OkObj
                            rw [hloc, hw.shape]
                            refine ⟨by simp [Ghost.new], ⟨nT, k5, by simp [Ghost.new]; rw [Nat.add_mul]; omega⟩, ?_⟩
                            rw [hw.fz]
                            simp only [Ghost.new, if_true]
                            rw [Nat.add_mul]; omega
                          · have hvr : VRel w1 (G.new (G.loc id) (off + (xs.length + m) * s) (some (off + (xs.length + m) * s))) (.slice (some ⟨G.loc id, off, none⟩) (xs ++ ys).length cap) (.sl (xs ++ ys) (.own h.next s)) := ?hvr
                            · rw [hlenys] at hvr; exact hvr
                            refine .sl (G.loc id) off cap s (xs ++ ys) _ (fun k => (w1.cell? ⟨G.loc id, off + k, none⟩).getD (.bool false)) hsizes (fun k xx hk => ?_) (fun k xx hk => ?_) (fun k hk q hq => ?_) (fun q hq => ?_) (fun q hq => ?_) (by rw [hlenys]; exact hfit) (by simp) (fun id' s' hs' => ?_)
                            · obtain ⟨v0, q1, q2⟩ := hcells k xx hk
                              rw [q1]; rfl
                            · obtain ⟨v0, q1, q2⟩ := hcells k xx hk
                              rw [q1]; exact q2.mono hX
                            · simp [Ghost.new] at hq
                              rw [flat_len hsizes, hlenys] at hk
                              omega
                            · rw [flat_append] at hq; exact (List.mem_append.1 hq).elim (h4 q) (c4 q)
                            · rw [flat_append] at hq; exact (List.mem_append.1 hq).elim (h5 q) (c5 q)
                            · simp only [Tok.own.injEq] at hs'
                              obtain ⟨rfl, rfl⟩ := hs'
                              refine ⟨rfl, k0, by simp [Ghost.new, H.n_eq], by simp [Ghost.new, H.n_eq], by simp [Ghost.new, H.n_eq, hlenys, c1], el, nT, by rw [hw.shape]; exact k5, k6⟩
                        · -- in a new block
                          obtain ⟨olds, eo1, eo2, eo3⟩ := (show CellsAt w G (G.loc id) off (flat xs) from fun k xx hk => ⟨u0 k, h1 k xx hk, h2 k xx hk⟩).vals
                          have hr := run_append_grow' (P := P) (ty := o.type) (b := some ⟨G.loc id, off, none⟩) (len := xs.length) (cap := cap) (olds := olds) ht hu hs hi hzv hib E (by omega) (fun w' hw' => by
                            have := run_firstCells_some (P := P) w' s xs.length ⟨G.loc id, off, none⟩ xs.length cap olds (by rw [eo1, hfl]) (fun j v hj => by rw [Addr.add_lit]; simpa [World.cell?, hw'] using eo2 j v hj)
                            exact this) hroom
                          obtain ⟨G1, y1, y2, y3, y4⟩ := kill_ok H hg
                          have H1 := HRel.of_heap (w := w) (w' := w.drew) ⟨rfl, rfl, rfl, rfl⟩ y2
                          have hge := grownCap_ge w (xs.length + m) cap el
                          have hlenys : (xs ++ ys).length = xs.length + m := by rw [List.length_append, c1]
                          have hsizes : ∀ x ∈ xs ++ ys, x.cells.length = s := fun q hq => (List.mem_append.1 hq).elim (h0 q) (c2 q)
                          have e1' : Ext w G h w.drew G1 (h.put id none) := y1.trans (Ext.of_heap ⟨rfl, rfl, rfl, rfl⟩)
                          obtain ⟨G', z1, z2, z3⟩ := new_tok H1 (arr := olds.toArray ++ news.toArray ++ Builtin.zeroCells zv.cells (grownCap w (xs.length + m) cap el - (xs.length + m))) (el := el) (xs := xs ++ ys) (sz := s) (cap := grownCap w (xs.length + m) cap el) hsizes (fun k xx hk => by
                              rw [flat_append] at hk
                              by_cases hkl : k < (flat xs).length
                              · rw [List.getElem?_append_left hkl] at hk
                                obtain ⟨v0, hv0⟩ : ∃ v0, olds[k]? = some v0 := ⟨_, List.getElem?_eq_getElem (by rw [eo1]; exact hkl)⟩
                                exact ⟨v0, arr_get (by rw [List.getElem?_append_left (by rw [eo1]; exact hkl)]; exact hv0), (eo3 k v0 xx hv0 hk).mono e1'⟩
                              · rw [List.getElem?_append_right (by omega)] at hk
                                obtain ⟨v0, hv0, hv1⟩ := c6' _ xx hk
                                exact ⟨v0, arr_get (by rw [List.getElem?_append_right (by rw [eo1]; omega), eo1]; exact hv0), hv1.mono e1'⟩) (fun q hq => by rw [flat_append] at hq; exact (List.mem_append.1 hq).elim (h4 q) (c4 q)) (fun q hq => by rw [flat_append] at hq; exact (List.mem_append.1 hq).elim (h5 q) (c5 q))
                              (by rw [hlenys]; exact hge) (by
                              have hq := room_le s hge
                              simp only [Array.size_append, List.size_toArray, hzs, E.len, eo1, hfl]
                              rw [Nat.add_mul] at hq
                              exact hq)
                          refine ⟨_, _, G', .inl (hexec hr), e1'.trans z1, z2, ?_⟩
                          rw [hlenys, Heap.next_put] at z3
                          exact z3
                    · simp at e
                  · simp at e
                · simp at e
      · -- an array that grows
        rename_i id off len s0 hbx
        rw [hbx] at rx
        split at e
        · rename_i s ag' cs hg
          split at e
          · rename_i hcond
            obtain ⟨q1, q2, q3, q4, hroom, hpos, hsml⟩ := hcond
            subst q1; subst q2; subst q3
            simp at e; obtain ⟨rfl, rfl⟩ := e
            obtain ⟨o1, o2, o3, o4, o5⟩ := H.obj id _ hg
            have grow : ∀ {b : Option Addr} {cap : Nat} {olds : List Value}, cap < len + m → olds.length = cs.length → (∀ (k : Nat) (v : Value) (x : AVal), olds[k]? = some v → cs[k]? = some x → VRel w G v x) →
                (∀ w' : World, w'.heap = w.heap → (Builtin.firstCells s len (.slice b len cap)).run P w' = .ok olds.toArray w') → v = .slice b len cap → OpRes P o a w G h (.ref h.next 0 (len + m) s) ((h.put id none).push (.row true s ag' (cs ++ newsA))) := by
              intro b cap olds hgr hol horel hfirst hveq
              have hr := run_append_grow' (P := P) (ty := o.type) (b := b) (len := len) (cap := cap) (olds := olds) ht hu hs hi hzv hib E hgr hfirst hroom
              obtain ⟨G1, y1, y2, y3, y4⟩ := kill_ok H hg
              have H1 := HRel.of_heap (w := w) (w' := w.drew) ⟨rfl, rfl, rfl, rfl⟩ y2
              have hge := grownCap_ge w (len + m) cap el
              have e1' : Ext w G h w.drew G1 (h.put id none) := y1.trans (Ext.of_heap ⟨rfl, rfl, rfl, rfl⟩)
              obtain ⟨x1, x2, x3, x4, x5⟩ := new_row H1 (olds.toArray ++ news.toArray ++ Builtin.zeroCells zv.cells (grownCap w (len + m) cap el - (len + m))) el s ag' (cs ++ newsA) (by simp [E.len, E.lenA, hol]) (fun k cc xx hk hx => by
                  have hlt : k < (cs ++ newsA).length := (List.getElem?_eq_some_iff.1 hx).1
                  rw [List.length_append, E.lenA] at hlt
                  obtain ⟨v0, hv0⟩ : ∃ v0, (olds ++ news)[k]? = some v0 := ⟨_, List.getElem?_eq_getElem (by rw [List.length_append, E.len, hol]; exact hlt)⟩
                  have := arr_get (tl := Builtin.zeroCells zv.cells (grownCap w (len + m) cap el - (len + m))) hv0
                  rw [hk] at this; obtain rfl := Option.some.inj this
                  by_cases hkl : k < cs.length
                  · rw [List.getElem?_append_left hkl] at hx
                    rw [List.getElem?_append_left (by rw [hol]; exact hkl)] at hv0
                    exact (horel k cc xx hv0 hx).mono e1'
                  · rw [List.getElem?_append_right (by omega)] at hx
                    rw [List.getElem?_append_right (by rw [hol]; omega), hol] at hv0
                    exact (E.rel _ cc xx hv0 hx).mono e1') (fun q hq => (List.mem_append.1 hq).elim (o3 q) (E.one q)) (small_ty hsml)
              subst hveq
              refine ⟨_, _, _, .inl (hexec hr), e1'.trans x1, x2, ?_⟩
              have := VRel.ref (w := w.drew.alloc (.cells (olds.toArray ++ news.toArray ++ Builtin.zeroCells zv.cells (grownCap w (len + m) cap el - (len + m))) el)) (G := G1.new w.drew.heap.size 0 (some 0)) (h.put id none).next 0 (len + m) s (grownCap w (len + m) cap el) x4 hge ⟨el, _, by rw [x3]; exact x5, by
                have hq := room_le s hge
                simp only [Array.size_append, List.size_toArray, hzs, E.len, hol, q4]
                rw [Nat.add_mul] at hq
                rw [Nat.zero_add]
                exact hq⟩
              rw [x3, Heap.next_put] at this
              exact this
            cases rx with
            | ref0 _ _ _ b bo hid =>
              have hcs : cs = [] := List.eq_nil_of_length_eq_zero (by simpa using q4)
              subst hcs
              exact grow (cap := 0) (olds := []) (by omega) rfl (by simp) (fun w' _ => by simp [Builtin.firstCells, loadCells, loadCellsFrom]) rfl
            | ref _ _ _ _ cap hid hcp hsh =>
              obtain ⟨eT, nT, k5, k6⟩ := hsh
              by_cases hfit : len + m ≤ cap
              · have hle : (len + m) * s ≤ cap * s := Nat.mul_le_mul_right _ hfit
                rw [Nat.add_mul] at hle
                have hcellex : ∀ j, 0 + len * s ≤ j → j < 0 + len * s + news.length → (∃ u, w.cell? ⟨G.loc id, j, none⟩ = some u) ∧ w.frozen? ⟨G.loc id, j, none⟩ = false := by
                  intro j hj1 hj2
                  rw [E.len] at hj2
                  have hjn : j < nT := by omega
                  refine ⟨?_, o5 rfl j eT nT k5 hjn⟩
                  unfold World.shape? at k5
                  split at k5
                  · rename_i ca ea fa hca
                    simp at k5
                    refine ⟨ca[j]'(by omega), ?_⟩
                    simp only [World.cell?, hca]
                    simp [k5.2, hjn]
                  · simp at k5
                obtain ⟨w1, hst, hw⟩ := run_storeCells_ex (P := P) (G.loc id) (0 + len * s) news 0 w (fun j hj => hcellex _ (by omega) (by omega)) E.one'
                have hr := run_append_same (P := P) (ty := o.type) ht hu hs E hfit hst
                have hns : ∀ k, ¬ stab G (G.loc id) k := fun k hk => by have := hk 0 o1; omega
                have hTurn : Turned w G (G.loc id) w1 (some 0) := ⟨hw.os, hw.tape, hw.out, hw.size, hw.other, hw.shape, fun k hk => absurd hk (hns k), fun k hk => absurd hk (hns k)⟩
                have hX := Ext.replace H hg hTurn 0 (.row true s ag' (cs ++ newsA))
                have hloc : (G.new (G.loc id) 0 (some 0)).loc G.n = G.loc id := by simp [Ghost.new]
                refine ⟨_, w1, _, .inl (hexec hr), hX, HRel.replace H hg hTurn 0 _ ?_, ?_⟩
                · unfold OkObj
                  rw [hloc, hw.shape]
                  refine ⟨by simp [Ghost.new], fun k xx hk => ?_, fun q hq => (List.mem_append.1 hq).elim (o3 q) (E.one q), ⟨eT, nT, k5, by rw [List.length_append, E.lenA, q4]; omega, small_ty hsml⟩, fun _ k e1 n1 p1 p2 => by rw [hw.frozen]; exact o5 rfl k e1 n1 p1 p2⟩
                  by_cases hkl : k < cs.length
                  · rw [List.getElem?_append_left hkl] at hk
                    rw [hw.cell, if_neg (by omega)]
                    exact (o2 k xx hk).imp fun u hu => ⟨hu.1, hu.2.mono hX⟩
                  · rw [List.getElem?_append_right (by omega)] at hk
                    have hlt := (List.getElem?_eq_some_iff.1 hk).1
                    rw [E.lenA, ← E.len] at hlt
                    obtain ⟨v0, hv0⟩ : ∃ v0, news[k - cs.length]? = some v0 := ⟨_, List.getElem?_eq_getElem hlt⟩
                    refine ⟨v0, ?_, (E.rel _ v0 xx hv0 hk).mono hX⟩
                    rw [hw.cell, if_pos (by omega), ← hv0]; congr 1; omega
                · have := VRel.ref (w := w1) (G := G.new (G.loc id) 0 (some 0)) h.next 0 (len + m) s cap (by simp [Ghost.new, H.n_eq]) hfit ⟨eT, nT, by rw [← H.n_eq, hloc, hw.shape]; exact k5, by omega⟩
                  rwa [← H.n_eq, hloc, H.n_eq] at this
              · obtain ⟨olds, eo1, eo2, eo3⟩ := (show CellsAt w G (G.loc id) 0 cs from fun k xx hk => by simpa using o2 k xx hk).vals
                exact grow (b := some ⟨G.loc id, 0, none⟩) (cap := cap) (olds := olds) (by omega) eo1 eo3 (fun w' hw' =>
                  run_firstCells_some (P := P) w' s len ⟨G.loc id, 0, none⟩ len cap olds (by rw [eo1, q4]) (fun j v hj => by rw [Addr.add_lit]; simpa [World.cell?, hw'] using eo2 j v hj)) rfl
          · simp at e
        · simp at e
      · simp at e
  · simp at e

set_option maxHeartbeats 800000 in
theorem op_copy (H : HRel w G h) (hc : Ops a w G c ev) {x y : Operand} {x' y' : Opd} {t u el : TypeId} {sz : Nat} (hx : c x = some x') (hy : c y = some y') (ht : P.underlying t = some (.slice el)) (hs : tSize P el = some sz)
    (hop : o.op = .call { callee := .builtin .copy, args := #[x, y], argTypes := #[t, u] }) (e : evalA (.copy sz x' y') ev h = some (r, h')) : OpRes P o a w G h r h' := by
  have rx := hc _ _ hx
  have ry := hc _ _ hy
  simp only [evalA] at e
  unfold copyA at e
  split at e
  · rename_i m newsA hm hnews
    obtain ⟨news, E⟩ := elems_ok (P := P) H ry hm hnews
    generalize hv : a.eval x = v at rx
    generalize hv' : a.eval y = yv at ry E
    split at e
    · rename_i id off len s hbx
      rw [hbx] at rx
      split at e
      · rename_i s' ag cs hg
        split at e
        · rename_i hcond
          obtain ⟨q1, q2, q3⟩ := hcond
          subst q1
          simp at e; obtain ⟨rfl, rfl⟩ := e
          have hmin : Nat.min m len = min m len := rfl
          have hf := E.first w (min m len) rfl (Nat.min_le_left _ _)
          have hle : min m len * s ≤ len * s := Nat.mul_le_mul_right _ (Nat.min_le_right _ _)
          have hle2 : min m len * s ≤ m * s := Nat.mul_le_mul_right _ (Nat.min_le_left _ _)
          have hln : (news.take (min m len * s)).length = min m len * s := by rw [List.length_take, E.len]; omega
          have hlnA : (newsA.take (min m len * s)).length = min m len * s := by rw [List.length_take, E.lenA]; omega
          have hone : ∀ q ∈ newsA.take (min m len * s), q.one = true := fun q hq => E.one q (List.mem_of_mem_take hq)
          have hrel : ∀ (k : Nat) (v : Value) (x : AVal), (news.take (min m len * s))[k]? = some v → (newsA.take (min m len * s))[k]? = some x → VRel w G v x := by
            intro k v x h1 h2
            rw [List.getElem?_take] at h1 h2
            split at h1
            · rename_i hk; rw [if_pos hk] at h2; exact E.rel k v x h1 h2
            · simp at h1
          cases rx with
          | ref0 _ _ _ b bo hid =>
            have hz : min m 0 = 0 := Nat.min_zero m
            rw [hz] at hf ⊢
            simp only [Nat.zero_mul, List.take_zero] at hf ⊢
            have hput : ∃ G', Ext w G h w G' (h.put id (some (.row true s' ag (setCells cs off [])))) ∧ HRel w G' (h.put id (some (.row true s' ag (setCells cs off [])))) := by
              have hw0 : Wrote w (G.loc id) off [] w := ⟨rfl, rfl, rfl, rfl, fun _ _ => rfl, rfl, fun _ => rfl, rfl, fun k => by simp; intro h1 h2; omega⟩
              exact write_row H hg hw0 rfl (by simp) (by simp) (by simp; omega)
            obtain ⟨G', x1, x2⟩ := hput
            refine ⟨.int .i64 0, w, G', .inl ?_, x1, x2, .int _ _⟩
            simp [execOp, hop, hv, hv', resolve, invoke, builtin, Builtin.copy_, run_underlying ht, E.lenOf, run_sizeOf' hs, hf, storeCells, goInt]
          | ref _ _ _ _ cap hid hcp hsh =>
            obtain ⟨w1, hst, hw⟩ := row_writable (P := P) H hg (off := off) (vs := news.take (min m len * s)) (by rw [hln]; omega) (fun v hv => E.one' v (List.mem_of_mem_take hv))
            obtain ⟨G', x1, x2⟩ := write_row H hg hw (by rw [hln, hlnA]) hrel hone (by rw [hlnA]; omega)
            refine ⟨.int .i64 (min m len : Nat), w1, G', .inl ?_, x1, x2, ?_⟩
            · simp [execOp, hop, hv, hv', resolve, invoke, builtin, Builtin.copy_, run_underlying ht, E.lenOf, run_sizeOf' hs, hmin, hf, hst, goInt]
            · have := VRel.int (w := w1) (G := G') .i64 ((min m len : Nat) : Int)
              simpa using this
        · simp at e
      · simp at e
    · rename_i tk hbx
      rw [hbx] at rx
      simp at e; obtain ⟨rfl, rfl⟩ := e
      have hf := E.first w 0 rfl (Nat.zero_le _)
      simp only [Nat.zero_mul, List.take_zero] at hf
      cases rx with
      | nilsl => exact OpRes.same H (v := .int .i64 0) (by simp [execOp, hop, hv, hv', resolve, invoke, builtin, Builtin.copy_, run_underlying ht, E.lenOf, run_sizeOf' hs, hf, goInt]) (.int _ _)
      | sl b off cap sz0 _ _ u0 => exact OpRes.same H (v := .int .i64 0) (by simp [execOp, hop, hv, hv', resolve, invoke, builtin, Builtin.copy_, run_underlying ht, E.lenOf, run_sizeOf' hs, hf, goInt, storeCells]) (.int _ _)
    · simp at e
  · simp at e
end
end Go.Abs

/-
  Every operation but a call: the translation and the abstract machine together.
-/
namespace Go.Abs
set_option linter.unusedSimpArgs false
set_option linter.unusedVariables false
section
variable {P : Program} {o : Oper} {a : Act} {w : World} {G : Ghost} {h : Heap} {c : Operand → Option Opd} {ev : Opd → AVal} {r : AVal} {h' : Heap} {Hh : Hints} {fid dst : Nat}

theorem list1 {α : Type} {a : Array α} {x : α} (h : a.toList = [x]) : a = #[x] := by cases a; simp_all
theorem list2 {α : Type} {a : Array α} {x y : α} (h : a.toList = [x, y]) : a = #[x, y] := by cases a; simp_all

theorem builtin_ok (H : HRel w G h) (hc : Ops a w G c ev) {k : Call} {b : Builtin} {aop : AOp} (hop : o.op = .call k) (hb : k.callee = .builtin b) (hcomp : compBuiltin P Hh fid c dst b k.args.toList k.argTypes.toList = some aop)
    (e : evalA aop ev h = some (r, h')) : OpRes P o a w G h r h' := by
  obtain ⟨cal, args, ts⟩ := k
  simp only at hb hcomp
  subst hb
  unfold compBuiltin at hcomp
  split at hcomp
  · rename_i x t ha ht
    have := list1 ha; have := list1 ht; subst_vars
    split at hcomp
    · rename_i el x' hu hx; obtain rfl := Option.some.inj hcomp; exact op_len H hc hx hu hop e
    · rename_i x' hu hx; obtain rfl := Option.some.inj hcomp; exact op_slen H hc hx hu hop e
    · simp at hcomp
  · rename_i x y t u ha ht
    have := list2 ha; have := list2 ht; subst_vars
    split at hcomp
    · rename_i el ud x' y' hu hu' hx hy
      split at hcomp
      · rename_i e' b s ag z h1 h2 h3 h4
        split at hcomp
        · rename_i hzl; obtain rfl := Option.some.inj hcomp; exact op_append H hc hx hy hu (.inl ⟨_, hu'⟩) h1 h2 h4 hzl hop e
        · simp at hcomp
      · rename_i b s ag z h1 h2 h3 h4
        split at hcomp
        · rename_i hzl; obtain rfl := Option.some.inj hcomp; exact op_append H hc hx hy hu (.inr hu') h1 h2 h4 hzl hop e
        · simp at hcomp
      · simp at hcomp
    · simp at hcomp
  · rename_i x y t u ha ht
    have := list2 ha; have := list2 ht; subst_vars
    split at hcomp
    · rename_i el x' y' hu hx hy
      simp only [Option.map_eq_some_iff] at hcomp
      obtain ⟨s, hs, rfl⟩ := hcomp
      exact op_copy H hc hx hy hu hs hop e
    · simp at hcomp
  · rename_i x y ts' ha
    have := list2 ha; subst_vars
    split at hcomp
    · rename_i x' y' hx hy; obtain rfl := Option.some.inj hcomp; exact op_mnx (mx := false) H hc hx hy hop e
    · simp at hcomp
  · rename_i x y ts' ha
    have := list2 ha; subst_vars
    split at hcomp
    · rename_i x' y' hx hy; obtain rfl := Option.some.inj hcomp; exact op_mnx (mx := true) H hc hx hy hop e
    · simp at hcomp
  · simp at hcomp

/-- Is the abstract operation a call? -/
def isCall : AOp → Bool
  | .call _ _ | .pcall _ _ => true
  | _ => false

theorem op_ok (H : HRel w G h) (hc : Ops a w G c ev) {aop : AOp} (hcomp : compOp P Hh fid c dst o.op = some aop) (hnc : isCall aop = false) (e : evalA aop ev h = some (r, h')) : OpRes P o a w G h r h' := by
  generalize hop : o.op = op at hcomp
  cases op <;> simp only [compOp, Option.map_eq_some_iff] at hcomp
  case move x => obtain ⟨x', hx, rfl⟩ := hcomp; exact op_mov H hc hx (.inl hop) e
  case assign x => obtain ⟨x', hx, rfl⟩ := hcomp; exact op_mov H hc hx (.inr hop) e
  case pick x y z =>
    split at hcomp
    · rename_i x' y' z' hx hy hz; obtain rfl := Option.some.inj hcomp; exact op_pick H hc hx hy hz hop e
    · simp at hcomp
  case alloc t =>
    split at hcomp
    · rename_i s ag z hs ha hz; obtain rfl := Option.some.inj hcomp; exact op_alloc H hs hz hop e
    · simp at hcomp
  case box t x =>
    split at hcomp
    · rename_i s ag x' hs ha hx; obtain rfl := Option.some.inj hcomp; exact op_box H hc hx hs hop e
    · simp at hcomp
  case build t ps =>
    split at hcomp
    · rename_i fs z qs ht hz hp
      split at hcomp
      · rename_i hall
        simp only [Option.map_eq_some_iff] at hcomp
        obtain ⟨qs', hq, rfl⟩ := hcomp
        exact op_build_struct H hc ht hz hp hall (by simpa using hq) hop e
      · simp at hcomp
    · rename_i n el z qs ht hz hp
      simp only [Option.map_eq_some_iff] at hcomp
      obtain ⟨s, hs, rfl⟩ := hcomp
      exact op_build_array H hc ht hz hs hp hop e
    · simp at hcomp
  case buildSlice t n ps =>
    split at hcomp
    · rename_i el qs ht hp
      have ht' : P.underlying t = some (.slice el) := by
        unfold tElem at ht; split at ht
        · simp at ht; subst ht; assumption
        · simp at ht
      split at hcomp
      · rename_i s ag z hs ha hz; obtain rfl := Option.some.inj hcomp; exact op_lit H hc ht' hs hz hp hop e
      · simp at hcomp
    · simp at hcomp
  case load t x =>
    split at hcomp
    · rename_i s ag x' hs ha hx; obtain rfl := Option.some.inj hcomp; exact op_load H hc hx hs ha hop e
    · simp at hcomp
  case store t x y =>
    split at hcomp
    · rename_i s x' y' hs hx hy; obtain rfl := Option.some.inj hcomp; exact op_store H hc hx hy hs hop e
    · simp at hcomp
  case nilCheck x => obtain ⟨x', hx, rfl⟩ := hcomp; exact op_nilc H hc hx hop e
  case binOp op t x y yt =>
    split at hcomp
    · rename_i k x' y' ht hx hy; obtain rfl := Option.some.inj hcomp; exact op_bin H hc (bk := .arith) hx hy trivial hop e
    · rename_i x' y' ht hx hy; obtain rfl := Option.some.inj hcomp; exact op_bin H hc (bk := .arith) hx hy trivial hop e
    · rename_i x' y' ht hx hy; obtain rfl := Option.some.inj hcomp; exact op_bin H hc (bk := .bool) hx hy ht hop e
    · rename_i fs x' y' ht hx hy
      simp only [Option.map_eq_some_iff] at hcomp
      obtain ⟨ks, hks, rfl⟩ := hcomp
      exact op_bin H hc (bk := .struct ks) hx hy hks hop e
    · rename_i el x' y' ht hx hy; obtain rfl := Option.some.inj hcomp; exact op_bin H hc (bk := .ptr) hx hy ⟨_, ht⟩ hop e
    · rename_i el x' y' ht hx hy; obtain rfl := Option.some.inj hcomp; exact op_bin H hc (bk := .sl) hx hy ⟨_, ht⟩ hop e
    · rename_i p1 p2 p3 x' y' ht hx hy; obtain rfl := Option.some.inj hcomp; exact op_bin H hc (bk := .fn) hx hy ⟨_, _, _, ht⟩ hop e
    · simp at hcomp
  case unOp op t x => obtain ⟨x', hx, rfl⟩ := hcomp; exact op_un H hc hx hop e
  case convert s d x =>
    split at hcomp
    · rename_i k0 k x' hs hd hx; obtain rfl := Option.some.inj hcomp; exact op_toInt H hc hx hs hd hop e
    · rename_i x' hs hd hx; obtain rfl := Option.some.inj hcomp; exact op_idstr H hc hx hs hd hop e
    · simp at hcomp
  case makeFunc fn first cap =>
    cases fn <;> simp only [Option.map_eq_some_iff] at hcomp
    case func f =>
      split at hcomp
      · rename_i hz
        simp only [Option.map_eq_some_iff] at hcomp
        obtain ⟨cs, hcs, rfl⟩ := hcomp
        have : first = #[] := Array.eq_empty_of_size_eq_zero hz
        subst this
        exact op_clo H hc hcs hop e
      · simp at hcomp
    all_goals simp at hcomp
  case makeSlice t l m =>
    split at hcomp
    · rename_i el l' m' ht hl hm
      have ht' : P.underlying t = some (.slice el) := by
        unfold tElem at ht; split at ht
        · simp at ht; subst ht; assumption
        · simp at ht
      split at hcomp
      · rename_i b s ag z h1 h2 h3 h4; obtain rfl := Option.some.inj hcomp; exact op_mksl H hc hl hm ht' h1 h2 h4 hop e
      · simp at hcomp
    · simp at hcomp
  case slice t x lo hi mx =>
    cases mx with
    | some q => simp at hcomp
    | none =>
      simp only at hcomp
      split at hcomp
      · rename_i el x' lo' hi' ht hx hlo hhi
        simp only [Option.map_eq_some_iff] at hcomp
        obtain ⟨s, hs, rfl⟩ := hcomp
        exact op_slice H hc hx hlo hhi ht hs hop e
      · rename_i x' lo' hi' ht hx hlo hhi; obtain rfl := Option.some.inj hcomp; exact op_sslice H hc hx hlo hhi ht hop e
      · simp at hcomp
  case fieldAddr t x i =>
    split at hcomp
    · rename_i fs x' ht hx
      split at hcomp
      · rename_i f hf
        split at hcomp
        · rename_i n hn
          split at hcomp
          · simp at hcomp
          · rename_i hne; obtain rfl := Option.some.inj hcomp; exact op_faddr H hc hx ht hf hn hne hop e
        · simp at hcomp
      · simp at hcomp
    · simp at hcomp
  case field t x i =>
    split at hcomp
    · rename_i fs x' ht hx
      split at hcomp
      · rename_i f hf
        split at hcomp
        · rename_i s ag hs ha; obtain rfl := Option.some.inj hcomp; exact op_field H hc hx ht hf hs ha hop e
        · simp at hcomp
      · simp at hcomp
    · simp at hcomp
  case indexAddr t x i =>
    split at hcomp
    · rename_i el x' i' ht hx hi
      simp only [Option.map_eq_some_iff] at hcomp
      obtain ⟨s, hs, rfl⟩ := hcomp
      exact op_iaddr H hc hx hi ht hs hop e
    · rename_i n el x' i' ht hx hi
      simp only [Option.map_eq_some_iff] at hcomp
      obtain ⟨s, hs, rfl⟩ := hcomp
      exact op_aaddr H hc hx hi ht hs hop e
    · simp at hcomp
  case index t x i =>
    split at hcomp
    · rename_i x' i' ht hx hi; obtain rfl := Option.some.inj hcomp; exact op_sidx H hc hx hi ht hop e
    · rename_i n el x' i' ht hx hi
      split at hcomp
      · rename_i s ag hs ha; obtain rfl := Option.some.inj hcomp; exact op_aidx H hc hx hi ht hs ha hop e
      · simp at hcomp
    · simp at hcomp
  case extract x i => obtain ⟨x', hx, rfl⟩ := hcomp; exact op_ext H hc hx hop e
  case call k =>
    unfold compCall at hcomp
    split at hcomp
    · rename_i b hb; exact builtin_ok H hc hop hb hcomp e
    · split at hcomp
      · split at hcomp <;> (obtain rfl := Option.some.inj hcomp; simp [isCall] at hnc)
      · simp only [Option.map_eq_some_iff] at hcomp
        obtain ⟨_, _, rfl⟩ := hcomp; simp [isCall] at hnc
      · simp at hcomp
    · simp at hcomp
  all_goals simp at hcomp

/-- A call, as it was translated. -/
theorem call_of_comp {aop : AOp} (hcomp : compOp P Hh fid c dst o.op = some aop) (hic : isCall aop = true) :
    ∃ f args asx ts, o.op = .call { callee := .value f, args := args, argTypes := ts } ∧ optL c args.toList = some asx ∧
      ((∃ g, f = .func g ∧ aop = .pcall g asx) ∨ (∃ f', (c f = some f' ∨ ∃ g, f = .func g ∧ f' = .c (.fn g [])) ∧ aop = .call f' asx)) := by
  generalize hop : o.op = op at hcomp
  cases op
  case call k =>
    obtain ⟨cal, args, ts⟩ := k
    simp only [compOp, compCall] at hcomp
    split at hcomp
    · rename_i b
      unfold compBuiltin at hcomp
      repeat' split at hcomp
      all_goals first
        | (simp at hcomp; done)
        | (simp only [Option.map_eq_some_iff] at hcomp; obtain ⟨_, _, rfl⟩ := hcomp; simp [isCall] at hic; done)
        | (obtain rfl := Option.some.inj hcomp; simp [isCall] at hic)
    · rename_i f
      split at hcomp
      · rename_i g asx ha
        split at hcomp
        · obtain rfl := Option.some.inj hcomp; exact ⟨_, args, asx, ts, rfl, ha, .inl ⟨g, rfl, rfl⟩⟩
        · obtain rfl := Option.some.inj hcomp; exact ⟨_, args, asx, ts, rfl, ha, .inr ⟨_, .inr ⟨g, rfl, rfl⟩, rfl⟩⟩
      · rename_i f asx _ ha
        simp only [Option.map_eq_some_iff] at hcomp
        obtain ⟨f', hf, rfl⟩ := hcomp
        exact ⟨_, args, asx, ts, rfl, ha, .inr ⟨f', .inl hf, rfl⟩⟩
      · simp at hcomp
    · simp at hcomp
  all_goals
    exfalso
    simp only [compOp] at hcomp
    repeat' split at hcomp
    all_goals first
      | contradiction
      | (simp at hcomp; done)
      | (simp only [Option.map_eq_some_iff] at hcomp; obtain ⟨_, _, rfl⟩ := hcomp; simp [isCall] at hic; done)
      | (obtain rfl := Option.some.inj hcomp; simp [isCall] at hic)
end
end Go.Abs

/-
  A region whose order is drawn: where its check has passed, every order that Go may take gives what the order of the text gives.
-/
namespace Go.Abs
set_option linter.unusedSimpArgs false
set_option linter.unusedVariables false

/-! ### an operation reads its operands alone -/

theorem evalA_congr {op : AOp} {ev ev' : Opd → AVal} {h : Heap} (hx : ∀ x ∈ opdsOf op, ev x = ev' x) : evalA op ev h = evalA op ev' h := by
  cases op with
  | build z ps =>
    simp only [evalA]
    have : (ps.map fun p => (p.1, p.2.1, ev p.2.2)) = ps.map fun p => (p.1, p.2.1, ev' p.2.2) := List.map_congr_left fun p hp => by rw [hx p.2.2 (by simp only [opdsOf]; exact List.mem_map_of_mem (f := fun p : Nat × Nat × Opd => p.2.2) hp)]
    rw [this]
  | lit mode ty n sz ag z ps =>
    simp only [evalA]
    have : (ps.map fun p => (p.1 * sz, sz, ev p.2)) = ps.map fun p => (p.1 * sz, sz, ev' p.2) := List.map_congr_left fun p hp => by rw [hx p.2 (by simp only [opdsOf]; exact List.mem_map_of_mem (f := fun p : Nat × Opd => p.2) hp)]
    rw [this]
  | clo f cap =>
    simp only [evalA]
    rw [List.map_congr_left (f := ev) (g := ev') (l := cap) (fun x hx' => hx x hx')]
  | slice sz x lo hi =>
    simp only [evalA]
    rw [hx x (by simp [opdsOf])]
    have h1 : lo.map ev = lo.map ev' := by cases lo with
      | none => rfl
      | some y => simp [hx y (by simp [opdsOf])]
    have h2 : hi.map ev = hi.map ev' := by cases hi with
      | none => rfl
      | some y => simp [hx y (by simp [opdsOf])]
    rw [h1, h2]
  | sslice x lo hi =>
    simp only [evalA]
    rw [hx x (by simp [opdsOf])]
    have h1 : lo.map ev = lo.map ev' := by cases lo with
      | none => rfl
      | some y => simp [hx y (by simp [opdsOf])]
    have h2 : hi.map ev = hi.map ev' := by cases hi with
      | none => rfl
      | some y => simp [hx y (by simp [opdsOf])]
    rw [h1, h2]
  | pick a b c => simp only [evalA]; rw [hx a (by simp [opdsOf]), hx b (by simp [opdsOf]), hx c (by simp [opdsOf])]
  | alloc => rfl
  | call => rfl
  | pcall => rfl
  | mov x => simp only [evalA]; rw [hx x (by simp [opdsOf])]
  | box _ _ x => simp only [evalA]; rw [hx x (by simp [opdsOf])]
  | load _ _ x => simp only [evalA]; rw [hx x (by simp [opdsOf])]
  | nilc x => simp only [evalA]; rw [hx x (by simp [opdsOf])]
  | un _ x => simp only [evalA]; rw [hx x (by simp [opdsOf])]
  | toInt _ x => simp only [evalA]; rw [hx x (by simp [opdsOf])]
  | idstr x => simp only [evalA]; rw [hx x (by simp [opdsOf])]
  | faddr _ x => simp only [evalA]; rw [hx x (by simp [opdsOf])]
  | field _ _ _ x => simp only [evalA]; rw [hx x (by simp [opdsOf])]
  | len x => simp only [evalA]; rw [hx x (by simp [opdsOf])]
  | slen x => simp only [evalA]; rw [hx x (by simp [opdsOf])]
  | ext x _ => simp only [evalA]; rw [hx x (by simp [opdsOf])]
  | store _ x y => simp only [evalA]; rw [hx x (by simp [opdsOf]), hx y (by simp [opdsOf])]
  | bin _ _ x y => simp only [evalA]; rw [hx x (by simp [opdsOf]), hx y (by simp [opdsOf])]
  | mksl _ _ _ _ x y => simp only [evalA]; rw [hx x (by simp [opdsOf]), hx y (by simp [opdsOf])]
  | iaddr _ x y => simp only [evalA]; rw [hx x (by simp [opdsOf]), hx y (by simp [opdsOf])]
  | aaddr _ _ x y => simp only [evalA]; rw [hx x (by simp [opdsOf]), hx y (by simp [opdsOf])]
  | sidx x y => simp only [evalA]; rw [hx x (by simp [opdsOf]), hx y (by simp [opdsOf])]
  | aidx _ _ _ x y => simp only [evalA]; rw [hx x (by simp [opdsOf]), hx y (by simp [opdsOf])]
  | append _ _ _ _ _ x y => simp only [evalA]; rw [hx x (by simp [opdsOf]), hx y (by simp [opdsOf])]
  | copy _ x y => simp only [evalA]; rw [hx x (by simp [opdsOf]), hx y (by simp [opdsOf])]
  | mnx _ x y => simp only [evalA]; rw [hx x (by simp [opdsOf]), hx y (by simp [opdsOf])]

theorem execA_congr {cf : CallF} {op : AOp} {ev ev' : Opd → AVal} {h : Heap} (hx : ∀ x ∈ opdsOf op, ev x = ev' x) : execA cf op ev h = execA cf op ev' h := by
  cases op with
  | call f args =>
    simp only [execA]
    rw [hx f (by simp [opdsOf]), List.map_congr_left (fun x hx' => hx x (by simp [opdsOf, hx']))]
  | pcall f args =>
    simp only [execA]
    rw [List.map_congr_left (fun x hx' => hx x (by simp [opdsOf, hx']))]
  | _ => simp only [execA]; exact evalA_congr hx

/-! ### what an operation does to the heap -/

mutual
theorem purify_push (h : Heap) (ob : Obj) : ∀ (x : AVal) {y : AVal}, purify h x = some y → purify (h.push ob) x = some y
  | .bool _, _, e => by simpa [purify] using e
  | .int _ _, _, e => by simpa [purify] using e
  | .str _, _, e => by simpa [purify] using e
  | .sl xs (.own _ _), _, e => by simpa [purify] using e
  | .sl xs .nil, _, e => by simpa [purify] using e
  | .sl xs .none, _, e => by simpa [purify] using e
  | .nilptr, _, e => by simpa [purify] using e
  | .ptr _ _, _, e => by simp [purify] at e
  | .rp _, _, e => by simp [purify] at e
  | .ref id off len sz, y, e => by
    simp only [purify, Option.map_eq_some_iff] at e ⊢
    obtain ⟨xs, hx, rfl⟩ := e
    refine ⟨xs, ?_, rfl⟩
    unfold readRef at hx ⊢
    split at hx
    · rename_i hg
      rw [Heap.get_push_old _ (Heap.get_lt hg), hg]; exact hx
    · simp at hx
  | .fn f cap, y, e => by
    simp only [purify, Option.map_eq_some_iff] at e ⊢
    obtain ⟨c, hc, rfl⟩ := e
    exact ⟨c, purifyL_push h ob cap hc, rfl⟩
  | .nilfn, _, e => by simpa [purify] using e
  | .nilif, _, e => by simpa [purify] using e
  | .agg cs, y, e => by
    simp only [purify, Option.map_eq_some_iff] at e ⊢
    obtain ⟨c, hc, rfl⟩ := e
    exact ⟨c, purifyL_push h ob cs hc, rfl⟩
  | .tup cs, y, e => by
    simp only [purify, Option.map_eq_some_iff] at e ⊢
    obtain ⟨c, hc, rfl⟩ := e
    exact ⟨c, purifyL_push h ob cs hc, rfl⟩
  | .bad, _, e => by simp [purify] at e
theorem purifyL_push (h : Heap) (ob : Obj) : ∀ (xs : List AVal) {ys : List AVal}, purifyL h xs = some ys → purifyL (h.push ob) xs = some ys
  | [], _, e => by simpa [purifyL] using e
  | x :: xs, ys, e => by
    simp only [purifyL] at e ⊢
    split at e
    · rename_i y ys' h1 h2
      rw [purify_push h ob x h1, purifyL_push h ob xs h2]; exact e
    · simp at e
end

theorem cls_n {cf : CallF} {op : AOp} {ev : Opd → AVal} {h h' : Heap} {r : AVal} (hc : clsOf op = .n) (e : execA cf op ev h = some (r, h')) : h' = h ∧ ∀ h2, execA cf op ev h2 = some (r, h2) := by
  cases op <;> simp only [clsOf] at hc <;> try (simp at hc; done)
  case lit mode ty n sz ag z ps =>
    have hm : mode = 0 := by
      repeat' split at hc
      all_goals first
        | assumption
        | (simp at hc; done)
    subst hm
    simp only [execA, evalA] at e ⊢
    split at e
    · rename_i cs hf
      split at e
      · simp at e
      · rename_i hcond
        simp only [show ¬ ((0 : Nat) = 2) by omega, show ¬ ((0 : Nat) = 3) by omega, show ¬ ((0 : Nat) = 1) by omega, if_false] at e
        split at e
        · simp at e
        · rename_i cs' hs
          split at e
          · simp at e
          · rename_i xs hch
            simp at e; obtain ⟨rfl, rfl⟩ := e
            refine ⟨rfl, fun h2 => ?_⟩
            simp only [hcond, show ¬ ((0 : Nat) = 2) by omega, show ¬ ((0 : Nat) = 3) by omega, show ¬ ((0 : Nat) = 1) by omega, if_false, hs, hch]
            simp
    · simp at e
  all_goals
    simp only [execA, evalA] at e ⊢
    repeat' split at e
    all_goals first
      | (simp at e; done)
      | (simp only [Option.some.injEq, Prod.mk.injEq] at e; obtain ⟨rfl, rfl⟩ := e; exact ⟨rfl, fun h2 => by simp [*]⟩)
      | (simp only [Option.map_eq_some_iff, Prod.mk.injEq] at e; obtain ⟨x, e, rfl, rfl⟩ := e; exact ⟨rfl, fun h2 => by simp [*]⟩)

theorem cls_r {cf : CallF} {op : AOp} {ev : Opd → AVal} {h h' : Heap} {r : AVal} (hc : clsOf op = .r) (e : execA cf op ev h = some (r, h')) : h' = h ∧ ∀ ob, execA cf op ev (h.push ob) = some (r, h.push ob) := by
  cases op <;> simp only [clsOf] at hc <;> try (simp at hc; done)
  case lit mode ty n sz ag z ps =>
    repeat' split at hc
    all_goals simp at hc
  case load n ag x =>
    simp only [execA, evalA, Option.map_eq_some_iff, Prod.mk.injEq] at e ⊢
    obtain ⟨x', e, rfl, rfl⟩ := e
    refine ⟨rfl, fun ob => ⟨x', ?_, rfl, trivial⟩⟩
    unfold loadA at e ⊢
    split at e
    · split at e
      · rename_i hg
        rw [Heap.get_push_old _ (Heap.get_lt hg), hg]; exact e
      · simp at e
    · exact e
    · simp at e
  case pcall f args =>
    simp only [execA] at e ⊢
    split at e
    · rename_i asx hs
      split at e
      · rename_i r0 h0 hcf
        simp only [Option.map_eq_some_iff, Prod.mk.injEq] at e
        obtain ⟨x, hp, rfl, rfl⟩ := e
        exact ⟨rfl, fun ob => by simp [hs, hcf, hp]⟩
      · simp at e
    · rename_i hs
      split at e
      · rename_i asx hp
        split at e
        · rename_i r0 h0 hcf
          split at e
          · rename_i hsc
            simp at e; obtain ⟨rfl, rfl⟩ := e
            exact ⟨rfl, fun ob => by simp [hs, purifyL_push h ob _ hp, hcf, hsc]⟩
          · simp at e
        · simp at e
      · simp at e

theorem cls_a {cf : CallF} {op : AOp} {ev : Opd → AVal} {h h' : Heap} {r : AVal} (hc : clsOf op = .a) (e : execA cf op ev h = some (r, h')) : ∃ ob, h' = h.push ob ∧ ∀ h2 : Heap, h2.next = h.next → execA cf op ev h2 = some (r, h2.push ob) := by
  cases op <;> simp only [clsOf] at hc <;> try (simp at hc; done)
  case lit mode ty n sz ag z ps =>
    have hm : mode = 1 ∨ mode = 2 := by
      repeat' split at hc
      all_goals first
        | exact .inl (by assumption)
        | exact .inr (by assumption)
        | (simp at hc; done)
    simp only [execA, evalA] at e ⊢
    split at e
    · rename_i cs hf
      split at e
      · simp at e
      · rename_i hcond
        rcases hm with rfl | rfl
        · simp only [show ¬ ((1 : Nat) = 2) by omega, show ¬ ((1 : Nat) = 3) by omega, if_false, if_true] at e
          split at e
          · simp at e
          · rename_i cs' hs
            split at e
            · simp at e
            · rename_i xs hch
              simp at e; obtain ⟨rfl, rfl⟩ := e
              exact ⟨_, rfl, fun h2' hn => by simp only [hcond, if_false, show ¬ ((1 : Nat) = 2) by omega, show ¬ ((1 : Nat) = 3) by omega, hs, hch, if_true, hn]; simp⟩
        · simp only [if_true] at e
          simp at e; obtain ⟨rfl, rfl⟩ := e
          exact ⟨_, rfl, fun h2' hn => by simp only [hcond, if_false, if_true, hn]; simp⟩
    · simp at e
  all_goals
    simp only [execA, evalA] at e ⊢
    repeat' split at e
    all_goals first
      | (simp at e; done)
      | (simp only [Option.some.injEq, Prod.mk.injEq] at e; obtain ⟨rfl, rfl⟩ := e; exact ⟨_, rfl, fun h2 hn => by simp [*]⟩)
end Go.Abs

/-
  Independent steps of a region may be exchanged, and so every drawn order gives what the text's order gives.
-/
namespace Go.Abs
set_option linter.unusedSimpArgs false
set_option linter.unusedVariables false

theorem readsV_false {o : AOper} {i : Nat} (h : readsV o i = false) : ∀ x ∈ readsOf o, x ≠ .v i := by
  intro x hx he
  subst he
  have : readsV o i = true := List.any_eq_true.2 ⟨.v i, hx, by simp⟩
  rw [h] at this; simp at this

theorem readsT_false {o : AOper} {k : Nat} (h : readsT o k = false) : ∀ x ∈ readsOf o, x ≠ .t k := by
  intro x hx he
  subst he
  have : readsT o k = true := List.any_eq_true.2 ⟨.t k, hx, by simp⟩
  rw [h] at this; simp at this

theorem ev_put {s : St} {k : Nat} {d : ADst} {r : AVal} {h : Heap} {x : Opd} (hv : ∀ i, d = .var i → x ≠ .v i) (ht : x ≠ .t k) : evOpd (s.put k d r h).vs (s.put k d r h).ts x = evOpd s.vs s.ts x := by
  cases x with
  | c y => rfl
  | v i =>
    cases d with
    | no => rfl
    | tmp => rfl
    | var j =>
      have : j ≠ i := fun e => hv j rfl (by rw [e])
      simp [evOpd, St.put, List.getElem?_set_ne this]
  | t j =>
    cases d with
    | no => rfl
    | tmp =>
      have : k ≠ j := fun e => ht (by rw [e])
      simp [evOpd, St.put, List.getElem?_set_ne this]
    | var i => rfl

/-- A step, told: whether it runs, its result, the heap behind it. -/
structure Told (cf : CallF) (o : AOper) (s : St) (g : Bool) (r : AVal) (h' : Heap) : Prop where
  want : wantA (evOpd s.vs s.ts) o.guard = some g
  run : if g then execA cf o.op (evOpd s.vs s.ts) s.h = some (r, h') else r = .tup [] ∧ h' = s.h

theorem step_told {cf : CallF} {o : AOper} {k : Nat} {s s' : St} (e : stepA cf o k s = some s') : ∃ g r h', Told cf o s g r h' ∧ s' = s.put k o.dst r h' := by
  unfold stepA at e
  split at e
  · simp at e
  · rename_i hw
    obtain rfl := Option.some.inj e
    exact ⟨false, _, _, ⟨hw, by simp⟩, rfl⟩
  · rename_i hw
    split at e
    · rename_i r h' he
      obtain rfl := Option.some.inj e
      exact ⟨true, r, h', ⟨hw, by simpa using he⟩, rfl⟩
    · simp at e

theorem told_step {cf : CallF} {o : AOper} {k : Nat} {s : St} {g : Bool} {r : AVal} {h' : Heap} (t : Told cf o s g r h') : stepA cf o k s = some (s.put k o.dst r h') := by
  unfold stepA
  rw [t.want]
  have hr := t.run
  cases g
  · simp at hr; simp [hr.1, hr.2]
  · simp at hr; simp [hr]

theorem told_congr {cf : CallF} {o : AOper} {s s' : St} {g : Bool} {r : AVal} {h' : Heap} (t : Told cf o s g r h') (hx : ∀ x ∈ readsOf o, evOpd s.vs s.ts x = evOpd s'.vs s'.ts x) (hh : s'.h = s.h) : Told cf o s' g r h' := by
  refine ⟨?_, ?_⟩
  · rw [← t.want]
    cases hg : o.guard with
    | none => rfl
    | some p =>
      simp only [wantA]
      rw [hx p.1 (by simp [readsOf, hg])]
  · have hr := t.run
    rw [hh, ← execA_congr (cf := cf) (ev := evOpd s.vs s.ts) (fun x hx' => hx x (by simp [readsOf, hx']))]
    exact hr

/-- The heap's part of an exchange. -/
theorem told_heap {cf : CallF} {a b : AOper} {s : St} {g g' : Bool} {r r' : AVal} {h1 h2 : Heap} (hcl : heapConf (clsOf a.op) (clsOf b.op) = false) (ta : Told cf a s g r h1) (tb : Told cf b { s with h := h1 } g' r' h2) :
    ∃ h1', Told cf b s g' r' h1' ∧ Told cf a { s with h := h1' } g r h2 := by
  have wa := ta.want
  have wb := tb.want
  have ra := ta.run
  have rb := tb.run
  cases g with
  | false =>
    simp at ra
    obtain ⟨rfl, rfl⟩ := ra
    exact ⟨h2, ⟨wb, rb⟩, ⟨wa, by simp⟩⟩
  | true =>
    simp at ra
    cases g' with
    | false =>
      simp at rb
      obtain ⟨rfl, rfl⟩ := rb
      exact ⟨s.h, ⟨wb, by simp⟩, ⟨wa, by simpa using ra⟩⟩
    | true =>
      simp at rb
      cases ca : clsOf a.op <;> cases cb : clsOf b.op <;> rw [ca, cb] at hcl <;> simp [heapConf] at hcl <;> first
        | (obtain ⟨rfl, q⟩ := cls_n ca ra; exact ⟨h2, ⟨wb, by simpa using rb⟩, ⟨wa, by simpa using q h2⟩⟩)
        | (obtain ⟨rfl, q⟩ := cls_n cb rb; exact ⟨s.h, ⟨wb, by simpa using q s.h⟩, ⟨wa, by simpa using ra⟩⟩)
        | (obtain ⟨rfl, _⟩ := cls_r ca ra; obtain ⟨rfl, _⟩ := cls_r cb rb; exact ⟨s.h, ⟨wb, by simpa using rb⟩, ⟨wa, by simpa using ra⟩⟩)
        | (obtain ⟨rfl, q⟩ := cls_r ca ra
           obtain ⟨ob, rfl, q'⟩ := cls_a cb rb
           exact ⟨s.h.push ob, ⟨wb, by simpa using q' s.h rfl⟩, ⟨wa, by simpa using q ob⟩⟩)

theorem put_comm {s : St} {i j : Nat} {a b : ADst} {r r' : AVal} {h1 h2 h3 : Heap} (hij : i ≠ j) (hv : ∀ x y, a = .var x → b = .var y → x ≠ y) : (s.put i a r h1).put j b r' h2 = (s.put j b r' h3).put i a r h2 := by
  cases a with
  | no => cases b <;> rfl
  | tmp => cases b with
    | no => rfl
    | tmp => simp only [St.put, St.mk.injEq, and_true, true_and]; exact List.set_comm _ _ hij
    | var y => rfl
  | var x => cases b with
    | no => rfl
    | tmp => rfl
    | var y => simp only [St.put, St.mk.injEq, and_true]; exact List.set_comm _ _ (hv x y rfl rfl)

/-- Two steps that are independent, i before j in the text, may be exchanged. -/
theorem step_comm {cf : CallF} {a b : AOper} {i j : Nat} {s s1 s2 : St} (hij : i ≠ j) (hc : conf i a j b = false) (e1 : stepA cf a i s = some s1) (e2 : stepA cf b j s1 = some s2) : ∃ s1', stepA cf b j s = some s1' ∧ stepA cf a i s1' = some s2 := by
  simp only [conf, Bool.or_eq_false_iff] at hc
  obtain ⟨⟨⟨⟨⟨c1, c2⟩, c3⟩, c4⟩, c5⟩, c6⟩ := hc
  obtain ⟨g, r, h1, ta, rfl⟩ := step_told e1
  obtain ⟨g', r', h2, tb, rfl⟩ := step_told e2
  have hb : ∀ x ∈ readsOf b, evOpd (s.put i a.dst r h1).vs (s.put i a.dst r h1).ts x = evOpd s.vs s.ts x := fun x hx =>
    ev_put (fun k hk => by rw [hk] at c4; exact readsV_false c4 x hx) (readsT_false c1 x hx)
  have tb' : Told cf b { s with h := h1 } g' r' h2 := told_congr tb hb (by cases a.dst <;> rfl)
  obtain ⟨h1', q1, q2⟩ := told_heap c3 ta tb'
  have ha : ∀ x ∈ readsOf a, evOpd s.vs s.ts x = evOpd (s.put j b.dst r' h1').vs (s.put j b.dst r' h1').ts x := fun x hx =>
    (ev_put (fun k hk => by rw [hk] at c5; exact readsV_false c5 x hx) (readsT_false c2 x hx)).symm
  have q2' : Told cf a (s.put j b.dst r' h1') g r h2 := told_congr q2 ha (by cases b.dst <;> rfl)
  refine ⟨_, told_step q1, ?_⟩
  rw [told_step q2', put_comm hij (fun x y hx hy => by rw [hx, hy] at c6; simpa using c6)]

/-! ### lists of steps -/

def foldI (cf : CallF) (asx : List AOper) : List Nat → St → Option St
  | [], s => some s
  | k :: l, s => match asx[k]? with
    | some o => match stepA cf o k s with
      | some s' => foldI cf asx l s'
      | none => none
    | none => none

theorem foldA_eq (cf : CallF) (asx : List AOper) : ∀ (l : List AOper) (k : Nat) (s : St), (∀ j, l[j]? = asx[k + j]?) → foldA cf l k s = foldI cf asx (List.range' k l.length) s
  | [], k, s, _ => rfl
  | o :: l, k, s, h => by
    have h0 : asx[k]? = some o := by simpa using (h 0).symm
    simp only [foldA, List.length_cons, List.range'_succ, foldI, h0]
    cases stepA cf o k s with
    | none => rfl
    | some s' => exact foldA_eq cf asx l (k + 1) s' (fun j => by have := h (j + 1); rw [List.getElem?_cons_succ] at this; rw [this]; congr 1; omega)

theorem foldI_move {cf : CallF} {asx : List AOper} {i : Nat} {a : AOper} (ha : asx[i]? = some a) : ∀ (l1 : List Nat) {l2 : List Nat} {s s1 τ : St}, (∀ j ∈ l1, i ≠ j ∧ ∀ b, asx[j]? = some b → conf i a j b = false) → stepA cf a i s = some s1 → foldI cf asx (l1 ++ l2) s1 = some τ →
    foldI cf asx (l1 ++ i :: l2) s = some τ
  | [], l2, s, s1, τ, _, e1, e2 => by simp only [List.nil_append] at e2 ⊢; simp only [foldI, ha, e1]; exact e2
  | j :: l1, l2, s, s1, τ, h, e1, e2 => by
    simp only [List.cons_append, foldI] at e2 ⊢
    split at e2
    · rename_i b hb
      split at e2
      · rename_i s2 hs2
        obtain ⟨h1, h2⟩ := h j (by simp)
        obtain ⟨s1', q1, q2⟩ := step_comm h1 (h2 b hb) e1 hs2
        simp only [q1]
        exact foldI_move ha l1 (fun k hk => h k (by simp [hk])) q2 e2
      · simp at e2
    · simp at e2

/-- The pairs of a list that may not stand so. -/
def okPair (asx : List AOper) (x y : Nat) : Prop := y < x → ∀ a b, asx[y]? = some a → asx[x]? = some b → conf y a x b = false

theorem foldI_perm {cf : CallF} {asx : List AOper} : ∀ {m n : Nat} {l : List Nat} {s τ : St}, l.Perm (List.range' m n) → l.Pairwise (okPair asx) → foldI cf asx (List.range' m n) s = some τ → foldI cf asx l s = some τ
  | m, 0, l, s, τ, hp, _, e => by
    have : l = [] := by simpa using hp
    subst this; exact e
  | m, n + 1, l, s, τ, hp, hw, e => by
    rw [List.range'_succ] at hp e
    have hm : m ∈ l := hp.symm.subset (by simp)
    obtain ⟨l1, l2, rfl⟩ := List.append_of_mem hm
    have hp' : (l1 ++ l2).Perm (List.range' (m + 1) n) := by
      have := (List.perm_middle (a := m) (l₁ := l1) (l₂ := l2)).symm.trans hp
      exact (List.perm_cons m).1 this
    simp only [foldI] at e
    split at e
    · rename_i a ha
      split at e
      · rename_i s1 hs1
        have hw' : (l1 ++ l2).Pairwise (okPair asx) := hw.sublist (by simp)
        have ih := foldI_perm hp' hw' e
        refine foldI_move ha l1 (fun j hj => ?_) hs1 ih
        have hjr : j ∈ List.range' (m + 1) n := hp'.subset (by simp [hj])
        have hjm : m < j := by rw [List.mem_range'_1] at hjr; omega
        refine ⟨by omega, fun b hb => ?_⟩
        have := (List.pairwise_append.1 hw).2.2 j hj m (by simp)
        exact this hjm a b ha hb
      · simp at e
    · simp at e

/-! ### the drawn orders -/

/-- A list of operations, the last first, in which whatever comes before an operation has been taken. -/
def Ord (ops : List Oper) : List Nat → Prop
  | [] => True
  | x :: tl => (∀ o, ops[x]? = some o → ∀ e ∈ o.after.toList, Region.binds .any e = true → e.on ∈ tl) ∧ Ord ops tl

theorem edgesOk_get : ∀ {l : List Oper} {k j : Nat} {o : Oper}, edgesOk l k = true → l[j]? = some o → ∀ e ∈ o.after.toList, Region.binds .any e = true → e.on < k + j
  | [], k, j, o, _, h => by simp at h
  | o' :: l, k, j, o, h, hj => by
    simp only [edgesOk, Bool.and_eq_true] at h
    cases j with
    | zero =>
      simp at hj; subst hj
      intro e he hb
      have := List.all_eq_true.1 h.1 e he
      simp [hb] at this; omega
    | succ j =>
      intro e he hb
      have := edgesOk_get h.2 (by simpa using hj) e he hb
      omega

theorem lin_go {ops : Array Oper} (hE : edgesOk ops.toList 0 = true) : ∀ (fuel t : Nat) (listed : Array Bool) (acc : List Nat), acc.length + fuel = ops.size → acc.Nodup → (∀ x ∈ acc, x < ops.size) → listed.size = ops.size → (∀ i, i < ops.size → (listed.getD i true = true ↔ i ∈ acc)) → Ord ops.toList acc →
    ∃ acc', Region.linearise.go .any ops fuel t listed acc = acc'.reverse ∧ acc'.length = ops.size ∧ acc'.Nodup ∧ (∀ x ∈ acc', x < ops.size) ∧ Ord ops.toList acc'
  | 0, t, listed, acc, hl, hn, hlt, hs, hli, ho => ⟨acc, rfl, by omega, hn, hlt, ho⟩
  | fuel + 1, t, listed, acc, hl, hn, hlt, hs, hli, ho => by
    unfold Region.linearise.go
    simp only
    generalize hrs : (List.range ops.size).filter (fun i => !listed.getD i true && ((ops[i]?).map (fun o => o.after.all fun e => !Region.binds .any e || listed.getD e.on false)).getD false) = rs
    have hmem : ∀ i, i ∈ rs ↔ (i < ops.size ∧ i ∉ acc ∧ ∀ o, ops[i]? = some o → ∀ e ∈ o.after.toList, Region.binds .any e = true → listed.getD e.on false = true) := by
      intro i
      rw [← hrs, List.mem_filter, List.mem_range]
      constructor
      · rintro ⟨h1, h2⟩
        simp only [Bool.and_eq_true, Bool.not_eq_true'] at h2
        refine ⟨h1, fun hm => ?_, fun o hoo e he hb => ?_⟩
        · rw [(hli i h1).2 hm] at h2; simp at h2
        · rw [hoo] at h2
          simp only [Option.map_some, Option.getD_some, Array.all_eq_true_iff_forall_mem] at h2
          have := h2.2 e (by simpa using he)
          simpa [hb] using this
      · rintro ⟨h1, h2, h3⟩
        refine ⟨h1, ?_⟩
        simp only [Bool.and_eq_true, Bool.not_eq_true']
        refine ⟨?_, ?_⟩
        · cases hq : listed.getD i true with
          | false => rfl
          | true => exact absurd ((hli i h1).1 hq) h2
        · obtain ⟨o, hoo⟩ : ∃ o, ops[i]? = some o := ⟨_, Array.getElem?_eq_getElem h1⟩
          rw [hoo]
          simp only [Option.map_some, Option.getD_some, Array.all_eq_true_iff_forall_mem]
          intro e he
          cases hb : Region.binds .any e with
          | false => rfl
          | true => simp [h3 o hoo e (by simpa using he) hb]
    have hne : rs ≠ [] := by
      -- the smallest that is not listed
      have hex : ∃ i, i < ops.size ∧ i ∉ acc := by
        apply Classical.byContradiction
        intro hno
        have hall : ∀ i, i < ops.size → i ∈ acc := fun i hi => Classical.byContradiction fun hc => hno ⟨i, hi, hc⟩
        have hsub : (List.range ops.size) ⊆ acc := fun i hi => hall i (by simpa using hi)
        have := (List.nodup_range (n := ops.size)).length_le_of_subset hsub
        simp at this; omega
      have hmin : ∃ i, (i < ops.size ∧ i ∉ acc) ∧ ∀ j, j < i → ¬ (j < ops.size ∧ j ∉ acc) := by
        obtain ⟨i, hi⟩ := hex
        induction i using Nat.strongRecOn with
        | _ i ih =>
          by_cases h : ∃ j, j < i ∧ (j < ops.size ∧ j ∉ acc)
          · obtain ⟨j, hj, hj'⟩ := h; exact ih j hj hj'
          · exact ⟨i, hi, fun j hj hc => h ⟨j, hj, hc⟩⟩
      obtain ⟨i, ⟨h1, h2⟩, h3⟩ := hmin
      have : i ∈ rs := (hmem i).2 ⟨h1, h2, fun o hoo e he hb => by
        have hlt' := edgesOk_get hE (j := i) (by simpa using hoo) e he hb
        rw [Nat.zero_add] at hlt'
        have hin : e.on ∈ acc := Classical.byContradiction fun hc => h3 e.on hlt' ⟨by omega, hc⟩
        have := (hli e.on (by omega)).2 hin
        rw [Array.getD_eq_getD_getElem?] at this ⊢
        rw [Array.getElem?_eq_getElem (by omega)] at this ⊢
        simpa using this⟩
      intro he; rw [he] at this; simp at this
    have hpos : 0 < rs.length := List.length_pos_iff.2 hne
    have hlt2 : t % rs.length < rs.length := Nat.mod_lt _ hpos
    rw [List.getElem?_eq_getElem hlt2]
    simp only
    generalize hi : rs[t % rs.length] = i
    have him : i ∈ rs := by rw [← hi]; exact List.getElem_mem _
    obtain ⟨h1, h2, h3⟩ := (hmem i).1 him
    refine lin_go hE fuel (t / rs.length) (listed.setIfInBounds i true) (i :: acc) (by simp; omega) (List.nodup_cons.2 ⟨h2, hn⟩) (fun x hx => ?_) (by simp [hs]) (fun j hj => ?_) ⟨fun o hoo e he hb => ?_, ho⟩
    · rcases List.mem_cons.1 hx with rfl | hx
      · exact h1
      · exact hlt x hx
    · rw [Array.getD_eq_getD_getElem?, Array.getElem?_setIfInBounds]
      by_cases hij : i = j
      · subst hij; simp [hs, h1]
      · have := hli j hj
        rw [Array.getD_eq_getD_getElem?] at this
        simp [hij, this, List.mem_cons, Ne.symm hij]
    · have hb2 := h3 o (by simpa using hoo) e he hb
      have hlt' := edgesOk_get hE (j := i) (by simpa using hoo) e he hb
      rw [Nat.zero_add] at hlt'
      refine (hli e.on (by omega)).1 ?_
      rw [Array.getD_eq_getD_getElem?] at hb2 ⊢
      rw [Array.getElem?_eq_getElem (by omega)] at hb2 ⊢
      simpa using hb2

theorem befs_get : ∀ {l : List Oper} {acc : List (List Nat)} {j : Nat}, (∀ k, acc.length ≤ k → acc[k]? = none) → 
    (befs l acc).length = acc.length + l.length ∧ (∀ k, k < acc.length → (befs l acc)[k]? = acc[k]?) ∧
    (∀ k o, l[k]? = some o → (befs l acc)[acc.length + k]? = some (o.after.toList.flatMap fun e => if Region.binds .any e then e.on :: (((befs l acc).take (acc.length + k))[e.on]?).getD [] else []))
  | [], acc, j, _ => by simp [befs]
  | o :: l, acc, j, h => by
    simp only [befs]
    generalize hx : (o.after.toList.flatMap fun e => if Region.binds .any e then e.on :: ((acc[e.on]?).getD []) else []) = x
    obtain ⟨e1, e2, e3⟩ := befs_get (l := l) (acc := acc ++ [x]) (j := j) (fun k hk => List.getElem?_eq_none hk)
    have htake : (befs l (acc ++ [x])).take acc.length = acc := by
      apply List.ext_getElem?
      intro k
      rw [List.getElem?_take]
      split
      · rename_i hk
        rw [e2 k (by simp; omega), List.getElem?_append_left hk]
      · rename_i hk
        rw [List.getElem?_eq_none (by omega)]
    refine ⟨by rw [e1]; simp; omega, fun k hk => ?_, fun k o' hk => ?_⟩
    · rw [e2 k (by simp; omega), List.getElem?_append_left hk]
    · cases k with
      | zero =>
        simp at hk; subst hk
        rw [Nat.add_zero, e2 acc.length (by simp), htake]
        simp [← hx]
      | succ k =>
        have := e3 k o' (by simpa using hk)
        simp only [List.length_append, List.length_cons, List.length_nil] at this
        rw [show acc.length + (k + 1) = acc.length + (0 + 1) + k by omega]
        exact this

/-- Whatever the table names has been taken. -/
theorem befs_ord {ops : List Oper} : ∀ (j : Nat) {p q : List Nat}, j < ops.length → Ord ops (p ++ j :: q) → ∀ i ∈ ((befs ops [])[j]?).getD [], i ∈ q := by
  intro j
  induction j using Nat.strongRecOn with
  | _ j ih =>
    intro p q hj ho i hi
    have hoq : Ord ops (j :: q) := by
      clear hi ih
      induction p with
      | nil => exact ho
      | cons x p ihp => exact ihp ho.2
    obtain ⟨_, _, e3⟩ := befs_get (l := ops) (acc := []) (j := 0) (by simp)
    obtain ⟨o, hoo⟩ : ∃ o, ops[j]? = some o := ⟨_, List.getElem?_eq_getElem hj⟩
    have := e3 j o hoo
    simp only [List.length_nil, Nat.zero_add] at this
    rw [this] at hi
    simp only [Option.getD_some, List.mem_flatMap] at hi
    obtain ⟨e, he, hi⟩ := hi
    split at hi
    · rename_i hb
      have hon := hoq.1 o hoo e he hb
      rcases List.mem_cons.1 hi with rfl | hi
      · exact hon
      · rw [List.getElem?_take] at hi
        split at hi
        · rename_i hlt
          obtain ⟨q1, q2, rfl⟩ := List.append_of_mem hon
          have := ih e.on hlt (p := q1) (q := q2) (by omega) hoq.2 i hi
          simp [this]
        · simp at hi
    · simp at hi

theorem ord_pairs {ops : List Oper} {asx : List AOper} (hl : asx.length = ops.length) (hp : pairsOk (befs ops []) asx = true) : ∀ {acc : List Nat}, Ord ops acc → acc.Nodup → (∀ x ∈ acc, x < ops.length) → acc.Pairwise (fun x y => okPair asx y x)
  | [], _, _, _ => .nil
  | x :: tl, ho, hn, hlt => by
    refine List.Pairwise.cons (fun y hy => ?_) (ord_pairs hl hp ho.2 (List.nodup_cons.1 hn).2 (fun z hz => hlt z (by simp [hz])))
    intro hxy a b ha hb
    cases hc : conf x a y b with
    | false => rfl
    | true =>
      exfalso
      have hylt := hlt y (by simp [hy])
      simp only [pairsOk, List.all_eq_true, List.mem_range] at hp
      have := hp y (by omega) x hxy
      rw [ha, hb] at this
      simp only [hc, Bool.not_true, Bool.false_or] at this
      have hmem : x ∈ ((befs ops [])[y]?).getD [] := by simpa using this
      obtain ⟨q1, q2, rfl⟩ := List.append_of_mem hy
      have := befs_ord y (p := q1) (q := q2) hylt ho.2 x hmem
      exact (List.nodup_cons.1 hn).1 (by simp [this])

/-- Every drawn order gives what the text's order gives. -/
theorem draw_ok {cf : CallF} {ops : Array Oper} {asx : List AOper} {s τ : St} (hl : asx.length = ops.size) (hd : drawOk ops.toList asx = true) (e : foldI cf asx (List.range' 0 asx.length) s = some τ) (t : Nat) : foldI cf asx (Region.schedule true ops t) s = some τ := by
  simp only [drawOk, Bool.and_eq_true] at hd
  have hs : Region.schedule true ops t = Region.linearise .any ops t := by simp [Region.schedule]
  rw [hs]
  obtain ⟨acc, q1, q2, q3, q4, q5⟩ := lin_go hd.1 ops.size t (Array.replicate ops.size false) [] (by simp) (by simp) (by simp) (by simp) (fun i hi => by simp [Array.getD_eq_getD_getElem?, hi]) trivial
  have hlin : Region.linearise .any ops t = acc.reverse := q1
  rw [hlin]
  have hperm : acc.Perm (List.range ops.size) := by
    have hmem : ∀ i, i ∈ acc ↔ i ∈ List.range ops.size := fun i => by
      rw [List.mem_range]
      refine ⟨fun hi => q4 i hi, fun hi => Classical.byContradiction fun hc => ?_⟩
      have hn : (i :: acc).Nodup := List.nodup_cons.2 ⟨hc, q3⟩
      have hsub : (i :: acc) ⊆ List.range ops.size := fun x hx => by
        rcases List.mem_cons.1 hx with rfl | hx
        · simpa using hi
        · simpa using q4 x hx
      have := hn.length_le_of_subset hsub
      simp at this; omega
    rw [List.perm_iff_count]
    intro i
    rw [q3.count, (List.nodup_range (n := ops.size)).count]
    simp only [hmem i]
  refine foldI_perm (m := 0) (n := asx.length) ?_ ?_ e
  · rw [hl, ← List.range_eq_range']; exact (List.reverse_perm acc).trans hperm
  · rw [List.pairwise_reverse]
    exact ord_pairs (by rw [hl]; simp) hd.2 q5 q3 (fun x hx => by simpa using q4 x hx)
end Go.Abs

/-
  The abstract machine is sound: what it computes, the model's run gives, in every world and on every tape.
-/
namespace Go.Abs
set_option linter.unusedSimpArgs false
set_option linter.unusedVariables false

theorem look_go : ∀ {l : List Nat} {t i k : Nat}, look.go l t k = some i → k ≤ i ∧ l[i - k]? = some t
  | [], t, i, k, h => by simp [look.go] at h
  | x :: l, t, i, k, h => by
    simp only [look.go] at h
    split at h
    · rename_i e; obtain rfl := Option.some.inj h; subst e; simp
    · obtain ⟨h1, h2⟩ := look_go h
      refine ⟨by omega, ?_⟩
      rw [show i - k = (i - (k + 1)) + 1 by omega, List.getElem?_cons_succ]; exact h2

theorem look_some {l : List Nat} {t i : Nat} (h : look l t = some i) : l[i]? = some t := by
  have := look_go h; simpa using this.2

theorem look_go_none : ∀ {l : List Nat} {t k : Nat}, look.go l t k = none → t ∉ l
  | [], t, k, _ => by simp
  | x :: l, t, k, h => by
    simp only [look.go] at h
    split at h
    · simp at h
    · rename_i e
      have := look_go_none h
      simp only [List.mem_cons, not_or]; exact ⟨fun q => e q.symm, this⟩

theorem lookT_go : ∀ {l : List Oper} {k t j i : Nat} {r : Option Nat}, lookT.go k t l i r = some j → (r = some j) ∨ (i ≤ j ∧ j < k ∧ ∃ o, l[j - i]? = some o ∧ o.dst = some t)
  | [], k, t, j, i, r, h => by simp [lookT.go] at h; exact .inl h
  | o :: l, k, t, j, i, r, h => by
    simp only [lookT.go] at h
    split at h
    · rename_i hik
      rcases lookT_go h with h' | ⟨h1, h2, o', h3, h4⟩
      · split at h'
        · rename_i hd
          obtain rfl := Option.some.inj h'
          exact .inr ⟨Nat.le_refl _, hik, o, by simp, hd⟩
        · exact .inl h'
      · refine .inr ⟨by omega, h2, o', ?_, h4⟩
        rw [show j - i = (j - (i + 1)) + 1 by omega, List.getElem?_cons_succ]; exact h3
    · exact .inl h

theorem lookT_some {ops : List Oper} {k t j : Nat} (h : lookT ops k t = some j) : j < k ∧ ∃ o, ops[j]? = some o ∧ o.dst = some t := by
  rcases lookT_go h with h' | ⟨_, h2, o, h3, h4⟩
  · simp at h'
  · exact ⟨h2, o, by simpa using h3, h4⟩

/-! ### frames -/

structure FRel (w : World) (G : Ghost) (tmps : Array Value) (slots : List Nat) (vs : List AVal) : Prop where
  len : vs.length = slots.length
  rel : ∀ (i s : Nat) (x : AVal), slots[i]? = some s → vs[i]? = some x → VRel w G (tmps.getD s undef) x

structure TRel (w : World) (G : Ghost) (tmps : Array Value) (slots : List Nat) (ops : List Oper) (ts : List AVal) : Prop where
  len : ts.length = ops.length
  rel : ∀ (k t : Nat) (o : Oper) (x : AVal), ops[k]? = some o → o.dst = some t → look slots t = none → ts[k]? = some x → VRel w G (tmps.getD t undef) x

theorem FRel.mono {w G h w' G' h'} (x : Ext w G h w' G' h') {tmps : Array Value} {slots : List Nat} {vs : List AVal} (r : FRel w G tmps slots vs) : FRel w' G' tmps slots vs := ⟨r.len, fun i s y h1 h2 => (r.rel i s y h1 h2).mono x⟩
theorem TRel.mono {w G h w' G' h'} (x : Ext w G h w' G' h') {tmps : Array Value} {slots : List Nat} {ops : List Oper} {ts : List AVal} (r : TRel w G tmps slots ops ts) : TRel w' G' tmps slots ops ts := ⟨r.len, fun i s o y h1 h2 h3 h4 => (r.rel i s o y h1 h2 h3 h4).mono x⟩

theorem operand_ok {w : World} {G : Ghost} {a : Act} {slots : List Nat} {ops : List Oper} {k : Nat} {vs ts : List AVal} (F : FRel w G a.tmps slots vs) (T : TRel w G a.tmps slots ops ts) : Ops a w G (compOpd slots ops k) (evOpd vs ts) := by
  intro x y e
  cases x with
  | tmp t =>
    simp only [compOpd] at e
    split at e
    · rename_i i hi
      obtain rfl := Option.some.inj e
      have hs := look_some hi
      obtain ⟨v, hv⟩ : ∃ v, vs[i]? = some v := ⟨_, List.getElem?_eq_getElem (by rw [F.len]; exact (List.getElem?_eq_some_iff.1 hs).1)⟩
      simp only [evOpd, hv, Option.getD_some]
      exact F.rel i t v hs hv
    · rename_i hn
      simp only [Option.map_eq_some_iff] at e
      obtain ⟨j, hj, rfl⟩ := e
      obtain ⟨_, o, ho, hd⟩ := lookT_some hj
      obtain ⟨v, hv⟩ : ∃ v, ts[j]? = some v := ⟨_, List.getElem?_eq_getElem (by rw [T.len]; exact (List.getElem?_eq_some_iff.1 ho).1)⟩
      simp only [evOpd, hv, Option.getD_some]
      exact T.rel j t o v ho hd hn hv
  | const v =>
    simp only [compOpd, Option.map_eq_some_iff] at e
    obtain ⟨z, hz, rfl⟩ := e
    exact constA_ok hz
  | func f =>
    simp only [compOpd, Option.some.injEq] at e
    subst e
    exact .fn f #[] [] rfl (by simp)
  | global g => simp [compOpd] at e

theorem fm_inj {α β : Type} {f : α → Option β} : ∀ {l : List α}, (l.filterMap f).Nodup → ∀ (i j : Nat) (x y : α) (b : β), l[i]? = some x → l[j]? = some y → f x = some b → f y = some b → i = j
  | [], _, i, j, x, y, b, hi, _, _, _ => by simp at hi
  | z :: l, hn, i, j, x, y, b, hi, hj, hx, hy => by
    cases i with
    | zero =>
      cases j with
      | zero => rfl
      | succ j =>
        simp at hi; subst hi
        simp only [List.filterMap_cons, hx, List.nodup_cons] at hn
        exact absurd (List.mem_filterMap.2 ⟨y, List.mem_of_getElem? (by simpa using hj), hy⟩) hn.1
    | succ i =>
      have hn' : (l.filterMap f).Nodup := by
        simp only [List.filterMap_cons] at hn
        split at hn
        · exact hn
        · exact (List.nodup_cons.1 hn).2
      cases j with
      | zero =>
        simp at hj; subst hj
        simp only [List.filterMap_cons, hy, List.nodup_cons] at hn
        exact absurd (List.mem_filterMap.2 ⟨x, List.mem_of_getElem? (by simpa using hi), hx⟩) hn.1
      | succ j => rw [fm_inj hn' i j x y b (by simpa using hi) (by simpa using hj) hx hy]

/-- The state of a region. -/
structure SRel (w : World) (G : Ghost) (a : Act) (nt : Nat) (slots : List Nat) (ops : List Oper) (s : St) : Prop where
  H : HRel w G s.h
  F : FRel w G a.tmps slots s.vs
  T : TRel w G a.tmps slots ops s.ts
  size : nt ≤ a.tmps.size

theorem getD_set {tmps : Array Value} {d t : Nat} {v : Value} (h : d < tmps.size) : (tmps.setIfInBounds d v).getD t undef = if d = t then v else tmps.getD t undef := by
  rw [Array.getD_eq_getD_getElem?, Array.getElem?_setIfInBounds, Array.getD_eq_getD_getElem?]
  split
  · rename_i e; subst e; simp [h]
  · rfl

theorem put_rel {w w' : World} {G G' : Ghost} {a : Act} {nt : Nat} {slots : List Nat} {ops : List Oper} {s : St} {h' : Heap} {k : Nat} {o : Oper} {v : Value} {r : AVal} (hnd : slots.Nodup) (hd : dstsOk nt slots ops = true) (ho : ops[k]? = some o)
    (S : SRel w G a nt slots ops s) (x : Ext w G s.h w' G' h') (H' : HRel w' G' h') (hv : VRel w' G' v r) : SRel w' G' (a.put o.dst v) nt slots ops (s.put k (compDst slots o.dst) r h') := by
  simp only [dstsOk, Bool.and_eq_true, List.all_eq_true, decide_eq_true_eq] at hd
  obtain ⟨hd1, hd2⟩ := hd
  have F' := S.F.mono x
  have T' := S.T.mono x
  cases hdst : o.dst with
  | none =>
    simp only [Act.put, compDst, St.put]
    exact ⟨H', F', T', S.size⟩
  | some t =>
    have hlt : t < nt := by have := hd1 o (List.mem_of_getElem? ho); rw [hdst] at this; simpa using this
    have hltS : t < a.tmps.size := Nat.lt_of_lt_of_le hlt S.size
    simp only [Act.put, compDst]
    cases hlk : look slots t with
    | some i =>
      have hs := look_some hlk
      simp only [St.put]
      refine ⟨H', ⟨by simp [F'.len], fun j s' y h1 h2 => ?_⟩, ⟨T'.len, fun j t' o' y h1 h2 h3 h4 => ?_⟩, by simp [S.size]⟩
      · rw [getD_set hltS]
        rw [List.getElem?_set] at h2
        by_cases hji : i = j
        · subst hji
          rw [hs] at h1; obtain rfl := Option.some.inj h1
          split at h2
          · split at h2
            · obtain rfl := Option.some.inj h2
              simpa using hv
            · simp at h2
          · rename_i hc; exact absurd rfl hc
        · rw [if_neg hji] at h2
          have hne : t ≠ s' := fun e => by
            subst e
            have h1' := (List.getElem?_eq_some_iff.1 hs)
            have h2' := (List.getElem?_eq_some_iff.1 h1)
            exact hji ((List.getElem_inj hnd).1 (h1'.2.trans h2'.2.symm))
          rw [if_neg hne]
          exact F'.rel j s' y h1 h2
      · rw [getD_set hltS]
        have hne : t ≠ t' := fun e => by subst e; rw [hlk] at h3; simp at h3
        rw [if_neg hne]
        exact T'.rel j t' o' y h1 h2 h3 h4
    | none =>
      simp only [St.put]
      refine ⟨H', ⟨F'.len, fun j s' y h1 h2 => ?_⟩, ⟨by simp [T'.len], fun j t' o' y h1 h2 h3 h4 => ?_⟩, by simp [S.size]⟩
      · rw [getD_set hltS]
        have hne : t ≠ s' := fun e => by
          subst e
          exact look_go_none hlk (List.mem_of_getElem? h1)
        rw [if_neg hne]
        exact F'.rel j s' y h1 h2
      · rw [getD_set hltS]
        rw [List.getElem?_set] at h4
        by_cases hjk : k = j
        · subst hjk
          rw [ho] at h1; obtain rfl := Option.some.inj h1
          rw [hdst] at h2; obtain rfl := Option.some.inj h2
          split at h4
          · split at h4
            · obtain rfl := Option.some.inj h4
              simpa using hv
            · simp at h4
          · rename_i hc; exact absurd rfl hc
        · rw [if_neg hjk] at h4
          have hne : t ≠ t' := fun e => by
            subst e
            exact hjk (fm_inj hd2 k j o o' t ho h1 (by simp [hdst, hlk]) (by simp [h2, hlk]))
          rw [if_neg hne]
          exact T'.rel j t' o' y h1 h2 h3 h4

/-! ### calls -/

/-- What a call of the model does, told by the abstract machine. -/
def CallRel (P : Program) (f : Nat) (args : List AVal) (h : Heap) (r : AVal) (h' : Heap) : Prop :=
  ∀ (w : World) (G : Ghost) (cargs : Array Value), HRel w G h → Pts w G cargs args → Calls P f cargs w (fun e w' => ∃ v G', e = .returned v ∧ Ext w G h w' G' h' ∧ HRel w' G' h' ∧ VRel w' G' v r)

variable {P : Program} {Hh : Hints} {F : Nat → Option AEnt}

/-- What is given by hand tells of the model's function. -/
def HandOk (P : Program) (g : Nat) (s : List AVal → Heap → Option (AVal × Heap)) : Prop :=
  (∀ args h r h', s args h = some (r, h') → CallRel P g args h r h') ∧ ∀ (args : Array Value) (w : World), (callFunc g args).run P w = .ok (.enter g args) w

/-- The table of functions is what the translation gives, or what is proved. -/
def EntOk (P : Program) (Hh : Hints) (g : Nat) : Option AEnt → Prop
  | none => True
  | some (.comp af) => compFunc P Hh g = some af
  | some (.hand s) => HandOk P g s

def Table (P : Program) (Hh : Hints) (F : Nat → Option AEnt) : Prop := ∀ g, EntOk P Hh g (F g)

theorem Table.comp (hT : Table P Hh F) {g : Nat} {af : AFunc} (h : F g = some (.comp af)) : compFunc P Hh g = some af := by have := hT g; rw [h] at this; exact this
theorem Table.hand (hT : Table P Hh F) {g : Nat} {s} (h : F g = some (.hand s)) : HandOk P g s := by have := hT g; rw [h] at this; exact this

theorem compFunc_some {g : Nat} {af : AFunc} (h : compFunc P Hh g = some af) : ∃ fn c rs, P.funcs[g]? = some fn ∧ fn.body = some c ∧ (fn.name == "runtime.NumGoroutine") = false ∧ resTmps fn.results.toList = some rs ∧ optL (look af.slots) rs = some af.results ∧
    af.slots.Nodup ∧ (∀ s ∈ af.slots, s < fn.ntmps) ∧ af.body = compCode P Hh g fn.ntmps af.slots c := by
  unfold compFunc at h
  split at h
  · simp at h
  · rename_i fn hf
    split at h
    · rename_i c rs hb hr
      simp only at h
      split at h
      · rename_i ris hi
        split at h
        · rename_i hcond
          simp only [Bool.and_eq_true, Bool.not_eq_true', decide_eq_true_eq, List.all_eq_true] at hcond
          obtain rfl := Option.some.inj h
          exact ⟨fn, c, rs, hf, hb, hcond.1.1, hr, hi, hcond.1.2, hcond.2, rfl⟩
        · simp at h
      · simp at h
    · simp at h

theorem callFunc_enter {g : Nat} {af : AFunc} (h : compFunc P Hh g = some af) (args : Array Value) (w : World) : (callFunc g args).run P w = .ok (.enter g args) w := by
  obtain ⟨fn, c, rs, hf, hb, hn, _⟩ := compFunc_some h
  have hn' : fn.name ≠ "runtime.NumGoroutine" := by simpa using hn
  simp [callFunc, hf, hb, hn']

theorem scal_to {w : World} {G G2 : Ghost} {v : Value} {x : AVal} (r : VRel w G v x) : scal x = true → VRel w G2 v x := by
  have key : ∀ {asx : List AVal}, scalL asx = true → ∀ (k : Nat) (a : AVal), asx[k]? = some a → scal a = true := by
    intro asx
    induction asx with
    | nil => intro _ k a h; simp at h
    | cons x xs ih =>
      intro h k a hk
      simp only [scalL, Bool.and_eq_true] at h
      cases k with
      | zero => simp at hk; subst hk; exact h.1
      | succ k => exact ih h.2 k a (by simpa using hk)
  induction r with
  | bool b => intro _; exact .bool b
  | int k n => intro _; exact .int k n
  | str s => intro _; exact .str s
  | nilptr => intro _; exact .nilptr
  | ptr => intro h; simp [scal] at h
  | rp => intro h; simp [scal] at h
  | nilsl t ht => intro _; exact .nilsl t ht
  | sl b off cap sz xs t u h0 h1 h2 h3 h4 h5 hc hn ho ih => intro h; simp [scal] at h; exact absurd h.2 hn
  | ref => intro h; simp [scal] at h
  | ref0 => intro h; simp [scal] at h
  | fn => intro h; simp [scal] at h
  | nilfn => intro _; exact .nilfn
  | nilif => intro _; exact .nilif
  | agg cs asx hl _ h4 ih => intro h; simp only [scal] at h; exact .agg cs asx hl (fun k c a hc ha => ih k c a hc ha (key h k a ha)) h4
  | tup cs asx hl _ ih => intro h; simp only [scal] at h; exact .tup cs asx hl (fun k c a hc ha => ih k c a hc ha (key h k a ha))
  | bad v => intro h; simp [scal] at h

mutual
theorem refs_live (h : Heap) : ∀ (x : AVal) {y : AVal}, purify h x = some y → ∀ id ∈ refIds x, ∃ o, h.get id = some o
  | .bool _, _, _, id, hid => by simp [refIds] at hid
  | .int _ _, _, _, id, hid => by simp [refIds] at hid
  | .str _, _, _, id, hid => by simp [refIds] at hid
  | .sl _ _, _, _, id, hid => by simp [refIds] at hid
  | .nilptr, _, _, id, hid => by simp [refIds] at hid
  | .ptr _ _, _, _, id, hid => by simp [refIds] at hid
  | .rp _, _, _, id, hid => by simp [refIds] at hid
  | .ref j off len sz, y, e, id, hid => by
    simp only [refIds, List.mem_singleton] at hid
    subst hid
    simp only [purify, Option.map_eq_some_iff] at e
    obtain ⟨xs, hx, _⟩ := e
    unfold readRef at hx
    split at hx
    · rename_i hg; exact ⟨_, hg⟩
    · simp at hx
  | .fn f cap, y, e, id, hid => by
    simp only [purify, Option.map_eq_some_iff] at e
    obtain ⟨c, hc, _⟩ := e
    exact refsL_live h cap hc id (by simpa [refIds] using hid)
  | .nilfn, _, _, id, hid => by simp [refIds] at hid
  | .nilif, _, _, id, hid => by simp [refIds] at hid
  | .agg cs, y, e, id, hid => by
    simp only [purify, Option.map_eq_some_iff] at e
    obtain ⟨c, hc, _⟩ := e
    exact refsL_live h cs hc id (by simpa [refIds] using hid)
  | .tup cs, y, e, id, hid => by
    simp only [purify, Option.map_eq_some_iff] at e
    obtain ⟨c, hc, _⟩ := e
    exact refsL_live h cs hc id (by simpa [refIds] using hid)
  | .bad, _, _, id, hid => by simp [refIds] at hid
theorem refsL_live (h : Heap) : ∀ (xs : List AVal) {ys : List AVal}, purifyL h xs = some ys → ∀ id ∈ refIdsL xs, ∃ o, h.get id = some o
  | [], _, _, id, hid => by simp [refIdsL] at hid
  | x :: xs, ys, e, id, hid => by
    simp only [purifyL] at e
    split at e
    · rename_i y ys' h1 h2
      simp only [refIdsL, List.mem_append] at hid
      exact hid.elim (refs_live h x h1 id) (refsL_live h xs h2 id)
    · simp at e
end

/-- A call on a heap of its own, seen from the caller. -/
theorem iso_call {g : Nat} {asx as0 : List AVal} {r r' : AVal} {h0 h : Heap} {w : World} {G : Ghost} {cargs : Array Value} (C : CallRel P g asx Heap.empty r h0) (H : HRel w G h) (hp : Pts w G cargs as0)
    (hcase : (stripL as0 = some asx ∧ purify h0 r = some r') ∨ (purifyL h as0 = some asx ∧ scal r = true ∧ r' = r)) :
    Calls P g cargs w (fun e w' => ∃ v G', e = .returned v ∧ Ext w G h w' G' h ∧ HRel w' G' h ∧ VRel w' G' v r') := by
  have hempty : ∀ id o, Heap.empty.get id = some o → False := fun id o e => by rw [Heap.get_empty] at e; simp at e
  have hno : ∀ (G0 : Ghost) b, ¬ owned G0 Heap.empty b := fun G0 b ⟨id, o, e, _⟩ => hempty id o e
  have hH0 : ∀ G0 : Ghost, G0.n = 0 → HRel w G0 Heap.empty := fun G0 hn => ⟨hn, fun id o e => (hempty id o e).elim, fun id o e => (hempty id o e).elim, fun i j oi oj e => (hempty i oi e).elim⟩
  have out : ∀ {w' : World} {G0 G1 : Ghost}, Ext w G0 Heap.empty w' G1 h0 → ∃ G' : Ghost, G' = { G with lim := fun b => if b < w.heap.size then G.lim b else none } ∧ Ext w G h w' G' h ∧ HRel w' G' h := by
    intro w' G0 G1 hX
    have hkeep : ∀ b, b < w.heap.size → w'.heap[b]? = w.heap[b]? := fun b hb => (hX.keep b hb (hno G0 b)).1
    have hE : Ext w G h w' { G with lim := fun b => if b < w.heap.size then G.lim b else none } h := ⟨hX.os, hX.tape, hX.out, hX.size, fun b hb _ => ⟨hkeep b hb, by simp [hb]⟩, fun b k hb hst => ⟨by simp [World.cell?, hkeep b hb], fun m hm => by simp [hb] at hm; exact hst m hm⟩, fun b hb => by simp [World.shape?, hkeep b hb], Nat.le_refl _, fun _ _ => ⟨rfl, rfl⟩, fun b hb ho => ho⟩
    exact ⟨_, rfl, hE, ⟨H.n_eq, fun id o e => Nat.lt_of_lt_of_le (H.lt id o e) hX.size, fun id o e => OkObj.mono hE (by rw [H.n_eq]; exact Heap.get_lt e) (H.lt id o e) (hkeep _ (H.lt id o e)) (by simp [H.lt id o e]) (H.obj id o e), H.inj⟩⟩
  rcases hcase with ⟨hs, hpur⟩ | ⟨hs, hsc, rfl⟩
  · have hk := stripL_ok hs
    have hp0 : Pts w { G with n := 0 } cargs asx := ⟨by rw [hp.len, hk.1], fun k c a hc ha => by
      obtain ⟨x, hx, hx'⟩ := back_get hk ha
      exact VRel.strip_to (G := G) (G2 := { G with n := 0 }) (fun _ _ h => h) (hp.rel k c x hc hx) hx'⟩
    refine (C w { G with n := 0 } cargs (hH0 _ rfl) hp0).mono fun e w' ⟨v, G1, he, hX, H1, hv⟩ => ?_
    obtain ⟨G', hG', hE, hH⟩ := out hX
    refine ⟨v, G', he, hE, hH, hv.purify_to H1 (fun b k hst => ?_) (fun id hid k => ?_) hpur⟩
    · subst hG'
      by_cases hb : b < w.heap.size
      · have hl := (hX.keep b hb (hno _ b)).2
        intro m hm
        simp [hb] at hm
        exact hst m (by rw [hl]; exact hm)
      · intro m hm; simp [hb] at hm
    · subst hG'
      by_cases hb : G1.loc id < w.heap.size
      · obtain ⟨o, ho⟩ := refs_live h0 r hpur id hid
        exact absurd (hX.fresh _ hb ⟨id, o, ho, rfl⟩) (hno _ _)
      · intro m hm; simp [hb] at hm
  · have hk := purifyL_ok hs
    have hp0 : Pts w { G with n := 0, lim := fun _ => none } cargs asx := ⟨by rw [hp.len, hk.1], fun k c a hc ha => by
      obtain ⟨x, hx, hx'⟩ := back_get hk ha
      exact VRel.purify_to (G := G) (G2 := { G with n := 0, lim := fun _ => none }) H (fun _ _ _ m hm => by simp at hm) (hp.rel k c x hc hx) (fun _ _ _ m hm => by simp at hm) hx'⟩
    refine (C w _ cargs (hH0 _ rfl) hp0).mono fun e w' ⟨v, G1, he, hX, H1, hv⟩ => ?_
    obtain ⟨G', hG', hE, hH⟩ := out hX
    exact ⟨v, G', he, hE, hH, scal_to hv hsc⟩

/-- The translation's operations, place by place. -/
theorem compOpers_get {slots : List Nat} {ops : List Oper} {fid : Nat} : ∀ {l : List Oper} {k : Nat} {asx : List AOper}, compOpers P Hh fid slots ops l k = some asx → asx.length = l.length ∧ ∀ j o, l[j]? = some o → ∃ a, asx[j]? = some a ∧ compOper P Hh fid slots ops (k + j) o = some a
  | [], k, asx, h => by simp [compOpers] at h; subst h; simp
  | o :: l, k, asx, h => by
    simp only [compOpers] at h
    split at h
    · rename_i a as' h1 h2
      obtain rfl := Option.some.inj h
      obtain ⟨e1, e2⟩ := compOpers_get h2
      refine ⟨by simp [e1], fun j o' hj => ?_⟩
      cases j with
      | zero => simp at hj; subst hj; exact ⟨a, by simp, by simpa using h1⟩
      | succ j =>
        obtain ⟨a', q1, q2⟩ := e2 j o' (by simpa using hj)
        exact ⟨a', by simpa using q1, by rw [show k + (j + 1) = k + 1 + j by omega]; exact q2⟩
    · simp at h

/-- The function that runs the calls of a region is sound. -/
def CfOk (P : Program) (Hh : Hints) (cf : CallF) : Prop := ∀ g args h r h', cf g args h = some (r, h') → CallRel P g args h r h' ∧ ∀ (cargs : Array Value) (w : World), (callFunc g cargs).run P w = .ok (.enter g cargs) w

theorem pts_append {w : World} {G : Ghost} {a b : Array Value} {x y : List AVal} (h1 : Pts w G a x) (h2 : Pts w G b y) : Pts w G (a ++ b) (x ++ y) := by
  refine ⟨by simp [h1.len, h2.len], fun k c z hc hz => ?_⟩
  by_cases hk : k < a.size
  · rw [Array.getElem?_append_left hk] at hc
    rw [List.getElem?_append_left (by rw [← h1.len]; exact hk)] at hz
    exact h1.rel k c z hc hz
  · rw [Array.getElem?_append_right (by omega)] at hc
    rw [List.getElem?_append_right (by rw [← h1.len]; omega), ← h1.len] at hz
    exact h2.rel _ c z hc hz

/-- One step of a region. -/
theorem step_ok {cf : CallF} (hcf : CfOk P Hh cf) {fid nt : Nat} {slots : List Nat} {ops : Array Oper} {k : Nat} {o : Oper} {ao : AOper} (hnd : slots.Nodup) (hd : dstsOk nt slots ops.toList = true) (ho : ops[k]? = some o) (hcomp : compOper P Hh fid slots ops.toList k o = some ao)
    {a : Act} {w : World} {G : Ghost} {s s' : St} (S : SRel w G a nt slots ops.toList s) (e : stepA cf ao k s = some s') {next : Act → World → Prop} {Q : Exit → Act → World → Prop}
    (hK : ∀ a' w' G', Ext w G s.h w' G' s'.h → SRel w' G' a' nt slots ops.toList s' → a'.defers = a.defers → next a' w') :
    if Region.wanted o (yielded ops a.tmps) then o.wp P a w next Q ∨ (o.asks P a w ∧ LetsOut Q) else next (a.put o.dst undef) w := by
  have hops : Ops a w G (compOpd slots ops.toList k) (evOpd s.vs s.ts) := operand_ok S.F S.T
  have hol : ops.toList[k]? = some o := by simpa using ho
  unfold compOper at hcomp
  split at hcomp
  · rename_i aop g hop hg
    obtain rfl := Option.some.inj hcomp
    -- the guard
    have hwant : ∀ b, wantA (evOpd s.vs s.ts) g = some b → Region.wanted o (yielded ops a.tmps) = b := by
      intro b hb
      cases hgd : o.guard with
      | none =>
        rw [hgd] at hg
        simp [compGuard] at hg; subst hg
        simp [wantA] at hb; subst hb
        simp [Region.wanted, hgd]
      | some p =>
        obtain ⟨j, want⟩ := p
        rw [hgd] at hg
        simp only [compGuard] at hg
        split at hg
        · rename_i oj hoj
          split at hg
          · rename_i t ht
            split at hg
            · rename_i hjk
              have hoj' : ops[j]? = some oj := by simpa using hoj
              have hlt : t < a.tmps.size := by
                simp only [dstsOk, Bool.and_eq_true, List.all_eq_true] at hd
                have := hd.1 oj (List.mem_of_getElem? hoj)
                rw [ht] at this; exact Nat.lt_of_lt_of_le (by simpa using this) S.size
              have hy : yielded ops a.tmps j = match (a.tmps.getD t undef) with | .bool b => some b | _ => none := by
                simp only [yielded, hoj', Option.bind_some, ht]
                rw [Array.getD_eq_getD_getElem?, Array.getElem?_eq_getElem hlt]
                simp only [Option.getD_some]
                cases a.tmps[t] <;> rfl
              have hval : ∃ x, g = some (x, want) ∧ VRel w G (a.tmps.getD t undef) (evOpd s.vs s.ts x) := by
                split at hg
                · rename_i i hi
                  simp at hg; subst hg
                  refine ⟨.v i, rfl, ?_⟩
                  have hs := look_some hi
                  obtain ⟨v, hv⟩ : ∃ v, s.vs[i]? = some v := ⟨_, List.getElem?_eq_getElem (by rw [S.F.len]; exact (List.getElem?_eq_some_iff.1 hs).1)⟩
                  simp only [evOpd, hv, Option.getD_some]
                  exact S.F.rel i t v hs hv
                · rename_i hn
                  simp at hg; subst hg
                  refine ⟨.t j, rfl, ?_⟩
                  obtain ⟨v, hv⟩ : ∃ v, s.ts[j]? = some v := ⟨_, List.getElem?_eq_getElem (by rw [S.T.len]; exact (List.getElem?_eq_some_iff.1 hoj).1)⟩
                  simp only [evOpd, hv, Option.getD_some]
                  exact S.T.rel j t oj v hoj ht hn hv
              obtain ⟨x, rfl, hx⟩ := hval
              simp only [wantA] at hb
              simp only [Region.wanted, hgd, hy]
              split at hb
              · rename_i c hc
                rw [hc] at hx
                obtain rfl := Option.some.inj hb
                generalize a.tmps.getD t undef = vv at hx
                cases hx
                simp
              · rename_i hc
                rw [hc] at hx
                obtain rfl := Option.some.inj hb
                generalize a.tmps.getD t undef = vv at hx
                cases hx
                simp
              · simp at hb
            · simp at hg
          · simp at hg
        · simp at hg
    unfold stepA at e
    simp only at e
    split at e
    · simp at e
    · rename_i hw
      rw [hwant _ hw]
      obtain rfl := Option.some.inj e
      simp only [Bool.false_eq_true, if_false]
      exact hK _ w G (by cases compDst slots o.dst <;> exact Ext.refl _ _ _) (put_rel hnd hd hol S (Ext.refl _ _ _) S.H (.tup #[] [] rfl (by simp))) (by cases o.dst <;> rfl)
    · rename_i hw
      rw [hwant _ hw]
      simp only [if_true]
      left
      split at e
      · rename_i r h' hex
        obtain rfl := Option.some.inj e
        have fin : ∀ {v : Value} {w' : World} {G' : Ghost}, Ext w G s.h w' G' h' → HRel w' G' h' → VRel w' G' v r → next (a.put o.dst v) w' := fun hX hH hv =>
          hK _ _ _ (by cases compDst slots o.dst <;> exact hX) (put_rel hnd hd hol S hX hH hv) (by cases o.dst <;> rfl)
        cases hic : isCall aop with
        | false =>
          have hev : evalA aop (evOpd s.vs s.ts) s.h = some (r, h') := by
            cases aop <;> first
              | exact hex
              | (simp [isCall] at hic)
          obtain ⟨v, w', G', hr, hX, hH, hv⟩ := op_ok S.H hops hop hic hev
          unfold Oper.wp
          rcases hr with hr | ⟨hr, rfl⟩
          · rw [hr, Oper.upon_value]; exact fin hX hH hv
          · rw [hr, Oper.upon_skip]; exact fin hX hH hv
        | true =>
          obtain ⟨f, args, asx, ts, hcall, has, hkind⟩ := call_of_comp hop hic
          obtain ⟨p1, p2⟩ := opds_ok hops has
          have hpts : Pts w G (args.map a.eval) (asx.map (evOpd s.vs s.ts)) := ⟨by simpa using p1, fun k c x hc hx => p2 k c x (by simpa using hc) hx⟩
          have done : ∀ {g : Nat} {cargs : Array Value}, (execOp a.eval o).run P w = .ok (.enter g cargs) w → Calls P g cargs w (fun e w' => ∃ v G', e = .returned v ∧ Ext w G s.h w' G' h' ∧ HRel w' G' h' ∧ VRel w' G' v r) → o.wp P a w next Q := by
            intro g cargs hr hC
            unfold Oper.wp
            rw [hr, Oper.upon_enter]
            refine hC.mono fun e w' ⟨v, G', he, hX, hH, hv⟩ => ?_
            subst he
            exact fin hX hH hv
          rcases hkind with ⟨g, rfl, rfl⟩ | ⟨f', hf', rfl⟩
          · simp only [execA] at hex
            have hrun : ∀ {as' r0 h0}, cf g as' Heap.empty = some (r0, h0) → (execOp a.eval o).run P w = .ok (.enter g (args.map a.eval)) w := fun hc => by
              have := (hcf g _ _ _ _ hc).2 (args.map a.eval) w
              simp [execOp, hcall, resolve, Act.eval, Deferred.ofValue, invoke, this]
            split at hex
            · rename_i as' hs
              split at hex
              · rename_i r0 h0 hc
                simp only [Option.map_eq_some_iff, Prod.mk.injEq] at hex
                obtain ⟨x, hpur, rfl, rfl⟩ := hex
                exact done (hrun hc) (iso_call (hcf g _ _ _ _ hc).1 S.H hpts (.inl ⟨hs, hpur⟩))
              · simp at hex
            · split at hex
              · rename_i as' hs
                split at hex
                · rename_i r0 h0 hc
                  split at hex
                  · rename_i hsc
                    simp at hex; obtain ⟨rfl, rfl⟩ := hex
                    exact done (hrun hc) (iso_call (hcf g _ _ _ _ hc).1 S.H hpts (.inr ⟨hs, hsc, rfl⟩))
                  · simp at hex
                · simp at hex
              · simp at hex
          · simp only [execA] at hex
            split at hex
            · rename_i g cap hfn
              have hfv : VRel w G (a.eval f) (evOpd s.vs s.ts f') := by
                rcases hf' with hf' | ⟨g', rfl, rfl⟩
                · exact hops _ _ hf'
                · exact .fn g' #[] [] rfl (by simp)
              rw [hfn] at hfv
              generalize hfe : a.eval f = fv at hfv
              cases hfv with
              | fn _ cs _ hl hr =>
                have hrun := (hcf g _ _ _ _ hex).2 (args.map a.eval ++ cs) w
                refine done (g := g) (cargs := args.map a.eval ++ cs) ?_ ((hcf g _ _ _ _ hex).1 w G _ S.H (pts_append hpts ⟨hl, hr⟩))
                simp [execOp, hcall, resolve, hfe, Deferred.ofValue, invoke, hrun]
            · simp at hex
      · simp at e
  · simp at hcomp

/-- A list of steps. -/
theorem fold_ok {cf : CallF} (hcf : CfOk P Hh cf) {fid nt : Nat} {slots : List Nat} {ops : Array Oper} {asx : List AOper} (hnd : slots.Nodup) (hd : dstsOk nt slots ops.toList = true) (hcomp : compOpers P Hh fid slots ops.toList ops.toList 0 = some asx) {Q : Exit → Act → World → Prop} :
    ∀ (l : List Nat) {a : Act} {w : World} {G : Ghost} {s s' : St}, SRel w G a nt slots ops.toList s → foldI cf asx l s = some s' →
      (∀ a' w' G', Ext w G s.h w' G' s'.h → SRel w' G' a' nt slots ops.toList s' → a'.defers = a.defers → Q .normal a' w') → wpOps P ops Q l a w
  | [], a, w, G, s, s', S, e, hQ => by
    simp only [foldI, Option.some.injEq] at e; subst e
    exact hQ a w G (Ext.refl _ _ _) S rfl
  | k :: l, a, w, G, s, s', S, e, hQ => by
    simp only [foldI] at e
    split at e
    · rename_i ao hao
      split at e
      · rename_i s1 hs1
        obtain ⟨e1, e2⟩ := compOpers_get hcomp
        obtain ⟨o, ho⟩ : ∃ o, ops.toList[k]? = some o := ⟨_, List.getElem?_eq_getElem (by rw [← e1]; exact (List.getElem?_eq_some_iff.1 hao).1)⟩
        obtain ⟨ao', h1, h2⟩ := e2 k o ho
        rw [hao] at h1; obtain rfl := Option.some.inj h1
        rw [Nat.zero_add] at h2
        have ho' : ops[k]? = some o := by simpa using ho
        simp only [wpOps, ho']
        exact step_ok hcf hnd hd ho' h2 S hs1 fun a' w' G' hX S' hdf =>
          fold_ok hcf hnd hd hcomp l S' e fun a2 w2 G2 hX2 S2 hdf2 => hQ a2 w2 G2 (hX.trans hX2) S2 (hdf2.trans hdf)
      · simp at e
    · simp at e

/-! ### code and calls -/

def exitOf : AExit → Exit
  | .normal => .normal
  | .exit id => .exit id
  | .ret => .ret

/-- The state between regions. -/
structure CRel (w : World) (G : Ghost) (a : Act) (nt : Nat) (slots : List Nat) (vs : List AVal) (h : Heap) : Prop where
  H : HRel w G h
  F : FRel w G a.tmps slots vs
  size : nt ≤ a.tmps.size

theorem compCode_region {fid nt : Nat} {slots : List Nat} {id : Nat} {ops : Array Oper} {draw : Bool} {l : List AOper} (h : compCode P Hh fid nt slots (.region id ops draw) = .ops l) :
    compOpers P Hh fid slots ops.toList ops.toList 0 = some l ∧ dstsOk nt slots ops.toList = true ∧ (draw = true → drawOk ops.toList l = true) := by
  simp only [compCode] at h
  split at h
  · rename_i l' hl
    split at h
    · rename_i hc
      simp only [ACode.ops.injEq] at h
      subst h
      simp only [Bool.and_eq_true, Bool.or_eq_true, Bool.not_eq_true'] at hc
      exact ⟨hl, hc.1, fun hd => by rcases hc.2 with h | h; · rw [hd] at h; simp at h
                                    · exact h⟩
    · simp at h
  · simp at h

theorem results_ok {w : World} {G : Ghost} {slots : List Nat} {vs : List AVal} {tmps : Array Value} (Fr : FRel w G tmps slots vs) {fn : Func} {rs ris : List Nat} (h1 : resTmps fn.results.toList = some rs) (h2 : optL (look slots) rs = some ris) :
    ∃ v, (results fn tmps).run P w = .ok v w ∧ VRel w G v (resultsA ris vs) := by
  have key : ∀ {f : ResultVar → Sem Value}, (∀ t, f (.tmp t) = pure (tmps.getD t undef)) → ∀ {l : List ResultVar} {rs ris : List Nat}, resTmps l = some rs → optL (look slots) rs = some ris → ∃ vals : List Value, (l.mapM (m := Sem) f).run P w = .ok vals w ∧ vals.length = ris.length ∧ ∀ (k : Nat) (v : Value) (i : Nat), vals[k]? = some v → ris[k]? = some i → VRel w G v ((vs[i]?).getD .bad) := by
    intro f hf l
    induction l with
    | nil => intro rs ris h1 h2; simp [resTmps] at h1; subst h1; simp [optL] at h2; subst h2; exact ⟨[], by simp, rfl, by simp⟩
    | cons x l ih =>
      intro rs ris h1 h2
      cases x with
      | cell a t => simp [resTmps] at h1
      | tmp t =>
        simp only [resTmps, Option.map_eq_some_iff] at h1
        obtain ⟨rs', h1, rfl⟩ := h1
        simp only [optL] at h2
        split at h2
        · rename_i i is hi his
          obtain rfl := Option.some.inj h2
          obtain ⟨vals, q1, q2, q3⟩ := ih h1 his
          refine ⟨tmps.getD t undef :: vals, by simp [List.mapM_cons, hf, q1], by simp [q2], fun k v j hv hj => ?_⟩
          cases k with
          | zero =>
            simp at hv hj; subst hv; subst hj
            have hs := look_some hi
            obtain ⟨x, hx⟩ : ∃ x, vs[i]? = some x := ⟨_, List.getElem?_eq_getElem (by rw [Fr.len]; exact (List.getElem?_eq_some_iff.1 hs).1)⟩
            simp only [hx, Option.getD_some]
            have := Fr.rel i t x hs hx
            rwa [Array.getD_eq_getD_getElem?] at this
          | succ k => exact q3 k v j (by simpa using hv) (by simpa using hj)
        · simp at h2
  have hres : ∃ vals : List Value, (results fn tmps).run P w = .ok (if h : vals.toArray.size = 1 then vals.toArray[0] else .tuple vals.toArray) w ∧ vals.length = ris.length ∧ ∀ (k : Nat) (v : Value) (i : Nat), vals[k]? = some v → ris[k]? = some i → VRel w G v ((vs[i]?).getD .bad) := by
    unfold results
    simp only [Sem.run_bind]
    rw [Array.mapM_eq_mapM_toList]
    obtain ⟨vals, q1, q2, q3⟩ := key (f := fun x => match x with
      | .tmp t => pure (tmps.getD t undef)
      | .cell a t => do loadVar t (← asAddr (tmps.getD a undef))) (fun t => rfl) h1 h2
    refine ⟨vals, ?_, q2, q3⟩
    simp only [Sem.run_map]
    have q1' := q1
    erw [q1']
    simp only [Result.andThen_ok, Sem.run_pure]
  obtain ⟨vals, hrun, q2, q3⟩ := hres
  refine ⟨_, hrun, ?_⟩
  cases hr : ris with
  | nil =>
    rw [hr] at q2
    have : vals = [] := List.eq_nil_of_length_eq_zero q2
    subst this
    simp [resultsA]
    exact .tup #[] [] rfl (by simp)
  | cons i is =>
    cases his : is with
    | nil =>
      rw [hr, his] at q2 q3
      obtain ⟨v, rfl⟩ : ∃ v, vals = [v] := by
        match vals, q2 with
        | [v], _ => exact ⟨v, rfl⟩
      simp only [resultsA]
      simpa using q3 0 v i rfl rfl
    | cons j js =>
      rw [hr, his] at q2 q3
      have hne : ¬ (vals.toArray.size = 1) := by simp [q2]
      rw [dif_neg hne]
      simp only [resultsA]
      refine .tup _ _ (by simp [q2]) (fun k c x hc hx => ?_)
      simp only [List.getElem?_map, Option.map_eq_some_iff] at hx
      obtain ⟨i', hi', rfl⟩ := hx
      exact q3 k c i' (by simpa using hc) hi'

def CodeOk (P : Program) (Hh : Hints) (F : Nat → Option AEnt) (n : Nat) : Prop :=
  ∀ (fid nt : Nat) (slots : List Nat) (c : Code) (vs : List AVal) (h : Heap) (e : AExit) (vs' : List AVal) (h' : Heap) (a : Act) (w : World) (G : Ghost) (Q : Exit → Act → World → Prop), slots.Nodup →
    run F n (.code (compCode P Hh fid nt slots c) vs h) = some (.code e vs' h') → CRel w G a nt slots vs h →
    (∀ a' w' G', Ext w G h w' G' h' → CRel w' G' a' nt slots vs' h' → a'.defers = a.defers → Q (exitOf e) a' w') → c.wp P Q a w

def CallOk (P : Program) (F : Nat → Option AEnt) (n : Nat) : Prop := ∀ g args h r h', run F n (.call g args h) = some (.val r h') → CallRel P g args h r h'

theorem call_step (hT : Table P Hh F) {n : Nat} (ih : CodeOk P Hh F n) : CallOk P F (n + 1) := by
  intro g args h r h' e w G cargs H hp
  simp only [run] at e
  split at e
  · simp at e
  · rename_i s hs
    simp only [Option.map_eq_some_iff, Res.val.injEq] at e
    obtain ⟨p, hp', rfl, rfl⟩ := e
    exact (hT.hand hs).1 args h p.1 p.2 hp' w G cargs H hp
  · rename_i af haf
    obtain ⟨fn, c, rs, hf, hb, hn, hres, hris, hnd, hlt, hbody⟩ := compFunc_some (hT.comp haf)
    rw [hbody] at e
    refine calls_of_wp hf hb ?_
    have hget : ∀ s, (cargs ++ Array.replicate (fn.ntmps - cargs.size) undef).getD s undef = (cargs[s]?).getD undef := by
      intro s
      rw [Array.getD_eq_getD_getElem?]
      by_cases hs : s < cargs.size
      · rw [Array.getElem?_append_left hs]
      · rw [Array.getElem?_append_right (by omega : cargs.size ≤ s), Array.getElem?_replicate, Array.getElem?_eq_none (by omega : cargs.size ≤ s)]
        split <;> rfl
    have S0 : CRel w G { tmps := cargs ++ Array.replicate (fn.ntmps - cargs.size) undef, defers := [] } fn.ntmps af.slots (af.slots.map fun s => (args[s]?).getD (.tup [])) h := by
      refine ⟨H, ⟨by simp, fun i s x h1 h2 => ?_⟩, by simp; omega⟩
      simp only [List.getElem?_map, h1, Option.map_some, Option.some.injEq] at h2
      subst h2
      rw [hget]
      by_cases hs : s < cargs.size
      · obtain ⟨x, hx⟩ : ∃ x, args[s]? = some x := ⟨_, List.getElem?_eq_getElem (by rw [← hp.len]; exact hs)⟩
        rw [hx, Array.getElem?_eq_getElem hs]
        exact hp.rel s _ x (Array.getElem?_eq_getElem hs) hx
      · rw [Array.getElem?_eq_none (by omega), List.getElem?_eq_none (by rw [← hp.len]; omega)]
        exact .tup #[] [] rfl (by simp)
    have fin : ∀ {vs : List AVal} {a' : Act} {w' : World} {G' : Ghost}, Ext w G h w' G' h' → CRel w' G' a' fn.ntmps af.slots vs h' → a'.defers = [] → r = resultsA af.results vs →
        a'.defers = [] ∧ ∃ v, (results fn a'.tmps).run P w' = .ok v w' ∧ (∃ v0 G', Ending.returned v = .returned v0 ∧ Ext w G h w' G' h' ∧ HRel w' G' h' ∧ VRel w' G' v0 r) := by
      intro vs a' w' G' hX hS hd hr
      obtain ⟨v, h1, h2⟩ := results_ok (P := P) hS.F hres hris
      exact ⟨hd, v, h1, v, G', rfl, hX, hS.H, by rw [hr]; exact h2⟩
    split at e
    · rename_i vs h1 hrun
      simp only [Option.some.injEq, Res.val.injEq] at e
      obtain ⟨rfl, rfl⟩ := e
      exact ih g fn.ntmps af.slots c _ h .normal vs h1 _ w G _ hnd hrun S0 (fun a' w' G' hX hS hd => fin hX hS hd rfl)
    · rename_i vs h1 hrun
      simp only [Option.some.injEq, Res.val.injEq] at e
      obtain ⟨rfl, rfl⟩ := e
      exact ih g fn.ntmps af.slots c _ h .ret vs h1 _ w G _ hnd hrun S0 (fun a' w' G' hX hS hd => fin hX hS hd rfl)
    · simp at e

theorem wp_loop_ind {c : Code} {Q : Exit → Act → World → Prop} {a : Act} {w : World} (J : Nat → Act → World → Prop) {m : Nat} (h0 : J m a w)
    (round : ∀ m a w, J m a w → c.wp P (Exit.then (fun a' w' => ∃ m', m' < m ∧ J m' a' w') Q) a w) : (Code.loop c).wp P Q a w := by
  intro b k cs
  have key : ∀ m a w, J m a w → ∃ e a' w', Q e a' w' ∧ Arrives P (lone (b.at a (.code c :: .inLoop c :: k)) cs w) b k cs e a' w' := by
    intro m
    induction m using Nat.strongRecOn with
    | _ m ih =>
      intro a w hJ
      obtain ⟨e, a1, w1, hq, harr⟩ := round m a w hJ b (.inLoop c :: k) cs
      cases e with
      | normal =>
        obtain ⟨m', hlt, hJ'⟩ := hq
        obtain ⟨e2, a2, w2, hq2, harr2⟩ := ih m' hlt a1 w1 hJ'
        exact ⟨e2, a2, w2, hq2, .of_steps (Steps.trans harr (.one step_inLoop)) harr2⟩
      | exit id => exact ⟨_, a1, w1, hq, .pass (x := .inLoop c) rfl (fun _ _ => .inl (by simp)) harr⟩
      | goto l => exact ⟨_, a1, w1, hq, .pass (x := .inLoop c) rfl (fun _ _ => .inl (by simp)) harr⟩
      | ret => exact ⟨_, a1, w1, hq, .pass (x := .inLoop c) rfl (fun _ _ => .inl (by simp)) harr⟩
      | panic ch => exact ⟨_, a1, w1, hq, .pass (x := .inLoop c) rfl (fun _ _ => .inl (by simp)) harr⟩
      | outgrown => exact ⟨_, a1, w1, hq, .pass (x := .inLoop c) rfl (fun _ _ => .inl (by simp)) harr⟩
  obtain ⟨e, a', w', hq, harr⟩ := key m a w h0
  exact ⟨e, a', w', hq, .of_steps (.one step_loop) harr⟩

theorem CRel.mono_refl {w : World} {G : Ghost} {a : Act} {nt : Nat} {slots : List Nat} {vs : List AVal} {h : Heap} (S : CRel w G a nt slots vs h) : CRel w.drew G a nt slots vs h :=
  ⟨HRel.of_heap (w := w) ⟨rfl, rfl, rfl, rfl⟩ S.H, S.F.mono (Ext.of_heap (w := w) (w' := w.drew) (h := h) ⟨rfl, rfl, rfl, rfl⟩), S.size⟩

theorem region_ok (hmix : P.follows .mixedOrders = true) {cf : CallF} (hcf : CfOk P Hh cf) {fid nt : Nat} {slots : List Nat} (hnd : slots.Nodup) {id : Nat} {ops : Array Oper} {draw : Bool} {l : List AOper} (hc : compCode P Hh fid nt slots (.region id ops draw) = .ops l)
    {vs : List AVal} {h : Heap} {s' : St} {a : Act} {w : World} {G : Ghost} {Q : Exit → Act → World → Prop} (S : CRel w G a nt slots vs h) (e : foldA cf l 0 ⟨vs, List.replicate l.length .bad, h⟩ = some s')
    (hQ : ∀ a' w' G', Ext w G h w' G' s'.h → CRel w' G' a' nt slots s'.vs s'.h → a'.defers = a.defers → Q .normal a' w') : (Code.region id ops draw).wp P Q a w := by
  obtain ⟨c1, c2, c3⟩ := compCode_region hc
  have hl : l.length = ops.size := by have := (compOpers_get c1).1; simpa using this
  rw [foldA_eq cf l l 0 _ (fun j => by simp)] at e
  have mkS : ∀ {w0 : World}, CRel w0 G a nt slots vs h → SRel w0 G a nt slots ops.toList ⟨vs, List.replicate l.length .bad, h⟩ := fun S => ⟨S.H, S.F, ⟨by simp [hl], fun k t o x h1 h2 h3 h4 => by
    simp only [List.getElem?_replicate] at h4
    split at h4
    · simp at h4; subst h4; exact .bad _
    · simp at h4⟩, S.size⟩
  cases draw with
  | false =>
    refine wp_region ?_
    rw [List.range_eq_range']
    rw [hl] at e
    exact fold_ok hcf hnd c2 c1 _ (mkS S) (by rw [hl]; exact e) fun a' w' G' hX S' hd => hQ a' w' G' hX ⟨S'.H, S'.F, S'.size⟩ hd
  | true =>
    refine wp_region_draw fun t => ?_
    rw [hmix]
    exact fold_ok hcf hnd c2 c1 _ (mkS S.mono_refl) (draw_ok hl (c3 rfl) e t) fun a' w' G' hX S' hd => hQ a' w' G' hX.drew ⟨S'.H, S'.F, S'.size⟩ hd

theorem code_step (hmix : P.follows .mixedOrders = true) (hT : Table P Hh F) {n : Nat} (ih : ∀ m, m ≤ n → CodeOk P Hh F m) (ihc : CallOk P F n) : CodeOk P Hh F (n + 1) := by
  intro fid nt slots c vs h e vs' h' a w G Q hnd hr S hQ
  have ihn := ih n (Nat.le_refl _)
  cases c with
  | skip =>
    simp only [compCode, run, Option.some.injEq, Res.code.injEq] at hr
    obtain ⟨rfl, rfl, rfl⟩ := hr
    exact wp_skip (hQ a w G (Ext.refl _ _ _) S rfl)
  | label l =>
    simp only [compCode, run, Option.some.injEq, Res.code.injEq] at hr
    obtain ⟨rfl, rfl, rfl⟩ := hr
    exact wp_label (hQ a w G (Ext.refl _ _ _) S rfl)
  | exit id =>
    simp only [compCode, run, Option.some.injEq, Res.code.injEq] at hr
    obtain ⟨rfl, rfl, rfl⟩ := hr
    exact wp_exit (hQ a w G (Ext.refl _ _ _) S rfl)
  | ret =>
    simp only [compCode, run, Option.some.injEq, Res.code.injEq] at hr
    obtain ⟨rfl, rfl, rfl⟩ := hr
    exact wp_ret (hQ a w G (Ext.refl _ _ _) S rfl)
  | refuse why => simp [compCode, run] at hr
  | goto l => simp [compCode, run] at hr
  | rangeFunc f ps asx b => simp [compCode, run] at hr
  | region id ops draw =>
    cases hcc : compCode P Hh fid nt slots (.region id ops draw) with
    | ops l =>
      rw [hcc] at hr
      simp only [run] at hr
      split at hr
      · rename_i s' hs'
        simp only [Option.some.injEq, Res.code.injEq] at hr
        obtain ⟨rfl, rfl, rfl⟩ := hr
        refine region_ok hmix (cf := fun f args h => (run F n (.call f args h)).bind Res.asVal) (fun g args h0 r h1 hc => ?_) hnd hcc S hs' hQ
        simp only at hc
        cases hrun : run F n (.call g args h0) with
        | none => rw [hrun] at hc; simp at hc
        | some res =>
          rw [hrun] at hc
          cases res with
          | code _ _ _ => simp [Res.asVal] at hc
          | val r1 h2 =>
            simp only [Option.bind_some, Res.asVal, Option.some.injEq, Prod.mk.injEq] at hc
            obtain ⟨rfl, rfl⟩ := hc
            refine ⟨ihc g args h0 _ _ hrun, fun cargs w => ?_⟩
            cases n with
            | zero => simp [run] at hrun
            | succ n =>
              simp only [run] at hrun
              split at hrun
              · simp at hrun
              · rename_i s hs; exact (hT.hand hs).2 cargs w
              · rename_i af haf; exact callFunc_enter (hT.comp haf) cargs w
      · simp at hr
    | refuse => rw [hcc] at hr; simp [run] at hr
    | _ =>
      exfalso
      simp only [compCode] at hcc
      split at hcc
      · split at hcc <;> simp at hcc
      · simp at hcc
  | seq x y =>
    simp only [compCode, run] at hr
    refine wp_seq ?_
    split at hr
    · rename_i vs1 h1 h1r
      exact ihn fid nt slots x vs h .normal vs1 h1 a w G _ hnd h1r S fun a1 w1 G1 hX1 S1 hd1 =>
        ihn fid nt slots y vs1 h1 e vs' h' a1 w1 G1 _ hnd hr S1 fun a2 w2 G2 hX2 S2 hd2 => hQ a2 w2 G2 (hX1.trans hX2) S2 (hd2.trans hd1)
    · rename_i hnn
      refine ihn fid nt slots x vs h e vs' h' a w G _ hnd hr S fun a1 w1 G1 hX1 S1 hd1 => ?_
      cases e with
      | normal => exact absurd hr (hnn vs' h')
      | exit id => exact hQ a1 w1 G1 hX1 S1 hd1
      | ret => exact hQ a1 w1 G1 hX1 S1 hd1
  | cond x c1 c2 =>
    simp only [compCode] at hr
    split at hr
    · rename_i x' hx
      simp only [run] at hr
      have hT0 : TRel w G a.tmps slots [] [] := ⟨rfl, by simp⟩
      have hv := operand_ok (k := 0) S.F hT0 x x' hx
      split at hr
      · rename_i hb
        rw [hb] at hv
        generalize hev : a.eval x = v at hv
        cases hv
        exact wp_cond_true hev (ihn fid nt slots c1 vs h e vs' h' a w G Q hnd hr S hQ)
      · rename_i hb
        rw [hb] at hv
        generalize hev : a.eval x = v at hv
        cases hv
        exact wp_cond_false hev (ihn fid nt slots c2 vs h e vs' h' a w G Q hnd hr S hQ)
      · simp at hr
    · simp [run] at hr
  | block id c1 =>
    simp only [compCode, run] at hr
    refine wp_block ?_
    split at hr
    · rename_i i vs1 h1 h1r
      refine ihn fid nt slots c1 vs h (.exit i) vs1 h1 a w G _ hnd h1r S fun a1 w1 G1 hX1 S1 hd1 => ?_
      split at hr
      · rename_i hi
        simp only [Option.some.injEq, Res.code.injEq] at hr
        obtain ⟨rfl, rfl, rfl⟩ := hr
        simp only [exitOf, Exit.inBlock, hi, if_true]
        exact hQ a1 w1 G1 hX1 S1 hd1
      · rename_i hi
        simp only [Option.some.injEq, Res.code.injEq] at hr
        obtain ⟨rfl, rfl, rfl⟩ := hr
        simp only [exitOf, Exit.inBlock, hi, if_false]
        exact hQ a1 w1 G1 hX1 S1 hd1
    · rename_i hnn
      refine ihn fid nt slots c1 vs h e vs' h' a w G _ hnd hr S fun a1 w1 G1 hX1 S1 hd1 => ?_
      cases e with
      | normal => exact hQ a1 w1 G1 hX1 S1 hd1
      | exit id' => exact absurd hr (hnn id' vs' h')
      | ret => exact hQ a1 w1 G1 hX1 S1 hd1
  | scope c1 =>
    simp only [compCode, run] at hr
    refine wp_scope_straight ?_
    have hskip : ∀ m, run F m (.code .skip vs h) = none ∨ run F m (.code .skip vs h) = some (.code .normal vs h) := fun m => by cases m <;> simp [run]
    rcases hskip n with h0 | h0
    · rw [h0] at hr; simp at hr
    · rw [h0] at hr
      simp only at hr
      refine ihn fid nt slots c1 vs h e vs' h' a w G _ hnd hr S fun a1 w1 G1 hX1 S1 hd1 => ?_
      cases e <;> exact hQ a1 w1 G1 hX1 S1 hd1
  | loop c1 =>
    refine wp_loop_ind (fun m a1 w1 => m ≤ n + 1 ∧ ∃ vs1 h1 G1, run F m (.code (compCode P Hh fid nt slots (.loop c1)) vs1 h1) = some (.code e vs' h') ∧ CRel w1 G1 a1 nt slots vs1 h1 ∧ Ext w G h w1 G1 h1 ∧ a1.defers = a.defers) (m := n + 1) ⟨Nat.le_refl _, vs, h, G, hr, S, Ext.refl _ _ _, rfl⟩ ?_
    rintro m a1 w1 ⟨hm, vs1, h1, G1, hr1, S1, hX1, hd1⟩
    cases m with
    | zero => simp [run] at hr1
    | succ m =>
      simp only [compCode, run] at hr1
      split at hr1
      · rename_i vs2 h2 h2r
        exact ih m (by omega) fid nt slots c1 vs1 h1 .normal vs2 h2 a1 w1 G1 _ hnd h2r S1 fun a2 w2 G2 hX2 S2 hd2 =>
          ⟨m, Nat.lt_succ_self _, by omega, vs2, h2, G2, by simp only [compCode]; exact hr1, S2, hX1.trans hX2, hd2.trans hd1⟩
      · rename_i hnn
        refine ih m (by omega) fid nt slots c1 vs1 h1 e vs' h' a1 w1 G1 _ hnd hr1 S1 fun a2 w2 G2 hX2 S2 hd2 => ?_
        cases e with
        | normal => exact absurd hr1 (hnn vs' h')
        | exit id' => exact hQ a2 w2 G2 (hX1.trans hX2) S2 (hd2.trans hd1)
        | ret => exact hQ a2 w2 G2 (hX1.trans hX2) S2 (hd2.trans hd1)

theorem all_ok (hmix : P.follows .mixedOrders = true) (hT : Table P Hh F) : ∀ n, CodeOk P Hh F n ∧ CallOk P F n := by
  intro n
  induction n using Nat.strongRecOn with
  | _ n ih =>
    cases n with
    | zero => exact ⟨fun fid nt slots c vs h e vs' h' a w G Q hnd hr => by simp [run] at hr, fun g args h r h' hr => by simp [run] at hr⟩
    | succ n => exact ⟨code_step hmix hT (fun m hm => (ih m (by omega)).1) (ih n (by omega)).2, call_step hT (ih n (by omega)).1⟩

/-- SOUNDNESS: what a call of the abstract machine computes, the call of the model gives. -/
theorem sound (hmix : P.follows .mixedOrders = true) (hT : Table P Hh F) {n g : Nat} {args : List AVal} {h h' : Heap} {r : AVal} (e : run F n (.call g args h) = some (.val r h')) : CallRel P g args h r h' := (all_ok hmix hT n).2 g args h r h' e
end Go.Abs

/-
  strings.Builder's copyCheck and String, told by hand for the abstract machine and proved of the model's functions.
-/
set_option linter.unusedSimpArgs false
set_option linter.unusedVariables false
namespace Go.Abs

/-- (*strings.Builder).copyCheck. -/
def copyCheckS (ty : Nat) (args : List AVal) (h : Heap) : Option (AVal × Heap) :=
  match args with
  | [.ptr id 0] => match h.get id with
    | some (.row true s ag [c, d]) =>
      if s = typed ty then
        match c with
        | .nilptr => some (.tup [], h.put id (some (.row true s ag [.ptr id 0, d])))
        | .ptr j 0 => if j = id then some (.tup [], h) else none
        | _ => none
      else none
    | _ => none
  | _ => none

def bytesOf : List AVal → Option (List UInt8)
  | [] => some []
  | .int .u8 n :: xs => if 0 ≤ n ∧ n < 256 then (bytesOf xs).map (UInt8.ofNat n.toNat :: ·) else none
  | _ :: _ => none

/-- (*strings.Builder).String. -/
def stringS (bty : Nat) (args : List AVal) (h : Heap) : Option (AVal × Heap) :=
  match args with
  | [.ptr id 0] => match h.get id with
    | some (.row true s ag [c, d]) =>
      match d with
      | .sl [] .nil => some (.str [], h)
      | .sl (x :: xs) (.own j 1) => match h.get j with
        | some (.tok b) => if b = bty ∧ (x :: xs).length ≤ 9223372036854775807 then (bytesOf (x :: xs)).map (fun l => (.str l, h)) else none
        | _ => none
      | _ => none
    | _ => none
  | _ => none

theorem bytesOf_ok : ∀ {xs : List AVal} {l : List UInt8}, bytesOf xs = some l → xs.length = l.length ∧ flat xs = xs ∧ ∀ (k : Nat) (x : UInt8), l[k]? = some x → xs[k]? = some (.int .u8 x.toNat)
  | [], l, e => by simp [bytesOf] at e; subst e; exact ⟨rfl, rfl, by simp⟩
  | x :: xs, l, e => by
    cases x with
    | int k n =>
      cases k with
      | u8 =>
        simp only [bytesOf] at e
        split at e
        · rename_i hn
          simp only [Option.map_eq_some_iff] at e
          obtain ⟨l', e', rfl⟩ := e
          obtain ⟨h1, h2, h3⟩ := bytesOf_ok e'
          refine ⟨by simp [h1], by simp only [flat, List.flatMap_cons, AVal.cells] at h2 ⊢; rw [h2]; rfl, fun k x hk => ?_⟩
          cases k with
          | zero =>
            simp only [List.getElem?_cons_zero, Option.some.injEq] at hk ⊢
            subst hk
            congr 1
            have : (UInt8.ofNat n.toNat).toNat = n.toNat := by rw [UInt8.toNat_ofNat']; exact Nat.mod_eq_of_lt (by omega)
            rw [this]; omega
          | succ k => simpa using h3 k x (by simpa using hk)
        · simp at e
      | _ => simp [bytesOf] at e
    | _ => simp [bytesOf] at e

variable {P : Program}

theorem freeze_cells (w : World) (g n : Nat) (c : Array Value) (e : TypeId) (f : Nat × Nat) (h : w.heap[g]? = some (.cells c e f)) (hn : n ≠ 0) :
    ∃ f', (w.freeze ⟨g, 0, none⟩ n).heap[g]? = some (.cells c e f') ∧ f'.2 ≤ max f.2 n := by
  obtain ⟨lo, hi⟩ := f
  refine ⟨if lo == hi then (0, 0 + n) else (min lo 0, max hi (0 + n)), ?_, ?_⟩
  · unfold World.freeze
    rw [if_neg hn]
    simp [Array.getElem?_modify, h]
  · split <;> simp <;> omega

/-- Freezing bytes below the place where a token's block grows. -/
theorem freeze_tok {w : World} {G : Ghost} {h : Heap} (H : HRel w G h) {j b n : Nat} (hj : h.get j = some (.tok b)) (hn : n ≠ 0) (ht : n ≤ G.tip j) :
    Ext w G h (w.freeze ⟨G.loc j, 0, none⟩ n) G h ∧ HRel (w.freeze ⟨G.loc j, 0, none⟩ n) G h := by
  obtain ⟨t1, ⟨m, t2, t2'⟩, t3⟩ := H.obj j _ hj
  obtain ⟨c, f, hc⟩ : ∃ c f, w.heap[G.loc j]? = some (.cells c b f) := by
    unfold World.shape? at t2
    split at t2
    · rename_i c e f hc
      simp at t2
      exact ⟨c, f, by rw [hc, t2.1]⟩
    · simp at t2
  obtain ⟨f', hf, hf'⟩ := freeze_cells w (G.loc j) n c b f hc hn
  have hother : ∀ k, k ≠ G.loc j → (w.freeze ⟨G.loc j, 0, none⟩ n).heap[k]? = w.heap[k]? := fun k hk => by
    unfold World.freeze; rw [if_neg hn]
    simp [Array.getElem?_modify, Ne.symm hk]
  have hcell : ∀ k a, (w.freeze ⟨G.loc j, 0, none⟩ n).cell? ⟨k, a, none⟩ = w.cell? ⟨k, a, none⟩ := fun k a => by
    by_cases hk : k = G.loc j
    · subst hk; simp [World.cell?, hf, hc]
    · simp [World.cell?, hother k hk]
  have hshape : ∀ k, (w.freeze ⟨G.loc j, 0, none⟩ n).shape? k = w.shape? k := fun k => by
    by_cases hk : k = G.loc j
    · subst hk; simp [World.shape?, hf, hc]
    · simp [World.shape?, hother k hk]
  have hsize : (w.freeze ⟨G.loc j, 0, none⟩ n).heap.size = w.heap.size := by unfold World.freeze; rw [if_neg hn]; simp
  have hX : Ext w G h (w.freeze ⟨G.loc j, 0, none⟩ n) G h :=
    ⟨by unfold World.freeze; rw [if_neg hn], by unfold World.freeze; rw [if_neg hn], by unfold World.freeze; rw [if_neg hn], Nat.le_of_eq hsize.symm,
      fun k _ ho => ⟨hother k (fun e => ho ⟨j, _, hj, e.symm⟩), rfl⟩, fun k a _ hs => ⟨hcell k a, hs⟩, fun k _ => hshape k, Nat.le_refl _, fun _ _ => ⟨rfl, rfl⟩, fun _ _ ho => ho⟩
  refine ⟨hX, H.n_eq, fun id o ho => by rw [hsize]; exact H.lt id o ho, fun id o ho => ?_, H.inj⟩
  by_cases hid : id = j
  · subst hid
    rw [hj] at ho
    obtain rfl := Option.some.inj ho
    refine ⟨t1, ⟨m, by rw [hshape]; exact t2, t2'⟩, ?_⟩
    have h3 : f.2 ≤ G.tip id := by simpa [fzr, hc] using t3
    simp only [fzr, hf]
    omega
  · have hne : G.loc id ≠ G.loc j := fun e => hid (H.inj id j o _ ho hj e)
    exact OkObj.mono hX (by rw [H.n_eq]; exact Heap.get_lt ho) (H.lt id o ho) (hother _ hne) rfl (H.obj id o ho)

section
open Go.Shelf Go.Proofs
variable {ρ : Ren}

set_option maxHeartbeats 2000000 in
set_option maxRecDepth 100000 in
theorem string_walk (L : Lays.n169 P ρ) (X : Builder.Extra P ρ) (b : Nat) (ao : Option Addr) (n cap : Nat) (q : Option Addr) (s : ByteArray) (w w2 : World) (c1' : w.cell? ⟨b, 1, none⟩ = some (.slice ao n cap))
    (hSD : (Builtin.unsafeSliceData_ #[(ρ.t 37)] (ρ.t 127) #[.slice ao n cap]).run P w.drew = .ok (.pointer q) w.drew)
    (hUS : (Builtin.unsafeString_ #[(ρ.t 127), (ρ.t 3)] (ρ.t 9) #[.pointer q, .int .i64 n]).run P w.drew = .ok (.string s) w2) :
    Calls P (ρ.f 169) #[.pointer (some ⟨b, 0, none⟩)] w fun e w' => e = .returned (.string s) ∧ w' = w2 := by
  have c1 : w.drew.cell? ⟨b, 1, none⟩ = some (.slice ao n cap) := c1'
  have mixed := L.mixed
  have t72 := L.t72; have a72 := L.a72; have z72 := L.z72; have v72 := L.v72; have u72 := run_underlying L.t72
  have t70 := L.t70; have a70 := L.a70; have z70 := L.z70; have v70 := L.v70; have u70 := run_underlying L.t70
  have t37 := L.t37; have a37 := L.a37; have z37 := L.z37; have v37 := L.v37; have u37 := run_underlying L.t37
  have t127 := L.t127; have a127 := L.a127; have z127 := L.z127; have v127 := L.v127; have u127 := run_underlying L.t127
  have t3 := L.t3; have a3 := L.a3; have z3 := L.z3; have v3 := L.v3; have u3 := run_underlying L.t3
  have t9 := L.t9; have a9 := L.a9; have z9 := L.z9; have v9 := L.v9; have u9 := run_underlying L.t9
  have t5 := X.t5; have a5 := X.a5; have z5 := X.z5; have v5 := X.v5; have u5 := run_underlying X.t5
  go_enter L.f169, Body.n169_ntmps ρ
  go_wp2
  go_region_o
  all_goals (go_wp2; go_ret; exact ⟨rfl, rfl⟩)

theorem string_ok (L : Lays.n169 P ρ) (X : Builder.Extra P ρ) : HandOk P (ρ.f 169) (stringS (ρ.t 5)) := by
  refine ⟨fun args h r h' e w G cargs H hp => ?_, enters_of L.f169 (by kernel_rfl) rfl⟩
  unfold stringS at e
  split at e
  · rename_i id
    split at e
    · rename_i s ag c d hg
      have hlen := hp.len
      obtain ⟨v0, hv0⟩ : ∃ v, cargs = #[v] := by
        obtain ⟨l⟩ := cargs
        match l, hlen with
        | [v], _ => exact ⟨v, rfl⟩
      subst hv0
      have rv := hp.rel 0 v0 (.ptr id 0) (by simp) (by simp)
      cases rv with
      | ptr _ _ hid =>
        obtain ⟨o1, o2, o3, o4, o5⟩ := H.obj id _ hg
        obtain ⟨u, hu, ru⟩ := o2 1 d (by simp)
        split at e
        · -- the empty buffer
          simp only [Option.some.injEq, Prod.mk.injEq] at e
          obtain ⟨rfl, rfl⟩ := e
          cases ru with
          | sl _ _ _ _ _ _ _ _ _ _ _ _ _ _ hnn => exact absurd rfl hnn
          | nilsl =>
            refine (string_walk L X (G.loc id) none 0 0 none .empty w w.drew hu rfl (Lib.run_unsafeString_none w.drew _ _ _ none)).mono ?_
            rintro e w' ⟨rfl, rfl⟩
            exact ⟨_, G, rfl, Ext.of_heap ⟨rfl, rfl, rfl, rfl⟩, HRel.of_heap (w := w) ⟨rfl, rfl, rfl, rfl⟩ H, .str .empty⟩
        · -- bytes with their right
          rename_i x xs j
          split at e
          · rename_i tb hj
            split at e
            · rename_i hcond
              obtain ⟨rfl, hmax⟩ := hcond
              simp only [Option.map_eq_some_iff] at e
              obtain ⟨l, hl, e⟩ := e
              simp only [Prod.mk.injEq] at e
              obtain ⟨rfl, rfl⟩ := e
              obtain ⟨b1, b2, b3⟩ := bytesOf_ok hl
              cases ru with
              | sl b off cap sz0 _ _ u0 h0 h1 h2 h3 h4 h5 hcp hnn ho =>
                obtain ⟨k1, k0, k2, k3, k4, eT, nT, k5, k6⟩ := ho j 1 rfl
                subst k1; subst k3; subst k0
                obtain ⟨t1, ⟨m, t2, t2'⟩, t3⟩ := H.obj j _ hj
                have hne : l ≠ [] := by intro e0; rw [e0] at b1; simp at b1
                have hl0 : l.length ≠ 0 := by simpa using hne
                rw [k4] at t2'
                have hcells : P.cellsOf (ρ.t 5) = 1 := X.cellsByte
                have hw : w.drew.shape? (G.loc j) = some (ρ.t 5, m) := t2
                rw [b1] at hmax t2' hcp
                have hUS := Lib.run_unsafeString_row (P := P) w.drew (ρ.t 127) (ρ.t 3) (ρ.t 9) (ρ.t 5) L.t127 hcells (G.loc j) m hw l hne (by omega) hmax (fun k y hk => by
                  have hx := b3 k y hk
                  have hc := h1 k _ (by rw [b2]; exact hx)
                  have hr := h2 k _ (by rw [b2]; exact hx)
                  cases hu' : u0 k with
                  | int kk nn =>
                    rw [hu'] at hr hc
                    cases hr
                    have : (⟨G.loc j, 0, none⟩ : Addr).add k = ⟨G.loc j, k, none⟩ := by unfold Addr.add; by_cases hk0 : k = 0 <;> simp [hk0]
                    rw [this]
                    rw [Nat.zero_add] at hc
                    exact hc
                  | _ => rw [hu'] at hr; cases hr)
                obtain ⟨z1, z2⟩ := freeze_tok (w := w.drew) (HRel.of_heap (w := w) ⟨rfl, rfl, rfl, rfl⟩ H) hj hl0 (by omega)
                refine (string_walk L X (G.loc id) (some ⟨G.loc j, 0, none⟩) l.length cap (some ⟨G.loc j, 0, none⟩) ⟨l.toArray⟩ w _ (by rw [← b1]; exact hu) (Lib.run_unsafeSliceData_row _ _ _ _ _ _ (by omega)) hUS).mono ?_
                rintro e w' ⟨rfl, rfl⟩
                exact ⟨_, G, rfl, z1.drew, z2, .str ⟨l.toArray⟩⟩
            · simp at e
          · simp at e
        · simp at e
    · simp at e
  · simp at e

end
theorem copyCheck_ok {f ty : Nat} (hen : ∀ (args : Array Value) (w : World), (callFunc f args).run P w = .ok (.enter f args) w)
    (hU : ∀ (b : Nat) (w : World), w.cell? ⟨b, 0, none⟩ = some (.pointer (some ⟨b, 0, none⟩)) → Calls P f #[.pointer (some ⟨b, 0, none⟩)] w fun e w' => e = .returned (.tuple #[]) ∧ w' = w)
    (hF : ∀ (b : Nat) (w : World), w.cell? ⟨b, 0, none⟩ = some (.pointer none) → w.shape? b = some (ty, 2) → w.frozen? ⟨b, 0, none⟩ = false →
      Calls P f #[.pointer (some ⟨b, 0, none⟩)] w fun e w' => e = .returned (.tuple #[]) ∧ w' = w.setCell ⟨b, 0, none⟩ (.pointer (some ⟨b, 0, none⟩))) :
    HandOk P f (copyCheckS ty) := by
  refine ⟨fun args h r h' e w G cargs H hp => ?_, hen⟩
  unfold copyCheckS at e
  split at e
  · rename_i id
    split at e
    · rename_i s ag c d hg
      have hlen := hp.len
      obtain ⟨v0, hv0⟩ : ∃ v, cargs = #[v] := by
        obtain ⟨l⟩ := cargs
        match l, hlen with
        | [v], _ => exact ⟨v, rfl⟩
      subst hv0
      have rv := hp.rel 0 v0 (.ptr id 0) (by simp) (by simp)
      cases rv with
      | ptr _ _ hid =>
        obtain ⟨o1, o2, o3, o4, o5⟩ := H.obj id _ hg
        obtain ⟨u, hu, ru⟩ := o2 0 c (by simp)
        split at e
        · rename_i hs
          subst hs
          obtain ⟨eT, nT, hsh, hn, hT⟩ := o4
          obtain ⟨rfl, rfl⟩ := hT ty rfl
          split at e
          · -- fresh
            simp only [Option.some.injEq, Prod.mk.injEq] at e
            obtain ⟨rfl, rfl⟩ := e
            cases ru with
            | nilptr =>
              refine (hF (G.loc id) w hu hsh (o5 rfl 0 _ _ hsh (by simp))).mono ?_
              rintro e w' ⟨rfl, rfl⟩
              have hw := setCell_wrote (v := .pointer (some ⟨G.loc id, 0, none⟩)) hu
              obtain ⟨G', x1, x2⟩ := write_row H (xs := [.ptr id 0]) hg hw rfl (fun k v x hv hx => by
                cases k with
                | zero => simp at hv hx; subst hv; subst hx; exact .ptr id 0 hid
                | succ k => simp at hv) (by simp [AVal.one]) (by simp)
              exact ⟨_, G', rfl, x1, x2, .tup #[] [] rfl (by simp)⟩
          · -- used
            rename_i j
            split at e
            · rename_i hj
              subst hj
              simp only [Option.some.injEq, Prod.mk.injEq] at e
              obtain ⟨rfl, rfl⟩ := e
              cases ru with
              | ptr _ _ hj =>
                refine (hU _ w hu).mono ?_
                rintro e w' ⟨rfl, rfl⟩
                exact ⟨_, G, rfl, Ext.refl _ _ _, H, .tup #[] [] rfl (by simp)⟩
            · simp at e
          · simp at e
        · simp at e
    · simp at e
  · simp at e

end Go.Abs
