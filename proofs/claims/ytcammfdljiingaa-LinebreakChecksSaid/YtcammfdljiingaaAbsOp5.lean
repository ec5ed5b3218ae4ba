/-
  One operation of the model does what the abstract machine says: slices that are made, appended to, copied.
-/
import Derived.Test.YtcammfdljiingaaAbsOp4
import Derived.IntWalk
namespace Go.Abs
set_option linter.unusedSimpArgs false
set_option linter.unusedVariables false
section
variable {P : Program} {o : Oper} {a : Act} {w : World} {G : Ghost} {h : Heap} {c : Operand → Option Opd} {ev : Opd → AVal} {r : AVal} {h' : Heap}

/-- The run of a slice literal. -/
theorem lit_run (hc : Ops a w G c ev) {t el : TypeId} {n sz : Nat} {z cs : List AVal} {ps : Array (Nat × Operand)} {qs : List (Nat × Opd)} (ht : P.underlying t = some (.slice el)) (hs : tSize P el = some sz) (hz : tZero P el = some z)
    (hp : compParts c ps.toList = some qs) (hop : o.op = .buildSlice t n ps) (hzl : z.length = sz) (hsm : n * sz ≤ 16777216)
    (e : fillA (repl n z) (qs.map fun p => (p.1 * sz, sz, ev p.2)) = some cs) :
    ∃ cs', (execOp a.eval o).run P w = .ok (.value (.slice (some ⟨w.heap.size, 0, none⟩) n n)) (w.alloc (.cells cs' el)) ∧ Pts w G cs' cs ∧ (∀ x ∈ cs, x.one = true) ∧ cs.length = n * sz := by
  obtain ⟨i, v, hi, hv, h1, h2, h3⟩ := tZero_ok hz
  obtain ⟨p1, p2⟩ := parts_ok hc hp
  have hone : ∀ x ∈ repl n z, x.one = true := by
    intro x hx
    simp only [repl, List.mem_flatten, List.mem_replicate] at hx
    obtain ⟨l, ⟨_, rfl⟩, hx⟩ := hx
    exact h2 x hx
  have hinit : Pts w G ((Array.range (n * sz)).map ((if n * sz = 0 then #[] else v.cells)[· % (if n * sz = 0 then #[] else v.cells).size]!)) (repl n z) := by
    by_cases h0 : n * sz = 0
    · refine ⟨by simp [h0, repl_len, hzl], fun k c x hk hx => ?_⟩
      rw [h0] at hk
      simp at hk
    · simp only [h0, if_false]
      exact ⟨by simp [repl_len, hzl], zero_pts h1 (h3 w G) _ _ (by rw [hzl]; exact Nat.le_refl _)⟩
  obtain ⟨cs', g1, g2, g3, g4⟩ := fill_ok (w := w) (G := G) (plc := fun i => some (i * sz, sz)) (ps := (ps.map fun (p : Nat × Operand) => (p.1, a.eval p.2)).toList) (qs := qs.map fun p => (p.1 * sz, sz, ev p.2)) (as' := cs)
    (by simp [← p1]) (fun k p q hp' hq' => by
      simp only [Array.toList_map, List.getElem?_map, Option.map_eq_some_iff] at hp' hq'
      obtain ⟨p0, hp0, rfl⟩ := hp'
      obtain ⟨q0, hq0, rfl⟩ := hq'
      obtain ⟨e1, e2⟩ := p2 k p0 q0 hp0 hq0
      exact ⟨by rw [e1], e2⟩) hinit hone e
  refine ⟨cs', ?_, g2, g3, by rw [g4, repl_len, hzl]⟩
  have hbig : ¬ (n * sz > 2 ^ 24) := by omega
  simp only [execOp, hop, Instr.buildSlice, Sem.run_bind, run_underlying ht, Result.andThen_ok, run_sizeOf' hs, if_neg hbig, Sem.run_pure, Sem.run_ite]
  generalize harr : (Array.range (n * sz)).map ((if n * sz = 0 then #[] else v.cells)[· % (if n * sz = 0 then #[] else v.cells).size]!) = ini at g1
  by_cases h0 : n * sz = 0
  · simp only [if_pos h0] at harr
    rw [if_pos h0, harr, g1]
    simp [newRow]
  · simp only [if_neg h0] at harr
    rw [if_neg h0, run_zeroValue' hi hv, Result.andThen_ok, harr, g1]
    simp [newRow]

/-- A new block that nobody owns: a plain list. -/
theorem new_free (H : HRel w G h) {arr : Array Value} {el : TypeId} {xs : List AVal} {sz cap : Nat} (h0 : ∀ x ∈ xs, x.cells.length = sz) (hr : ∀ (k : Nat) (x : AVal), (flat xs)[k]? = some x → ∃ u, arr[k]? = some u ∧ VRel w G u x)
    (h4 : ∀ x ∈ flat xs, x.one = true) (h5 : ∀ x ∈ flat xs, strip x = some x) (hcap : xs.length ≤ cap) :
    ∃ G', Ext w G h (w.alloc (.cells arr el)) G' h ∧ HRel (w.alloc (.cells arr el)) G' h ∧ VRel (w.alloc (.cells arr el)) G' (.slice (some ⟨w.heap.size, 0, none⟩) xs.length cap) (.sl xs .none) := by
  have hX := Ext.alloc_free (w := w) (G := G) (h := h) arr el
  refine ⟨_, hX, HRel.alloc_free H arr el, .sl w.heap.size 0 cap sz xs .none (fun k => (arr[k]?).getD (.bool false)) h0 (fun k x hk => ?_) (fun k x hk => ?_) (fun k hk m hm => ?_) h4 h5 hcap (by simp) (by simp)⟩
  · obtain ⟨u, hu, _⟩ := hr k x hk
    rw [Nat.zero_add, World.cell?_alloc_new, hu]; rfl
  · obtain ⟨u, hu, hv⟩ := hr k x hk
    rw [hu]; exact hv.mono hX
  · simp at hm

/-- A new block with the right to append. -/
theorem new_tok (H : HRel w G h) {arr : Array Value} {el : TypeId} {xs : List AVal} {sz cap : Nat} (h0 : ∀ x ∈ xs, x.cells.length = sz) (hr : ∀ (k : Nat) (x : AVal), (flat xs)[k]? = some x → ∃ u, arr[k]? = some u ∧ VRel w G u x)
    (h4 : ∀ x ∈ flat xs, x.one = true) (h5 : ∀ x ∈ flat xs, strip x = some x) (hcap : xs.length ≤ cap) (hsz : cap * sz ≤ arr.size) :
    ∃ G', Ext w G h (w.alloc (.cells arr el)) G' (h.push (.tok el)) ∧ HRel (w.alloc (.cells arr el)) G' (h.push (.tok el)) ∧ VRel (w.alloc (.cells arr el)) G' (.slice (some ⟨w.heap.size, 0, none⟩) xs.length cap) (.sl xs (.own h.next sz)) := by
  have hX := Ext.alloc_obj H arr el (xs.length * sz) (some (xs.length * sz)) (.tok el)
  have hsh : (w.alloc (.cells arr el)).shape? w.heap.size = some (el, arr.size) := by
    unfold World.shape?; rw [heap_alloc_new]
  have hfl := flat_len h0
  have hle : xs.length * sz ≤ arr.size := Nat.le_trans (Nat.mul_le_mul_right _ hcap) hsz
  refine ⟨_, hX, HRel.alloc_obj H arr el _ _ (.tok el) ?_, .sl w.heap.size 0 cap sz xs (.own h.next sz) (fun k => (arr[k]?).getD (.bool false)) h0 (fun k x hk => ?_) (fun k x hk => ?_) (fun k hk m hm => ?_) h4 h5 hcap (by simp) (fun id s hs => ?_)⟩
  · unfold OkObj
    simp only [Ghost.new, if_true]
    refine ⟨trivial, ⟨arr.size, hsh, hle⟩, ?_⟩
    unfold fzr; rw [heap_alloc_new]; simp
  · obtain ⟨u, hu, _⟩ := hr k x hk
    rw [Nat.zero_add, World.cell?_alloc_new, hu]; rfl
  · obtain ⟨u, hu, hv⟩ := hr k x hk
    rw [hu]; exact hv.mono hX
  · simp [Ghost.new] at hm
    omega
  · simp only [Tok.own.injEq] at hs
    obtain ⟨rfl, rfl⟩ := hs
    refine ⟨rfl, rfl, by simp [Ghost.new, H.n_eq], by simp [Ghost.new, H.n_eq], by simp [Ghost.new, H.n_eq], el, arr.size, hsh, by omega⟩

/-- Lists of cells that have been stripped and cut into elements. -/
theorem strip_chunk {cs cs' xs : List AVal} {sz n : Nat} {ag : Bool} {arr : Array Value} {off : Nat} (hst : stripL cs = some cs') (hch : chunk sz ag n cs' = some xs) (hone : ∀ x ∈ cs, x.one = true) (hl : cs.length = n * sz)
    (hr : ∀ (k : Nat) (x : AVal), cs[k]? = some x → ∃ u, arr[off + k]? = some u ∧ VRel w G u x) :
    xs.length = n ∧ (∀ x ∈ xs, x.cells.length = sz) ∧ flat xs = cs' ∧ (∀ x ∈ flat xs, x.one = true) ∧ (∀ x ∈ flat xs, strip x = some x) ∧ (∀ (k : Nat) (x : AVal), (flat xs)[k]? = some x → ∃ u, arr[off + k]? = some u ∧ VRel w G u x) := by
  have hk := stripL_ok hst
  have hone' := stripL_one hst hone
  obtain ⟨c1, c2, c3, c4⟩ := chunk_ok hch hone'
  have hf : flat xs = cs' := by rw [c2]; exact List.take_of_length_le (by rw [← hk.1, hl]; exact Nat.le_refl _)
  refine ⟨c1, c3, hf, by rw [hf]; exact hone', fun x hx => ?_, fun k x hx => ?_⟩
  · rw [hf] at hx
    obtain ⟨k, hk'⟩ := mem_get hx
    obtain ⟨y, hy, hy'⟩ := back_get hk hk'
    obtain ⟨u, _, hu⟩ := hr k y hy
    exact hu.strip_strip hy'
  · rw [hf] at hx
    obtain ⟨y, hy, hy'⟩ := back_get hk hx
    obtain ⟨u, hu, hv⟩ := hr k y hy
    exact ⟨u, hu, hv.strip_to (fun _ _ h => h) hy'⟩

/-- Rows that become immutable. -/
theorem freeze_ok : ∀ {ids : List Nat} {G : Ghost} {h h1 : Heap}, HRel w G h → freeze h ids = some h1 →
    ∃ G1, Ext w G h w G1 h1 ∧ HRel w G1 h1 ∧ (∀ b k, stab G b k → stab G1 b k) ∧ (∀ id ∈ ids, ∀ k, stab G1 (G.loc id) k) ∧ (∀ b, G.lim b = none → G1.lim b = none) ∧ G1.loc = G.loc
  | [], G, h, h1, H, e => by simp [freeze] at e; subst e; exact ⟨G, Ext.refl _ _ _, H, fun _ _ hh => hh, by simp, fun _ hh => hh, rfl⟩
  | id :: ids, G, h, h1, H, e => by
    simp only [freeze] at e
    split at e
    · rename_i mu s ag cs hg
      have ht : Turned w G (G.loc id) w none := Turned.same (by simp)
      have hX := Ext.update hg ht (some (.row false s ag cs))
      have hst : ∀ b k, stab G b k → stab (G.at (G.loc id) none) b k := fun b k hk m hm => by
        by_cases eb : b = G.loc id
        · subst eb; simp [Ghost.at] at hm
        · simp [Ghost.at, eb] at hm; exact hk m hm
      have H1 := HRel.update H hg ht (some (.row false s ag cs)) (fun o ho => by
        obtain rfl := Option.some.inj ho
        obtain ⟨g1, g2, g3, g4, g5⟩ := H.obj id _ hg
        have hloc : (G.at (G.loc id) none).loc id = G.loc id := rfl
        unfold OkObj
        rw [hloc]
        exact ⟨by simp [Ghost.at], fun k x hk => (g2 k x hk).imp fun u hu => ⟨hu.1, hu.2.mono hX⟩, g3, g4, by simp⟩)
      obtain ⟨G1, x1, x2, x3, x4, x5, x6⟩ := freeze_ok H1 e
      refine ⟨G1, hX.trans x1, x2, fun b k hk => x3 b k (hst b k hk), fun j hj k => ?_, fun b hb => x5 b ?_, x6⟩
      · rcases List.mem_cons.1 hj with rfl | hj
        · intro m hm
          have := x5 (G.loc j) (by simp [Ghost.at])
          rw [this] at hm; simp at hm
        · exact x4 j hj k
      · simp only [Ghost.at]; split
        · rfl
        · exact hb
    · simp at e

theorem op_lit (H : HRel w G h) (hc : Ops a w G c ev) {t el : TypeId} {mode n sz : Nat} {ag : Bool} {z : List AVal} {ps : Array (Nat × Operand)} {qs : List (Nat × Opd)} (ht : P.underlying t = some (.slice el)) (hs : tSize P el = some sz) (hz : tZero P el = some z)
    (hp : compParts c ps.toList = some qs) (hop : o.op = .buildSlice t n ps)
    (e : evalA (.lit mode el n sz ag z qs) ev h = some (r, h')) : OpRes P o a w G h r h' := by
  simp only [evalA] at e
  split at e
  · rename_i cs hfill
    split at e
    · simp at e
    · rename_i hcond
      simp only [Bool.not_eq_true, Bool.not_eq_false', Bool.and_eq_true, decide_eq_true_eq] at hcond
      obtain ⟨⟨⟨hzl, hzo⟩, hsm⟩, hsml⟩ := hcond
      obtain ⟨arr, hrun, hpts, hone, hlen⟩ := lit_run (P := P) (o := o) hc ht hs hz hp hop hzl hsm hfill
      have hrel : ∀ (k : Nat) (x : AVal), cs[k]? = some x → ∃ u, arr[0 + k]? = some u ∧ VRel w G u x := fun k x hk => by
        rw [Nat.zero_add]
        obtain ⟨u, hu⟩ : ∃ u, arr[k]? = some u := ⟨_, Array.getElem?_eq_getElem (by rw [hpts.len]; exact (List.getElem?_eq_some_iff.1 hk).1)⟩
        exact ⟨u, hu, hpts.rel k u x hu hk⟩
      split at e
      · simp at e; obtain ⟨rfl, rfl⟩ := e
        obtain ⟨x1, x2, x3, x4, x5⟩ := new_row H arr el sz ag cs (Nat.le_of_eq hpts.len.symm) hpts.rel hone (small_ty hsml)
        refine ⟨_, _, _, .inl hrun, x1, x2, ?_⟩
        have := VRel.ref (w := w.alloc (.cells arr el)) (G := G.new w.heap.size 0 (some 0)) h.next 0 n sz n x4 (Nat.le_refl _) ⟨el, arr.size, by rw [x3]; exact x5, by rw [hpts.len, hlen]; omega⟩
        rwa [x3] at this
      · split at e
        · split at e
          · rename_i cs1 h1 hpur hfrz
            split at e
            · simp at e
            · rename_i xs hch
              simp at e; obtain ⟨rfl, rfl⟩ := e
              obtain ⟨G1, y1, y2, y3, y4, _, _⟩ := freeze_ok H hfrz
              have hk := purifyL_ok hpur
              have hone1 := purifyL_one hpur hone
              have hvr : ∀ (k : Nat) (x : AVal), cs1[k]? = some x → ∃ u, arr[k]? = some u ∧ VRel w G1 u x ∧ strip x = some x := fun k x hk' => by
                obtain ⟨y, hy, hy'⟩ := back_get hk hk'
                obtain ⟨u, hu, hv⟩ := hrel k y hy
                rw [Nat.zero_add] at hu
                exact ⟨u, hu, hv.purify_to H y3 (fun id hid => y4 id (refIdsL_mem hy hid)) hy', hv.purify_strip hy'⟩
              obtain ⟨c1, c2, c3, c4⟩ := chunk_ok hch hone1
              have hf : flat xs = cs1 := by rw [c2]; exact List.take_of_length_le (by rw [← hk.1, hlen]; exact Nat.le_refl _)
              obtain ⟨G', z1, z2, z3⟩ := new_free y2 (arr := arr) (el := el) (xs := xs) (sz := sz) (cap := n) c3 (fun k x hk' => by rw [hf] at hk'; obtain ⟨u, hu, hv, _⟩ := hvr k x hk'; exact ⟨u, hu, hv⟩) (by rw [hf]; exact hone1)
                (fun x hx => by rw [hf] at hx; obtain ⟨k, hk'⟩ := mem_get hx; exact (hvr k x hk').choose_spec.2.2) (Nat.le_of_eq c1)
              rw [c1] at z3
              exact ⟨_, _, G', .inl hrun, y1.trans z1, z2, z3⟩
          · simp at e
        · split at e
          · simp at e
          · rename_i cs1 hst
            split at e
            · simp at e
            · rename_i xs hch
              obtain ⟨c1, c2, c3, c4, c5, c6⟩ := strip_chunk (w := w) (G := G) (arr := arr) (off := 0) hst hch hone hlen hrel
              have c6' : ∀ (k : Nat) (x : AVal), (flat xs)[k]? = some x → ∃ u, arr[k]? = some u ∧ VRel w G u x := fun k x hk => by simpa using c6 k x hk
              split at e
              · simp at e; obtain ⟨rfl, rfl⟩ := e
                obtain ⟨G', z1, z2, z3⟩ := new_tok H (arr := arr) (el := el) (xs := xs) (sz := sz) (cap := n) c2 c6' c4 c5 (Nat.le_of_eq c1) (by rw [hpts.len, hlen]; exact Nat.le_refl _)
                rw [c1] at z3
                exact ⟨_, _, G', .inl hrun, z1, z2, z3⟩
              · simp at e; obtain ⟨rfl, rfl⟩ := e
                obtain ⟨G', z1, z2, z3⟩ := new_free H (arr := arr) (el := el) (xs := xs) (sz := sz) (cap := n) c2 c6' c4 c5 (Nat.le_of_eq c1)
                rw [c1] at z3
                exact ⟨_, _, G', .inl hrun, z1, z2, z3⟩
  · simp at e

theorem wrap_in {x : Int} (h0 : 0 ≤ x) (h1 : x < 9223372036854775808) : IntKind.i64.wrap x = x := IntWalk.i64_in x (by omega)

theorem op_mksl (H : HRel w G h) (hc : Ops a w G c ev) {x y : Operand} {x' y' : Opd} {t el : TypeId} {bytes sz : Nat} {ag : Bool} {z : List AVal} (hx : c x = some x') (hy : c y = some y') (ht : P.underlying t = some (.slice el)) (hb : tBytes P el = some bytes)
    (hs : tSize P el = some sz) (hz : tZero P el = some z) (hop : o.op = .makeSlice t x y) (e : evalA (.mksl bytes sz ag z x' y') ev h = some (r, h')) : OpRes P o a w G h r h' := by
  have rx := hc _ _ hx
  have ry := hc _ _ hy
  simp only [evalA] at e
  split at e
  · rename_i k m k' n hbx hby
    rw [hbx] at rx; rw [hby] at ry
    generalize hv : a.eval x = v at rx
    generalize hv' : a.eval y = v' at ry
    split at e
    · rename_i hcond
      obtain ⟨c1, c2, c3, c4, c5, c6, c7⟩ := hcond
      simp at e; obtain ⟨rfl, rfl⟩ := e
      cases rx; cases ry
      obtain ⟨i, zv, hi, hzv, g1, g2, g3⟩ := tZero_ok hz
      have hib : i.bytes = bytes := by simp [tBytes, hi] at hb; exact hb
      have his : i.size = sz := by simp [tSize, hi] at hs; exact hs
      have hmn : m.toNat * sz ≤ n.toNat * sz := Nat.mul_le_mul_right _ (by omega)
      generalize harr : (Array.range (n.toNat * sz)).map ((if n.toNat * sz = 0 then #[] else zv.cells)[· % (if n.toNat * sz = 0 then #[] else zv.cells).size]!) = arr
      have hsize : arr.size = n.toNat * sz := by rw [← harr]; simp
      have hrel : ∀ (k : Nat) (c : Value) (x : AVal), arr[k]? = some c → (repl m.toNat z)[k]? = some x → VRel w G c x := by
        intro k c x hk hx
        by_cases h0 : n.toNat * sz = 0
        · have : k < arr.size := (Array.getElem?_eq_some_iff.1 hk).1
          omega
        · rw [← harr] at hk
          simp only [h0, if_false] at hk
          have hlt : k < (repl m.toNat z).length := (List.getElem?_eq_some_iff.1 hx).1
          rw [repl_len] at hlt
          refine zero_pts (w := w) (G := G) g1 (g3 w G) (n.toNat * sz) n.toNat (by rw [c5]; exact Nat.le_refl _) k c x hk ?_
          rw [repl_get _ _ _ hlt] at hx
          rw [repl_get _ _ _ (by rw [c5] at hlt ⊢; omega)]; exact hx
      have hone : ∀ x ∈ repl m.toNat z, x.one = true := by
        intro x hx
        simp only [repl, List.mem_flatten, List.mem_replicate] at hx
        obtain ⟨l, ⟨_, rfl⟩, hx⟩ := hx
        exact g2 x hx
      obtain ⟨x1, x2, x3, x4, x5⟩ := new_row H arr el sz ag (repl m.toNat z) (by rw [repl_len, c5, hsize]; exact hmn) hrel hone (small_ty c7)
      refine ⟨.slice (some ⟨w.heap.size, 0, none⟩) m.toNat n.toNat, _, _, .inl ?_, x1, x2, ?_⟩
      · have w1 := wrap_in (x := m) (by omega) (by omega)
        have w2 := wrap_in (x := n) (by omega) (by omega)
        have t1 : ¬ (281474976710656 < (bytes : Int) * n) := by omega
        have t2 : ¬ (n < 0) := by omega
        have t3 : ¬ (m < 0) := by omega
        have t4 : ¬ (n < m) := by omega
        simp only [execOp, hop, hv, hv', Instr.makeSlice, Sem.run_bind, run_underlying ht, Result.andThen_ok, asInt, asIntOf, Sem.run_pure, typeInfo, run_program, hi, hib, w1, w2]
        simp only [gt_iff_lt, t2, t3, t4, decide_false, Bool.false_or, Bool.or_false, Bool.or_self, show (2 : Int) ^ 48 = 281474976710656 from rfl, t1, Bool.false_eq_true, if_false, run_sizeOf' hs, run_askRoom, Sem.run_bind, Result.andThen_ok, Sem.run_ite]
        subst harr
        by_cases h0 : n.toNat * sz = 0
        · simp [h0, newRow]
        · simp [h0, newRow, run_zeroValue' hi hzv]
      · have := VRel.ref (w := w.alloc (.cells arr el)) (G := G.new w.heap.size 0 (some 0)) h.next 0 m.toNat sz n.toNat x4 (by omega) ⟨el, arr.size, by rw [x3]; exact x5, by omega⟩
        rwa [x3] at this
    · simp at e
  · simp at e
end
end Go.Abs
