/-
  Merged from AbsOp5 AbsOp6 AbsOp7 AbsOp8 AbsDisp AbsBeq AbsDraw AbsPerm: One operation of the model does what the abstract machine says: slices that are made, appended to, copied.
-/
import Derived.Test.YtjofjgflcogklaaGreatDoorM00
import Derived.IntWalk
import Derived.Laws.IdiomStrings
import Derived.Laws.BytesArg
set_option linter.unusedSimpArgs false
set_option linter.unusedVariables false
set_option linter.defProp false
set_option linter.constructorNameAsVariable false
/-
  One operation of the model does what the abstract machine says: slices that are made, appended to, copied.
-/
namespace Go.Abs
section
variable {P : Program} {o : Oper} {a : Act} {w : World} {G : Ghost} {h : Heap} {c : Operand → Option Opd} {ev : Opd → AVal} {r : AVal} {h' : Heap}
theorem lit_run (hc : Ops a w G c ev) {t el : TypeId} {n sz : Nat} {z cs : List AVal} {ps : Array (Nat × Operand)} {qs : List (Nat × Opd)} (ht : P.underlying t = some (.slice el)) (hs : tSize P el = some sz) (hz : tZero P el = some z)
    (hp : compParts c ps.toList = some qs) (hop : o.op = .buildSlice t n ps) (hzl : z.length = sz) (hsm : n * sz ≤ 16777216)
    (e : fillA (repl n z) (qs.map fun p => (p.1 * sz, sz, ev p.2)) = some cs) :
    ∃ cs', (execOp a.eval o).run P w = .ok (.value (.slice (some ⟨w.heap.size, 0, none⟩) n n)) (w.alloc (.cells cs' el)) ∧ Pts w G cs' cs ∧ (∀ x ∈ cs, x.one = true) ∧ cs.length = n * sz := by
  obtain ⟨i, v, hi, hv, h1, h2, h3⟩ := tZero_ok hz
  obtain ⟨p1, p2⟩ := parts_ok hc hp
  have hone : ∀ x ∈ repl n z, x.one = true := by
    intro x hx
    simp only [repl, List.mem_flatten, List.mem_replicate] at hx
    obtain ⟨l, ⟨_, rfl⟩, hx⟩ := hx
    exact h2 x hx
  have hinit : Pts w G ((Array.range (n * sz)).map ((if n * sz = 0 then #[] else v.cells)[· % (if n * sz = 0 then #[] else v.cells).size]!)) (repl n z) := by
    by_cases h0 : n * sz = 0
    · refine ⟨by simp [h0, repl_len, hzl], fun k c x hk hx => ?_⟩
      rw [h0] at hk
      simp at hk
    · simp only [h0, if_false]
      exact ⟨by simp [repl_len, hzl], zero_pts h1 (h3 w G) _ _ (by rw [hzl]; exact Nat.le_refl _)⟩
  obtain ⟨cs', g1, g2, g3, g4⟩ := fill_ok (w := w) (G := G) (plc := fun i => some (i * sz, sz)) (ps := (ps.map fun (p : Nat × Operand) => (p.1, a.eval p.2)).toList) (qs := qs.map fun p => (p.1 * sz, sz, ev p.2)) (as' := cs)
    (by simp [← p1]) (fun k p q hp' hq' => by
      simp only [Array.toList_map, List.getElem?_map, Option.map_eq_some_iff] at hp' hq'
      obtain ⟨p0, hp0, rfl⟩ := hp'
      obtain ⟨q0, hq0, rfl⟩ := hq'
      obtain ⟨e1, e2⟩ := p2 k p0 q0 hp0 hq0
      exact ⟨by rw [e1], e2⟩) hinit hone e
  refine ⟨cs', ?_, g2, g3, by rw [g4, repl_len, hzl]⟩
  have hbig : ¬ (n * sz > 2 ^ 24) := by omega
  simp only [execOp, hop, Instr.buildSlice, Sem.run_bind, run_underlying ht, Result.andThen_ok, run_sizeOf' hs, if_neg hbig, Sem.run_pure, Sem.run_ite]
  generalize harr : (Array.range (n * sz)).map ((if n * sz = 0 then #[] else v.cells)[· % (if n * sz = 0 then #[] else v.cells).size]!) = ini at g1
  by_cases h0 : n * sz = 0
  · simp only [if_pos h0] at harr
    rw [if_pos h0, harr, g1]
    simp [newRow]
  · simp only [if_neg h0] at harr
    rw [if_neg h0, run_zeroValue' hi hv, Result.andThen_ok, harr, g1]
    simp [newRow]
theorem new_free (H : HRel w G h) {arr : Array Value} {el : TypeId} {xs : List AVal} {sz cap : Nat} (h0 : ∀ x ∈ xs, x.cells.length = sz) (hr : ∀ (k : Nat) (x : AVal), (flat xs)[k]? = some x → ∃ u, arr[k]? = some u ∧ VRel w G u x)
    (h4 : ∀ x ∈ flat xs, x.one = true) (h5 : ∀ x ∈ flat xs, strip x = some x) (hcap : xs.length ≤ cap) :
    ∃ G', Ext w G h (w.alloc (.cells arr el)) G' h ∧ HRel (w.alloc (.cells arr el)) G' h ∧ VRel (w.alloc (.cells arr el)) G' (.slice (some ⟨w.heap.size, 0, none⟩) xs.length cap) (.sl xs .none) := by
  have hX := Ext.alloc_free (w := w) (G := G) (h := h) arr el
  refine ⟨_, hX, HRel.alloc_free H arr el, .sl w.heap.size 0 cap sz xs .none (fun k => (arr[k]?).getD (.bool false)) h0 (fun k x hk => ?_) (fun k x hk => ?_) (fun k hk m hm => ?_) h4 h5 hcap (by simp) (by simp)⟩
  · obtain ⟨u, hu, _⟩ := hr k x hk
    rw [Nat.zero_add, World.cell?_alloc_new, hu]; rfl
  · obtain ⟨u, hu, hv⟩ := hr k x hk
    rw [hu]; exact hv.mono hX
  · simp at hm
theorem new_tok (H : HRel w G h) {arr : Array Value} {el : TypeId} {xs : List AVal} {sz cap : Nat} (h0 : ∀ x ∈ xs, x.cells.length = sz) (hr : ∀ (k : Nat) (x : AVal), (flat xs)[k]? = some x → ∃ u, arr[k]? = some u ∧ VRel w G u x)
    (h4 : ∀ x ∈ flat xs, x.one = true) (h5 : ∀ x ∈ flat xs, strip x = some x) (hcap : xs.length ≤ cap) (hsz : cap * sz ≤ arr.size) :
    ∃ G', Ext w G h (w.alloc (.cells arr el)) G' (h.push (.tok el)) ∧ HRel (w.alloc (.cells arr el)) G' (h.push (.tok el)) ∧ VRel (w.alloc (.cells arr el)) G' (.slice (some ⟨w.heap.size, 0, none⟩) xs.length cap) (.sl xs (.own h.next sz)) := by
  have hX := Ext.alloc_obj H arr el (xs.length * sz) (some (xs.length * sz)) (.tok el)
  have hsh : (w.alloc (.cells arr el)).shape? w.heap.size = some (el, arr.size) := by
    unfold World.shape?; rw [heap_alloc_new]
  have hfl := flat_len h0
  have hle : xs.length * sz ≤ arr.size := Nat.le_trans (Nat.mul_le_mul_right _ hcap) hsz
  refine ⟨_, hX, HRel.alloc_obj H arr el _ _ (.tok el) ?_, .sl w.heap.size 0 cap sz xs (.own h.next sz) (fun k => (arr[k]?).getD (.bool false)) h0 (fun k x hk => ?_) (fun k x hk => ?_) (fun k hk m hm => ?_) h4 h5 hcap (by simp) (fun id s hs => ?_)⟩
  · unfold OkObj
    simp only [Ghost.new, if_true]
    refine ⟨trivial, ⟨arr.size, hsh, hle⟩, ?_⟩
    unfold fzr; rw [heap_alloc_new]; simp
  · obtain ⟨u, hu, _⟩ := hr k x hk
    rw [Nat.zero_add, World.cell?_alloc_new, hu]; rfl
  · obtain ⟨u, hu, hv⟩ := hr k x hk
    rw [hu]; exact hv.mono hX
  · simp [Ghost.new] at hm
    omega
  · simp only [Tok.own.injEq] at hs
    obtain ⟨rfl, rfl⟩ := hs
    refine ⟨rfl, rfl, by simp [Ghost.new, H.n_eq], by simp [Ghost.new, H.n_eq], by simp [Ghost.new, H.n_eq], el, arr.size, hsh, by omega⟩
theorem strip_chunk {cs cs' xs : List AVal} {sz n : Nat} {ag : Bool} {arr : Array Value} {off : Nat} (hst : stripL cs = some cs') (hch : chunk sz ag n cs' = some xs) (hone : ∀ x ∈ cs, x.one = true) (hl : cs.length = n * sz)
    (hr : ∀ (k : Nat) (x : AVal), cs[k]? = some x → ∃ u, arr[off + k]? = some u ∧ VRel w G u x) :
    xs.length = n ∧ (∀ x ∈ xs, x.cells.length = sz) ∧ flat xs = cs' ∧ (∀ x ∈ flat xs, x.one = true) ∧ (∀ x ∈ flat xs, strip x = some x) ∧ (∀ (k : Nat) (x : AVal), (flat xs)[k]? = some x → ∃ u, arr[off + k]? = some u ∧ VRel w G u x) := by
  have hk := stripL_ok hst
  have hone' := stripL_one hst hone
  obtain ⟨c1, c2, c3, c4⟩ := chunk_ok hch hone'
  have hf : flat xs = cs' := by rw [c2]; exact List.take_of_length_le (by rw [← hk.1, hl]; exact Nat.le_refl _)
  refine ⟨c1, c3, hf, by rw [hf]; exact hone', fun x hx => ?_, fun k x hx => ?_⟩
  · rw [hf] at hx
    obtain ⟨k, hk'⟩ := mem_get hx
    obtain ⟨y, hy, hy'⟩ := back_get hk hk'
    obtain ⟨u, _, hu⟩ := hr k y hy
    exact hu.strip_strip hy'
  · rw [hf] at hx
    obtain ⟨y, hy, hy'⟩ := back_get hk hx
    obtain ⟨u, hu, hv⟩ := hr k y hy
    exact ⟨u, hu, hv.strip_to (fun _ _ h => h) hy'⟩
theorem freeze_ok : ∀ {ids : List Nat} {G : Ghost} {h h1 : Heap}, HRel w G h → freeze h ids = some h1 →
    ∃ G1, Ext w G h w G1 h1 ∧ HRel w G1 h1 ∧ (∀ b k, stab G b k → stab G1 b k) ∧ (∀ id ∈ ids, ∀ k, stab G1 (G.loc id) k) ∧ (∀ b, G.lim b = none → G1.lim b = none) ∧ G1.loc = G.loc
  | [], G, h, h1, H, e => by simp [freeze] at e; subst e; exact ⟨G, Ext.refl _ _ _, H, fun _ _ hh => hh, by simp, fun _ hh => hh, rfl⟩
  | id :: ids, G, h, h1, H, e => by
    simp only [freeze] at e
    split at e
    · rename_i mu s ag cs hg
      have ht : Turned w G (G.loc id) w none := Turned.same (by simp)
      have hX := Ext.update hg ht (some (.row false s ag cs))
      have hst : ∀ b k, stab G b k → stab (G.at (G.loc id) none) b k := fun b k hk m hm => by
        by_cases eb : b = G.loc id
        · subst eb; simp [Ghost.at] at hm
        · simp [Ghost.at, eb] at hm; exact hk m hm
      have H1 := HRel.update H hg ht (some (.row false s ag cs)) (fun o ho => by
        obtain rfl := Option.some.inj ho
        obtain ⟨g1, g2, g3, g4, g5⟩ := H.obj id _ hg
        have hloc : (G.at (G.loc id) none).loc id = G.loc id := rfl
        unfold OkObj
        rw [hloc]
        exact ⟨by simp [Ghost.at], fun k x hk => (g2 k x hk).imp fun u hu => ⟨hu.1, hu.2.mono hX⟩, g3, g4, by simp⟩)
      obtain ⟨G1, x1, x2, x3, x4, x5, x6⟩ := freeze_ok H1 e
      refine ⟨G1, hX.trans x1, x2, fun b k hk => x3 b k (hst b k hk), fun j hj k => ?_, fun b hb => x5 b ?_, x6⟩
      · rcases List.mem_cons.1 hj with rfl | hj
        · intro m hm
          have := x5 (G.loc j) (by simp [Ghost.at])
          rw [this] at hm; simp at hm
        · exact x4 j hj k
      · simp only [Ghost.at]; split
        · rfl
        · exact hb
    · simp at e
theorem op_lit (H : HRel w G h) (hc : Ops a w G c ev) {t el : TypeId} {mode n sz : Nat} {ag : Bool} {z : List AVal} {ps : Array (Nat × Operand)} {qs : List (Nat × Opd)} (ht : P.underlying t = some (.slice el)) (hs : tSize P el = some sz) (hz : tZero P el = some z)
    (hp : compParts c ps.toList = some qs) (hop : o.op = .buildSlice t n ps)
    (e : evalA (.lit mode el n sz ag z qs) ev h = some (r, h')) : OpRes P o a w G h r h' := by
  simp only [evalA] at e
  split at e
  · rename_i cs hfill
    split at e
    · simp at e
    · rename_i hcond
      simp only [Bool.not_eq_true, Bool.not_eq_false', Bool.and_eq_true, decide_eq_true_eq] at hcond
      obtain ⟨⟨⟨hzl, hzo⟩, hsm⟩, hsml⟩ := hcond
      obtain ⟨arr, hrun, hpts, hone, hlen⟩ := lit_run (P := P) (o := o) hc ht hs hz hp hop hzl hsm hfill
      have hrel : ∀ (k : Nat) (x : AVal), cs[k]? = some x → ∃ u, arr[0 + k]? = some u ∧ VRel w G u x := fun k x hk => by
        rw [Nat.zero_add]
        obtain ⟨u, hu⟩ : ∃ u, arr[k]? = some u := ⟨_, Array.getElem?_eq_getElem (by rw [hpts.len]; exact (List.getElem?_eq_some_iff.1 hk).1)⟩
        exact ⟨u, hu, hpts.rel k u x hu hk⟩
      split at e
      · simp at e; obtain ⟨rfl, rfl⟩ := e
        obtain ⟨x1, x2, x3, x4, x5⟩ := new_row H arr el sz ag cs (Nat.le_of_eq hpts.len.symm) hpts.rel hone (small_ty hsml)
        refine ⟨_, _, _, .inl hrun, x1, x2, ?_⟩
        have := VRel.ref (w := w.alloc (.cells arr el)) (G := G.new w.heap.size 0 (some 0)) h.next 0 n sz n x4 (Nat.le_refl _) ⟨el, arr.size, by rw [x3]; exact x5, by rw [hpts.len, hlen]; omega⟩
        rwa [x3] at this
      · split at e
        · split at e
          · rename_i cs1 h1 hpur hfrz
            split at e
            · simp at e
            · rename_i xs hch
              simp at e; obtain ⟨rfl, rfl⟩ := e
              obtain ⟨G1, y1, y2, y3, y4, _, _⟩ := freeze_ok H hfrz
              have hk := purifyL_ok hpur
              have hone1 := purifyL_one hpur hone
              have hvr : ∀ (k : Nat) (x : AVal), cs1[k]? = some x → ∃ u, arr[k]? = some u ∧ VRel w G1 u x ∧ strip x = some x := fun k x hk' => by
                obtain ⟨y, hy, hy'⟩ := back_get hk hk'
                obtain ⟨u, hu, hv⟩ := hrel k y hy
                rw [Nat.zero_add] at hu
                exact ⟨u, hu, hv.purify_to H y3 (fun id hid => y4 id (refIdsL_mem hy hid)) hy', hv.purify_strip hy'⟩
              obtain ⟨c1, c2, c3, c4⟩ := chunk_ok hch hone1
              have hf : flat xs = cs1 := by rw [c2]; exact List.take_of_length_le (by rw [← hk.1, hlen]; exact Nat.le_refl _)
              obtain ⟨G', z1, z2, z3⟩ := new_free y2 (arr := arr) (el := el) (xs := xs) (sz := sz) (cap := n) c3 (fun k x hk' => by rw [hf] at hk'; obtain ⟨u, hu, hv, _⟩ := hvr k x hk'; exact ⟨u, hu, hv⟩) (by rw [hf]; exact hone1)
                (fun x hx => by rw [hf] at hx; obtain ⟨k, hk'⟩ := mem_get hx; exact (hvr k x hk').choose_spec.2.2) (Nat.le_of_eq c1)
              rw [c1] at z3
              exact ⟨_, _, G', .inl hrun, y1.trans z1, z2, z3⟩
          · simp at e
        · split at e
          · simp at e
          · rename_i cs1 hst
            split at e
            · simp at e
            · rename_i xs hch
              obtain ⟨c1, c2, c3, c4, c5, c6⟩ := strip_chunk (w := w) (G := G) (arr := arr) (off := 0) hst hch hone hlen hrel
              have c6' : ∀ (k : Nat) (x : AVal), (flat xs)[k]? = some x → ∃ u, arr[k]? = some u ∧ VRel w G u x := fun k x hk => by simpa using c6 k x hk
              split at e
              · simp at e; obtain ⟨rfl, rfl⟩ := e
                obtain ⟨G', z1, z2, z3⟩ := new_tok H (arr := arr) (el := el) (xs := xs) (sz := sz) (cap := n) c2 c6' c4 c5 (Nat.le_of_eq c1) (by rw [hpts.len, hlen]; exact Nat.le_refl _)
                rw [c1] at z3
                exact ⟨_, _, G', .inl hrun, z1, z2, z3⟩
              · simp at e; obtain ⟨rfl, rfl⟩ := e
                obtain ⟨G', z1, z2, z3⟩ := new_free H (arr := arr) (el := el) (xs := xs) (sz := sz) (cap := n) c2 c6' c4 c5 (Nat.le_of_eq c1)
                rw [c1] at z3
                exact ⟨_, _, G', .inl hrun, z1, z2, z3⟩
  · simp at e
theorem wrap_in {x : Int} (h0 : 0 ≤ x) (h1 : x < 9223372036854775808) : IntKind.i64.wrap x = x := IntWalk.i64_in x (by omega)
theorem op_mksl (H : HRel w G h) (hc : Ops a w G c ev) {x y : Operand} {x' y' : Opd} {t el : TypeId} {bytes sz : Nat} {ag : Bool} {z : List AVal} (hx : c x = some x') (hy : c y = some y') (ht : P.underlying t = some (.slice el)) (hb : tBytes P el = some bytes)
    (hs : tSize P el = some sz) (hz : tZero P el = some z) (hop : o.op = .makeSlice t x y) (e : evalA (.mksl bytes sz ag z x' y') ev h = some (r, h')) : OpRes P o a w G h r h' := by
  have rx := hc _ _ hx
  have ry := hc _ _ hy
  simp only [evalA] at e
  split at e
  · rename_i k m k' n hbx hby
    rw [hbx] at rx; rw [hby] at ry
    generalize hv : a.eval x = v at rx
    generalize hv' : a.eval y = v' at ry
    split at e
    · rename_i hcond
      obtain ⟨c1, c2, c3, c4, c5, c6, c7⟩ := hcond
      simp at e; obtain ⟨rfl, rfl⟩ := e
      cases rx; cases ry
      obtain ⟨i, zv, hi, hzv, g1, g2, g3⟩ := tZero_ok hz
      have hib : i.bytes = bytes := by simp [tBytes, hi] at hb; exact hb
      have his : i.size = sz := by simp [tSize, hi] at hs; exact hs
      have hmn : m.toNat * sz ≤ n.toNat * sz := Nat.mul_le_mul_right _ (by omega)
      generalize harr : (Array.range (n.toNat * sz)).map ((if n.toNat * sz = 0 then #[] else zv.cells)[· % (if n.toNat * sz = 0 then #[] else zv.cells).size]!) = arr
      have hsize : arr.size = n.toNat * sz := by rw [← harr]; simp
      have hrel : ∀ (k : Nat) (c : Value) (x : AVal), arr[k]? = some c → (repl m.toNat z)[k]? = some x → VRel w G c x := by
        intro k c x hk hx
        by_cases h0 : n.toNat * sz = 0
        · have : k < arr.size := (Array.getElem?_eq_some_iff.1 hk).1
          omega
        · rw [← harr] at hk
          simp only [h0, if_false] at hk
          have hlt : k < (repl m.toNat z).length := (List.getElem?_eq_some_iff.1 hx).1
          rw [repl_len] at hlt
          refine zero_pts (w := w) (G := G) g1 (g3 w G) (n.toNat * sz) n.toNat (by rw [c5]; exact Nat.le_refl _) k c x hk ?_
          rw [repl_get _ _ _ hlt] at hx
          rw [repl_get _ _ _ (by rw [c5] at hlt ⊢; omega)]; exact hx
      have hone : ∀ x ∈ repl m.toNat z, x.one = true := by
        intro x hx
        simp only [repl, List.mem_flatten, List.mem_replicate] at hx
        obtain ⟨l, ⟨_, rfl⟩, hx⟩ := hx
        exact g2 x hx
      obtain ⟨x1, x2, x3, x4, x5⟩ := new_row H arr el sz ag (repl m.toNat z) (by rw [repl_len, c5, hsize]; exact hmn) hrel hone (small_ty c7)
      refine ⟨.slice (some ⟨w.heap.size, 0, none⟩) m.toNat n.toNat, _, _, .inl ?_, x1, x2, ?_⟩
      · have w1 := wrap_in (x := m) (by omega) (by omega)
        have w2 := wrap_in (x := n) (by omega) (by omega)
        have t1 : ¬ (281474976710656 < (bytes : Int) * n) := by omega
        have t2 : ¬ (n < 0) := by omega
        have t3 : ¬ (m < 0) := by omega
        have t4 : ¬ (n < m) := by omega
        simp only [execOp, hop, hv, hv', Instr.makeSlice, Sem.run_bind, run_underlying ht, Result.andThen_ok, asInt, asIntOf, Sem.run_pure, typeInfo, run_program, hi, hib, w1, w2]
        simp only [gt_iff_lt, t2, t3, t4, decide_false, Bool.false_or, Bool.or_false, Bool.or_self, show (2 : Int) ^ 48 = 281474976710656 from rfl, t1, Bool.false_eq_true, if_false, run_sizeOf' hs, run_askRoom, Sem.run_bind, Result.andThen_ok, Sem.run_ite]
        subst harr
        by_cases h0 : n.toNat * sz = 0
        · simp [h0, newRow]
        · simp [h0, newRow, run_zeroValue' hi hzv]
      · have := VRel.ref (w := w.alloc (.cells arr el)) (G := G.new w.heap.size 0 (some 0)) h.next 0 m.toNat sz n.toNat x4 (by omega) ⟨el, arr.size, by rw [x3]; exact x5, by omega⟩
        rwa [x3] at this
    · simp at e
  · simp at e
end
end Go.Abs

namespace Go.Abs
section
variable {P : Program} {o : Oper} {a : Act} {w : World} {G : Ghost} {h : Heap} {c : Operand → Option Opd} {ev : Opd → AVal} {r : AVal} {h' : Heap}
structure Elems (P : Program) (w : World) (G : Ghost) (sz : Nat) (yv : Value) (m : Nat) (newsA : List AVal) (news : List Value) : Prop where
  lenOf : (Builtin.lenOf yv).run P w = .ok m w
  first : ∀ (w' : World) (n : Nat), w'.heap = w.heap → n ≤ m → (Builtin.firstCells sz n yv).run P w' = .ok (news.take (n * sz)).toArray w'
  len : news.length = m * sz
  lenA : newsA.length = m * sz
  rel : ∀ (k : Nat) (v : Value) (x : AVal), news[k]? = some v → newsA[k]? = some x → VRel w G v x
  one : ∀ x ∈ newsA, x.one = true
theorem Elems.one' {sz m : Nat} {yv : Value} {newsA : List AVal} {news : List Value} (E : Elems P w G sz yv m newsA news) : ∀ v ∈ news, v.oneCell' = true := by
  intro v hv
  obtain ⟨k, hk⟩ := mem_get hv
  obtain ⟨x, hx⟩ : ∃ x, newsA[k]? = some x := ⟨_, List.getElem?_eq_getElem (by rw [E.lenA, ← E.len]; exact (List.getElem?_eq_some_iff.1 hk).1)⟩
  exact ((E.rel k v x hk hx).one (E.one x (List.mem_of_getElem? hx))).1
theorem elems_cells {sz m cp b off : Nat} {newsA : List AVal} (hC : CellsAt w G b off newsA) (hl : newsA.length = m * sz) (hone : ∀ x ∈ newsA, x.one = true) : ∃ news, Elems P w G sz (.slice (some ⟨b, off, none⟩) m cp) m newsA news := by
  obtain ⟨vs, e1, e2, e3⟩ := hC.vals
  refine ⟨vs, by simp [Builtin.lenOf], fun w' n hw hn => ?_, by rw [e1, hl], hl, e3, hone⟩
  have hlt : (vs.take (n * sz)).length = n * sz := by
    rw [List.length_take, e1, hl]; exact Nat.min_eq_left (Nat.mul_le_mul_right _ hn)
  refine run_firstCells_some w' sz n ⟨b, off, none⟩ m cp (vs.take (n * sz)) hlt (fun j v hj => ?_)
  rw [List.getElem?_take] at hj
  split at hj
  · have := e2 j v hj
    rw [Addr.add_lit]
    simpa [World.cell?, hw] using this
  · simp at hj
theorem elems_ok (H : HRel w G h) {sz m : Nat} {y : AVal} {yv : Value} {newsA : List AVal} (ry : VRel w G yv y) (hm : lenA y = some m) (hn : elemsA h sz y = some newsA) : ∃ news, Elems P w G sz yv m newsA news := by
  unfold elemsA at hn
  split at hn
  · rename_i ys tk
    simp [lenA] at hm; subst hm
    split at hn
    · rename_i hhead
      obtain rfl := Option.some.inj hn
      cases ry with
      | nilsl => exact ⟨[], by simp [Builtin.lenOf], fun w' n _ hn => by simp [Builtin.firstCells], by simp, by simp [flat], by simp, by simp [flat]⟩
      | emp => exact ⟨[], by simp [Builtin.lenOf], fun w' n _ hn => by (obtain rfl : n = 0 := by simpa using hn); simp [Builtin.firstCells, loadCells, loadCellsFrom], by simp, by simp [flat], by simp, by simp [flat]⟩
      | sl b off cap sz0 _ _ u h0 h1 h2 h3 h4 h5 hcp hnn ho =>
        refine elems_cells (fun k x hk => ⟨u k, h1 k x hk, h2 k x hk⟩) ?_ h4
        cases ys with
        | nil => simp [flat]
        | cons y ys =>
          have := flat_len h0
          rw [this, ← h0 y (by simp), hhead y rfl]
    · simp at hn
  · rename_i id off len s
    simp [lenA] at hm; subst hm
    split at hn
    · rename_i hs
      subst hs
      split at hn
      · rename_i mu s' ag' cs hg
        split at hn
        · rename_i hb
          obtain rfl := Option.some.inj hn
          obtain ⟨_, h2, h3, _, _⟩ := H.obj id _ hg
          have hone : ∀ x ∈ (cs.drop off).take (len * s), x.one = true := fun x hx => h3 x (List.mem_of_mem_drop (List.mem_of_mem_take hx))
          have hl : ((cs.drop off).take (len * s)).length = len * s := by simp; omega
          cases ry with
          | ref0 _ _ _ b bo hid => exact elems_cells (m := 0) (by intro k x hk; simp at hk) (by simp) (by simp)
          | ref _ _ _ _ cap hid hcp hsh =>
            refine elems_cells ?_ hl hone
            have hC : CellsAt w G (G.loc id) 0 cs := fun k x hk => by simpa using h2 k x hk
            have := (hC.drop off).take (len * s)
            rwa [Nat.zero_add] at this
        · simp at hn
      · simp at hn
    · simp at hn
  · rename_i s
    simp [lenA] at hm; subst hm
    split at hn
    · rename_i hs
      subst hs
      obtain rfl := Option.some.inj hn
      cases ry with
      | str s =>
        have hsz : s.data.toList.length = s.size := rfl
        refine ⟨s.data.toList.map fun b => .int .u8 b.toNat, by simp [Builtin.lenOf], fun w' n _ hn => ?_, by simp, by simp, fun k v x hv hx => ?_, fun x hx => ?_⟩
        · simp only [Builtin.firstCells, Sem.run_pure, Nat.mul_one]
          congr 1
          apply Array.ext'
          simp only [Array.toList_map, ByteArray.data_extract, Array.toList_extract, List.extract_eq_take_drop, List.drop_zero, Nat.sub_zero, List.toList_toArray, List.map_take]
        · simp only [List.getElem?_map, Option.map_eq_some_iff] at hv hx
          obtain ⟨b, hb, rfl⟩ := hv
          obtain ⟨b', hb', rfl⟩ := hx
          rw [hb] at hb'; obtain rfl := Option.some.inj hb'
          exact .int _ _
        · simp only [List.mem_map] at hx
          obtain ⟨b, _, rfl⟩ := hx; rfl
    · simp at hn
  · simp at hn
def appendable (P : Program) (u : TypeId) : Prop := (∃ e, P.underlying u = some (.slice e)) ∨ P.underlying u = some .string
theorem run_append_same {t u ty el : TypeId} {sz bb oo len cap : Nat} {yv : Value} {newsA : List AVal} {news : List Value} {m : Nat} (ht : P.underlying t = some (.slice el)) (hu : appendable P u) (hs : tSize P el = some sz) (E : Elems P w G sz yv m newsA news)
    (hroom : len + m ≤ cap) {w1 : World} (hst : (storeCells ⟨bb, oo + len * sz, none⟩ news 0).run P w = .ok () w1) :
    (Builtin.append_ #[t, u] ty #[.slice (some ⟨bb, oo, none⟩) len cap, yv]).run P w = .ok (.slice (some ⟨bb, oo, none⟩) (len + m) cap) w1 := by
  have hf := E.first w m rfl (Nat.le_refl _)
  rw [List.take_of_length_le (by rw [E.len]; exact Nat.le_refl _)] at hf
  rcases hu with ⟨e, hu⟩ | hu <;> simp [Builtin.append_, run_underlying ht, run_underlying hu, run_sizeOf' hs, E.lenOf, hroom, hf, Addr.add_lit, hst]
theorem run_append_none {t u ty el : TypeId} {sz len cap : Nat} {b : Option Addr} {yv : Value} {newsA : List AVal} {news : List Value} (ht : P.underlying t = some (.slice el)) (hu : appendable P u) (hs : tSize P el = some sz) (E : Elems P w G sz yv 0 newsA news)
    (hc : len ≤ cap) : (Builtin.append_ #[t, u] ty #[.slice b len cap, yv]).run P w = .ok (.slice b len cap) w := by
  have hf := E.first w 0 rfl (Nat.le_refl _)
  simp only [Nat.zero_mul, List.take_zero] at hf
  cases b <;> (rcases hu with ⟨e, hu⟩ | hu <;> simp [Builtin.append_, run_underlying ht, run_underlying hu, run_sizeOf' hs, E.lenOf, hc, hf, storeCells])
theorem run_append_grow' {t u ty el : TypeId} {sz bytes len cap m : Nat} {b : Option Addr} {yv zv : Value} {i : TypeInfo} {newsA : List AVal} {news olds : List Value} (ht : P.underlying t = some (.slice el)) (hu : appendable P u) (hs : tSize P el = some sz)
    (hi : P.info? el = some i) (hz : i.zero = some zv) (hb : i.bytes = bytes) (E : Elems P w G sz yv m newsA news) (hgr : cap < len + m)
    (hold : ∀ w' : World, w'.heap = w.heap → (Builtin.firstCells sz len (.slice b len cap)).run P w' = .ok olds.toArray w') (hroom : roomOk (len + m) bytes = true) :
    (Builtin.append_ #[t, u] ty #[.slice b len cap, yv]).run P w = .ok (.slice (some ⟨w.heap.size, 0, none⟩) (len + m) (grownCap w (len + m) cap el))
      (w.drew.alloc (.cells (olds.toArray ++ news.toArray ++ Builtin.zeroCells zv.cells (grownCap w (len + m) cap el - (len + m))) el)) := by
  have hn : ¬ (len + m ≤ cap) := by omega
  have hf := E.first w.drew m rfl (Nat.le_refl _)
  rw [List.take_of_length_le (by rw [E.len]; exact Nat.le_refl _)] at hf
  have ho := hold w.drew rfl
  simp only [roomOk, Bool.and_eq_true, decide_eq_true_eq] at hroom
  have h63' : ¬ (9223372036854775807 < ((len : Int) + (m : Int))) := by omega
  have h48' : ¬ (281474976710656 < Builtin.nextslicecap (len + m) cap * bytes) := by
    have h1 := nextslicecap_le hgr
    have h2 : Builtin.nextslicecap (len + m) cap * bytes ≤ (4 * (len + m) + 1024) * bytes := Nat.mul_le_mul_right _ (by omega)
    omega
  rcases hu with ⟨e, hu⟩ | hu <;> simp [Builtin.append_, run_underlying ht, run_underlying hu, run_sizeOf' hs, typeInfo, zeroValue, hi, hz, hb, E.lenOf, hn, h63', h48', Question.forced, hf, ho, newRow, grownCap] <;> (congr 2; apply Array.ext'; simp [List.append_assoc])
theorem kill_ok (H : HRel w G h) {id : Nat} {ob : Obj} (hg : h.get id = some ob) : ∃ G1, Ext w G h w G1 (h.put id none) ∧ HRel w G1 (h.put id none) ∧ (∀ b k, stab G b k → stab G1 b k) ∧ G1.n = G.n := by
  have ht : Turned w G (G.loc id) w (G.lim (G.loc id)) := Turned.same (fun k hk m hm => hk m hm)
  refine ⟨_, Ext.update hg ht none, HRel.update H hg ht none (by simp), fun b k hk m hm => ?_, rfl⟩
  by_cases eb : b = G.loc id
  · subst eb; simp [Ghost.at] at hm; exact hk m hm
  · simp [Ghost.at, eb] at hm; exact hk m hm
theorem arr_get {olds news : List Value} {tl : Array Value} {k : Nat} {v : Value} (h : (olds ++ news)[k]? = some v) : (olds.toArray ++ news.toArray ++ tl)[k]? = some v := by
  have hlt : k < (olds ++ news).length := (List.getElem?_eq_some_iff.1 h).1
  rw [Array.getElem?_append_left (by simpa using hlt)]
  simpa using h
theorem room_le {k cap : Nat} (s : Nat) (h : k ≤ cap) : cap * s ≤ k * s + (cap - k) * s := by
  rw [← Nat.add_mul]; exact Nat.mul_le_mul_right _ (by omega)
theorem zeroCells_size (z : Array Value) (n : Nat) : (Builtin.zeroCells z n).size = n * z.size := by simp [Builtin.zeroCells]
set_option maxHeartbeats 1600000 in
theorem op_append (H : HRel w G h) (hc : Ops a w G c ev) {arr : Bool} {x y : Operand} {x' y' : Opd} {t u el : TypeId} {bytes sz : Nat} {ag : Bool} {z : List AVal} (hx : c x = some x') (hy : c y = some y') (ht : P.underlying t = some (.slice el)) (hu : appendable P u)
    (hb : tBytes P el = some bytes) (hs : tSize P el = some sz) (hz : tZero P el = some z) (hzl : z.length = sz) (hop : o.op = .call { callee := .builtin .append, args := #[x, y], argTypes := #[t, u] })
    (e : evalA (.append arr el bytes sz ag x' y') ev h = some (r, h')) : OpRes P o a w G h r h' := by
  have rx := hc _ _ hx
  have ry := hc _ _ hy
  simp only [evalA] at e
  unfold appendA at e
  split at e
  · rename_i m newsA hm hnews
    obtain ⟨news, E⟩ := elems_ok (P := P) H ry hm hnews
    obtain ⟨i, zv, hi, hzv, g1, g2, g3⟩ := tZero_ok hz
    have hib : i.bytes = bytes := by simp [tBytes, hi] at hb; exact hb
    generalize hv : a.eval x = v at rx
    generalize hv' : a.eval y = yv at ry E
    have hexec : ∀ {res : Value} {w1 : World}, (Builtin.append_ #[t, u] o.type #[v, yv]).run P w = .ok res w1 → (execOp a.eval o).run P w = .ok (.value res) w1 := fun hr => by
      simp [execOp, hop, hv, hv', resolve, invoke, builtin, hr]
    -- the new block after a growth
    have hzs : ∀ q, (Builtin.zeroCells zv.cells q).size = q * sz := fun q => by rw [zeroCells_size, g1, hzl]
    split at e
    · rename_i hm0
      subst hm0
      split at e
      · rename_i xs tk hbx
        simp at e; obtain ⟨rfl, rfl⟩ := e
        have rx' := rx
        rw [hbx] at rx
        cases rx with
        | nilsl => exact OpRes.same H (hexec (run_append_none ht hu hs E (Nat.le_refl _))) rx'
        | emp => exact OpRes.same H (hexec (run_append_none ht hu hs E (Nat.le_refl _))) rx'
        | sl b off cap sz0 _ _ u0 h0 h1 h2 h3 h4 h5 hcp hnn ho => exact OpRes.same H (hexec (run_append_none ht hu hs E hcp)) rx'
      · rename_i id off len s hbx
        simp at e; obtain ⟨rfl, rfl⟩ := e
        have rx' := rx
        rw [hbx] at rx
        cases rx with
        | ref0 => exact OpRes.same H (hexec (run_append_none ht hu hs E (Nat.le_refl _))) rx'
        | ref _ _ _ _ cap hid hcp hsh => exact OpRes.same H (hexec (run_append_none ht hu hs E hcp)) rx'
      · simp at e
    · rename_i hm0
      split at e
      · rename_i xs tk hbx
        rw [hbx] at rx
        split at e
        · simp at e
        · rename_i hroom
          simp only [Bool.not_eq_true, Bool.not_eq_false', Bool.and_eq_true, decide_eq_true_eq] at hroom
          obtain ⟨⟨hroom, hpos⟩, hsml⟩ := hroom
          split at e
          · -- an array from nil
            have fromNil : ∀ {bo : Option Addr}, xs = [] → v = .slice bo 0 0 → OpRes P o a w G h (.ref h.next 0 m sz) (h.push (.row true sz ag newsA)) := by
                  intro bo hxs0 hveq
                  rw [hxs0] at hroom
                  subst hveq
                  have hr := run_append_grow' (P := P) (ty := o.type) (b := bo) (len := 0) (cap := 0) (olds := []) ht hu hs hi hzv hib E (by omega) (fun w' _ => by cases bo <;> simp [Builtin.firstCells, loadCells, loadCellsFrom]) hroom
                  have H1 := HRel.of_heap (w := w) (w' := w.drew) ⟨rfl, rfl, rfl, rfl⟩ H
                  have hge := grownCap_ge w (0 + m) 0 el
                  obtain ⟨x1, x2, x3, x4, x5⟩ := new_row H1 ([].toArray ++ news.toArray ++ Builtin.zeroCells zv.cells (grownCap w (0 + m) 0 el - (0 + m))) el sz ag newsA (by simp [E.len, E.lenA]) (fun k cc xx hk hx => by
                      have hlt : k < news.length := by rw [E.len, ← E.lenA]; exact (List.getElem?_eq_some_iff.1 hx).1
                      obtain ⟨v0, hv0⟩ : ∃ v0, news[k]? = some v0 := ⟨_, List.getElem?_eq_getElem hlt⟩
                      have := arr_get (olds := []) (news := news) (tl := Builtin.zeroCells zv.cells (grownCap w (0 + m) 0 el - (0 + m))) (k := k) (v := v0) (by simpa using hv0)
                      rw [hk] at this; obtain rfl := Option.some.inj this
                      exact VRel.of_heap (w := w) (w' := w.drew) ⟨rfl, rfl, rfl, rfl⟩ (E.rel k cc xx hv0 hx)) E.one (small_ty hsml)
                  refine ⟨_, _, _, .inl (hexec hr), x1.drew, x2, ?_⟩
                  have := VRel.ref (w := w.drew.alloc (.cells ([].toArray ++ news.toArray ++ Builtin.zeroCells zv.cells (grownCap w (0 + m) 0 el - (0 + m))) el)) (G := G.new w.drew.heap.size 0 (some 0)) h.next 0 (0 + m) sz (grownCap w (0 + m) 0 el) x4 hge ⟨el, _, by rw [x3]; exact x5, by
                    have hq := room_le sz hge
                    simp only [Array.size_append, List.size_toArray, hzs, E.len, List.length_nil, Nat.zero_add] at hq ⊢
                    exact hq⟩
                  rw [x3, Nat.zero_add] at this
                  rw [Nat.zero_add]
                  exact this
            split at e
            · split at e
              · rename_i hxs
                subst hxs
                simp at e; obtain ⟨rfl, rfl⟩ := e
                cases rx with
                | sl _ _ _ _ _ _ _ _ _ _ _ _ _ _ hnn => exact absurd rfl hnn.1
                | nilsl => exact fromNil rfl rfl
                | emp _ _ htk => simp at htk
              · simp at e
            · split at e
              · rename_i hxs
                subst hxs
                simp at e; obtain ⟨rfl, rfl⟩ := e
                cases rx with
                | sl b off cap sz0 _ _ u0 h0 h1 h2 h3 h4 h5 hcp hnn ho =>
                  have hcap := hnn.2 rfl
                  subst hcap
                  exact fromNil rfl rfl
                | nilsl => exact fromNil rfl rfl
                | emp => exact fromNil rfl rfl
              · simp at e
            · simp at e
          · split at e
            · simp at e
            · rename_i news1 hstrip
              split at e
              · simp at e
              · rename_i ys hch
                have hrelA : ∀ (k : Nat) (x : AVal), newsA[k]? = some x → ∃ v0, news[k]? = some v0 ∧ VRel w G v0 x := fun k x hk => by
                  obtain ⟨v0, hv0⟩ : ∃ v0, news[k]? = some v0 := ⟨_, List.getElem?_eq_getElem (by rw [E.len, ← E.lenA]; exact (List.getElem?_eq_some_iff.1 hk).1)⟩
                  exact ⟨v0, hv0, E.rel k v0 x hv0 hk⟩
                obtain ⟨c1, c2, c3, c4, c5, c6⟩ := strip_chunk (w := w) (G := G) (arr := news.toArray) (off := 0) hstrip hch E.one E.lenA (fun k x hk => by obtain ⟨v0, q1, q2⟩ := hrelA k x hk; exact ⟨v0, by simpa using q1, q2⟩)
                have c6' : ∀ (k : Nat) (x : AVal), (flat ys)[k]? = some x → ∃ v0, news[k]? = some v0 ∧ VRel w G v0 x := fun k x hk => by simpa using c6 k x hk
                have fromNil : ∀ {bo : Option Addr}, xs = [] → v = .slice bo 0 0 → OpRes P o a w G h (.sl ys (.own h.next sz)) (h.push (.tok el)) := by
                      intro bo hxs0 hveq
                      rw [hxs0] at hroom
                      subst hveq
                      have hr := run_append_grow' (P := P) (ty := o.type) (b := bo) (len := 0) (cap := 0) (olds := []) ht hu hs hi hzv hib E (by omega) (fun w' _ => by cases bo <;> simp [Builtin.firstCells, loadCells, loadCellsFrom]) hroom
                      have H1 := HRel.of_heap (w := w) (w' := w.drew) ⟨rfl, rfl, rfl, rfl⟩ H
                      have hge := grownCap_ge w (0 + m) 0 el
                      obtain ⟨G', z1, z2, z3⟩ := new_tok H1 (arr := [].toArray ++ news.toArray ++ Builtin.zeroCells zv.cells (grownCap w (0 + m) 0 el - (0 + m))) (el := el) (xs := ys) (sz := sz) (cap := grownCap w (0 + m) 0 el) c2 (fun k xx hk => by
                          obtain ⟨v0, hv0, hv1⟩ := c6' k xx hk
                          exact ⟨v0, arr_get (olds := []) (by simpa using hv0), VRel.of_heap (w := w) (w' := w.drew) ⟨rfl, rfl, rfl, rfl⟩ hv1⟩) c4 c5 (by rw [c1]; omega) (by
                          have hq := room_le sz hge
                          simp only [Array.size_append, List.size_toArray, hzs, E.len, List.length_nil, Nat.zero_add] at hq ⊢
                          exact hq)
                      refine ⟨_, _, G', .inl (hexec hr), z1.drew, z2, ?_⟩
                      rw [c1] at z3
                      rw [Nat.zero_add] at z3 ⊢
                      exact z3
                split at e
                · -- a list from nil
                  split at e
                  · rename_i hxs
                    subst hxs
                    simp at e; obtain ⟨rfl, rfl⟩ := e
                    cases rx with
                    | sl _ _ _ _ _ _ _ _ _ _ _ _ _ _ hnn => exact absurd rfl hnn.1
                    | nilsl => exact fromNil rfl rfl
                    | emp _ _ htk => simp at htk
                  · simp at e
                · split at e
                  · rename_i hxs
                    subst hxs
                    simp at e; obtain ⟨rfl, rfl⟩ := e
                    cases rx with
                    | sl b off cap sz0 _ _ u0 h0 h1 h2 h3 h4 h5 hcp hnn ho =>
                      have hcap := hnn.2 rfl
                      subst hcap
                      exact fromNil rfl rfl
                    | nilsl => exact fromNil rfl rfl
                    | emp => exact fromNil rfl rfl
                  · simp at e
                · -- a list with its right
                  rename_i id s
                  split at e
                  · rename_i tyo hg
                    split at e
                    · rename_i hss
                      obtain ⟨hss, hty⟩ := hss
                      subst hss
                      rw [hty] at hg
                      simp at e; obtain ⟨rfl, rfl⟩ := e
                      cases rx with
                      | nilsl _ htk => simp at htk
                      | emp _ _ htk => simp at htk
                      | sl b off cap sz0 _ _ u0 h0 h1 h2 h3 h4 h5 hcp hnn ho =>
                        obtain ⟨k1, k0, k2, k3, k4, eT, nT, k5, k6⟩ := ho id s rfl
                        subst k1
                        subst k3
                        obtain ⟨t1, t2, t3⟩ := H.obj id _ hg
                        have heT : eT = el := by
                          obtain ⟨n', q1, _⟩ := t2
                          rw [q1] at k5
                          exact (congrArg (·.1) (Option.some.inj k5)).symm
                        rw [heT] at k5
                        have hfl := flat_len h0
                        have hstabs : ∀ k, stab G (G.loc id) k → k < G.tip id := fun k hk => hk _ t1
                        by_cases hfit : xs.length + m ≤ cap
                        · -- in place
                          have hle : (xs.length + m) * s ≤ cap * s := Nat.mul_le_mul_right _ hfit
                          rw [Nat.add_mul] at hle
                          have hcellex : ∀ j, off + xs.length * s ≤ j → j < off + xs.length * s + news.length → (∃ u, w.cell? ⟨G.loc id, j, none⟩ = some u) ∧ w.frozen? ⟨G.loc id, j, none⟩ = false := by
                            intro j hj1 hj2
                            rw [E.len] at hj2
                            have hjn : j < nT := by omega
                            refine ⟨?_, fzr_frozen (Nat.le_trans t3 (by omega))⟩
                            unfold World.shape? at k5
                            split at k5
                            · rename_i ca ea fa hca
                              simp at k5
                              refine ⟨ca[j]'(by omega), ?_⟩
                              simp only [World.cell?, hca]
                              simp [k5.2, hjn]
                            · simp at k5
                          obtain ⟨w1, hst, hw⟩ := run_storeCells_ex (P := P) (G.loc id) (off + xs.length * s) news 0 w (fun j hj => hcellex _ (by omega) (by omega)) E.one'
                          have hr := run_append_same (P := P) (ty := o.type) ht hu hs E hfit hst
                          have htip : G.tip id = off + xs.length * s := k4
                          have hTurn : Turned w G (G.loc id) w1 (some (off + (xs.length + m) * s)) := ⟨hw.os, hw.tape, hw.out, hw.size, hw.other, hw.shape, fun k hk => by
                              have := hstabs k hk
                              rw [hw.cell, if_neg (by omega)], fun k hk q hq => by
                              have := hstabs k hk
                              simp at hq; subst hq; rw [Nat.add_mul]; omega⟩
                          have hX := Ext.replace H hg hTurn (off + (xs.length + m) * s) (.tok el)
                          have hloc : (G.new (G.loc id) (off + (xs.length + m) * s) (some (off + (xs.length + m) * s))).loc G.n = G.loc id := by simp [Ghost.new]
                          have hcells : ∀ (k : Nat) (xx : AVal), (flat (xs ++ ys))[k]? = some xx → ∃ v0, w1.cell? ⟨G.loc id, off + k, none⟩ = some v0 ∧ VRel w G v0 xx := by
                            intro k xx hk
                            rw [flat_append] at hk
                            by_cases hkl : k < (flat xs).length
                            · rw [List.getElem?_append_left hkl] at hk
                              refine ⟨u0 k, ?_, h2 k xx hk⟩
                              rw [hw.cell, if_neg (by omega)]
                              exact h1 k xx hk
                            · rw [List.getElem?_append_right (by omega)] at hk
                              obtain ⟨v0, hv0, hv1⟩ := c6' _ xx hk
                              have hlt := (List.getElem?_eq_some_iff.1 hv0).1
                              refine ⟨v0, ?_, hv1⟩
                              rw [hw.cell, if_pos (by omega)]
                              rw [← hv0]; congr 1; omega
                          have hlenys : (xs ++ ys).length = xs.length + m := by rw [List.length_append, c1]
                          have hsizes : ∀ x ∈ xs ++ ys, x.cells.length = s := fun q hq => (List.mem_append.1 hq).elim (h0 q) (c2 q)
                          refine ⟨_, w1, _, .inl (hexec hr), hX, HRel.replace H hg hTurn _ (.tok el) ?_, ?_⟩
                          · unfold OkObj
                            rw [hloc, hw.shape]
                            refine ⟨by simp [Ghost.new], ⟨nT, k5, by simp [Ghost.new]; rw [Nat.add_mul]; omega⟩, ?_⟩
                            rw [hw.fz]
                            simp only [Ghost.new, if_true]
                            rw [Nat.add_mul]; omega
                          · have hvr : VRel w1 (G.new (G.loc id) (off + (xs.length + m) * s) (some (off + (xs.length + m) * s))) (.slice (some ⟨G.loc id, off, none⟩) (xs ++ ys).length cap) (.sl (xs ++ ys) (.own h.next s)) := ?hvr
                            · rw [hlenys] at hvr; exact hvr
                            refine .sl (G.loc id) off cap s (xs ++ ys) _ (fun k => (w1.cell? ⟨G.loc id, off + k, none⟩).getD (.bool false)) hsizes (fun k xx hk => ?_) (fun k xx hk => ?_) (fun k hk q hq => ?_) (fun q hq => ?_) (fun q hq => ?_) (by rw [hlenys]; exact hfit) (by simp) (fun id' s' hs' => ?_)
                            · obtain ⟨v0, q1, q2⟩ := hcells k xx hk
                              rw [q1]; rfl
                            · obtain ⟨v0, q1, q2⟩ := hcells k xx hk
                              rw [q1]; exact q2.mono hX
                            · simp [Ghost.new] at hq
                              rw [flat_len hsizes, hlenys] at hk
                              omega
                            · rw [flat_append] at hq; exact (List.mem_append.1 hq).elim (h4 q) (c4 q)
                            · rw [flat_append] at hq; exact (List.mem_append.1 hq).elim (h5 q) (c5 q)
                            · simp only [Tok.own.injEq] at hs'
                              obtain ⟨rfl, rfl⟩ := hs'
                              refine ⟨rfl, k0, by simp [Ghost.new, H.n_eq], by simp [Ghost.new, H.n_eq], by simp [Ghost.new, H.n_eq, hlenys, c1], el, nT, by rw [hw.shape]; exact k5, k6⟩
                        · -- in a new block
                          obtain ⟨olds, eo1, eo2, eo3⟩ := (show CellsAt w G (G.loc id) off (flat xs) from fun k xx hk => ⟨u0 k, h1 k xx hk, h2 k xx hk⟩).vals
                          have hr := run_append_grow' (P := P) (ty := o.type) (b := some ⟨G.loc id, off, none⟩) (len := xs.length) (cap := cap) (olds := olds) ht hu hs hi hzv hib E (by omega) (fun w' hw' => by
                            have := run_firstCells_some (P := P) w' s xs.length ⟨G.loc id, off, none⟩ xs.length cap olds (by rw [eo1, hfl]) (fun j v hj => by rw [Addr.add_lit]; simpa [World.cell?, hw'] using eo2 j v hj)
                            exact this) hroom
                          obtain ⟨G1, y1, y2, y3, y4⟩ := kill_ok H hg
                          have H1 := HRel.of_heap (w := w) (w' := w.drew) ⟨rfl, rfl, rfl, rfl⟩ y2
                          have hge := grownCap_ge w (xs.length + m) cap el
                          have hlenys : (xs ++ ys).length = xs.length + m := by rw [List.length_append, c1]
                          have hsizes : ∀ x ∈ xs ++ ys, x.cells.length = s := fun q hq => (List.mem_append.1 hq).elim (h0 q) (c2 q)
                          have e1' : Ext w G h w.drew G1 (h.put id none) := y1.trans (Ext.of_heap ⟨rfl, rfl, rfl, rfl⟩)
                          obtain ⟨G', z1, z2, z3⟩ := new_tok H1 (arr := olds.toArray ++ news.toArray ++ Builtin.zeroCells zv.cells (grownCap w (xs.length + m) cap el - (xs.length + m))) (el := el) (xs := xs ++ ys) (sz := s) (cap := grownCap w (xs.length + m) cap el) hsizes (fun k xx hk => by
                              rw [flat_append] at hk
                              by_cases hkl : k < (flat xs).length
                              · rw [List.getElem?_append_left hkl] at hk
                                obtain ⟨v0, hv0⟩ : ∃ v0, olds[k]? = some v0 := ⟨_, List.getElem?_eq_getElem (by rw [eo1]; exact hkl)⟩
                                exact ⟨v0, arr_get (by rw [List.getElem?_append_left (by rw [eo1]; exact hkl)]; exact hv0), (eo3 k v0 xx hv0 hk).mono e1'⟩
                              · rw [List.getElem?_append_right (by omega)] at hk
                                obtain ⟨v0, hv0, hv1⟩ := c6' _ xx hk
                                exact ⟨v0, arr_get (by rw [List.getElem?_append_right (by rw [eo1]; omega), eo1]; exact hv0), hv1.mono e1'⟩) (fun q hq => by rw [flat_append] at hq; exact (List.mem_append.1 hq).elim (h4 q) (c4 q)) (fun q hq => by rw [flat_append] at hq; exact (List.mem_append.1 hq).elim (h5 q) (c5 q))
                              (by rw [hlenys]; exact hge) (by
                              have hq := room_le s hge
                              simp only [Array.size_append, List.size_toArray, hzs, E.len, eo1, hfl]
                              rw [Nat.add_mul] at hq
                              exact hq)
                          refine ⟨_, _, G', .inl (hexec hr), e1'.trans z1, z2, ?_⟩
                          rw [hlenys, Heap.next_put] at z3
                          exact z3
                    · simp at e
                  · simp at e
                · simp at e
      · -- an array that grows
        rename_i id off len s0 hbx
        rw [hbx] at rx
        split at e
        · rename_i s ag' cs hg
          split at e
          · rename_i hcond
            obtain ⟨_, q1, q2, q3, q4, hroom, hpos, hsml⟩ := hcond
            subst q1; subst q2; subst q3
            simp at e; obtain ⟨rfl, rfl⟩ := e
            obtain ⟨o1, o2, o3, o4, o5⟩ := H.obj id _ hg
            have grow : ∀ {b : Option Addr} {cap : Nat} {olds : List Value}, cap < len + m → olds.length = cs.length → (∀ (k : Nat) (v : Value) (x : AVal), olds[k]? = some v → cs[k]? = some x → VRel w G v x) →
                (∀ w' : World, w'.heap = w.heap → (Builtin.firstCells s len (.slice b len cap)).run P w' = .ok olds.toArray w') → v = .slice b len cap → OpRes P o a w G h (.ref h.next 0 (len + m) s) ((h.put id none).push (.row true s ag' (cs ++ newsA))) := by
              intro b cap olds hgr hol horel hfirst hveq
              have hr := run_append_grow' (P := P) (ty := o.type) (b := b) (len := len) (cap := cap) (olds := olds) ht hu hs hi hzv hib E hgr hfirst hroom
              obtain ⟨G1, y1, y2, y3, y4⟩ := kill_ok H hg
              have H1 := HRel.of_heap (w := w) (w' := w.drew) ⟨rfl, rfl, rfl, rfl⟩ y2
              have hge := grownCap_ge w (len + m) cap el
              have e1' : Ext w G h w.drew G1 (h.put id none) := y1.trans (Ext.of_heap ⟨rfl, rfl, rfl, rfl⟩)
              obtain ⟨x1, x2, x3, x4, x5⟩ := new_row H1 (olds.toArray ++ news.toArray ++ Builtin.zeroCells zv.cells (grownCap w (len + m) cap el - (len + m))) el s ag' (cs ++ newsA) (by simp [E.len, E.lenA, hol]) (fun k cc xx hk hx => by
                  have hlt : k < (cs ++ newsA).length := (List.getElem?_eq_some_iff.1 hx).1
                  rw [List.length_append, E.lenA] at hlt
                  obtain ⟨v0, hv0⟩ : ∃ v0, (olds ++ news)[k]? = some v0 := ⟨_, List.getElem?_eq_getElem (by rw [List.length_append, E.len, hol]; exact hlt)⟩
                  have := arr_get (tl := Builtin.zeroCells zv.cells (grownCap w (len + m) cap el - (len + m))) hv0
                  rw [hk] at this; obtain rfl := Option.some.inj this
                  by_cases hkl : k < cs.length
                  · rw [List.getElem?_append_left hkl] at hx
                    rw [List.getElem?_append_left (by rw [hol]; exact hkl)] at hv0
                    exact (horel k cc xx hv0 hx).mono e1'
                  · rw [List.getElem?_append_right (by omega)] at hx
                    rw [List.getElem?_append_right (by rw [hol]; omega), hol] at hv0
                    exact (E.rel _ cc xx hv0 hx).mono e1') (fun q hq => (List.mem_append.1 hq).elim (o3 q) (E.one q)) (small_ty hsml)
              subst hveq
              refine ⟨_, _, _, .inl (hexec hr), e1'.trans x1, x2, ?_⟩
              have := VRel.ref (w := w.drew.alloc (.cells (olds.toArray ++ news.toArray ++ Builtin.zeroCells zv.cells (grownCap w (len + m) cap el - (len + m))) el)) (G := G1.new w.drew.heap.size 0 (some 0)) (h.put id none).next 0 (len + m) s (grownCap w (len + m) cap el) x4 hge ⟨el, _, by rw [x3]; exact x5, by
                have hq := room_le s hge
                simp only [Array.size_append, List.size_toArray, hzs, E.len, hol, q4]
                rw [Nat.add_mul] at hq
                rw [Nat.zero_add]
                exact hq⟩
              rw [x3, Heap.next_put] at this
              exact this
            cases rx with
            | ref0 _ _ _ b bo hid =>
              have hcs : cs = [] := List.eq_nil_of_length_eq_zero (by simpa using q4)
              subst hcs
              exact grow (cap := 0) (olds := []) (by omega) rfl (by simp) (fun w' _ => by simp [Builtin.firstCells, loadCells, loadCellsFrom]) rfl
            | ref _ _ _ _ cap hid hcp hsh =>
              obtain ⟨eT, nT, k5, k6⟩ := hsh
              by_cases hfit : len + m ≤ cap
              · have hle : (len + m) * s ≤ cap * s := Nat.mul_le_mul_right _ hfit
                rw [Nat.add_mul] at hle
                have hcellex : ∀ j, 0 + len * s ≤ j → j < 0 + len * s + news.length → (∃ u, w.cell? ⟨G.loc id, j, none⟩ = some u) ∧ w.frozen? ⟨G.loc id, j, none⟩ = false := by
                  intro j hj1 hj2
                  rw [E.len] at hj2
                  have hjn : j < nT := by omega
                  refine ⟨?_, o5 rfl j eT nT k5 hjn⟩
                  unfold World.shape? at k5
                  split at k5
                  · rename_i ca ea fa hca
                    simp at k5
                    refine ⟨ca[j]'(by omega), ?_⟩
                    simp only [World.cell?, hca]
                    simp [k5.2, hjn]
                  · simp at k5
                obtain ⟨w1, hst, hw⟩ := run_storeCells_ex (P := P) (G.loc id) (0 + len * s) news 0 w (fun j hj => hcellex _ (by omega) (by omega)) E.one'
                have hr := run_append_same (P := P) (ty := o.type) ht hu hs E hfit hst
                have hns : ∀ k, ¬ stab G (G.loc id) k := fun k hk => by have := hk 0 o1; omega
                have hTurn : Turned w G (G.loc id) w1 (some 0) := ⟨hw.os, hw.tape, hw.out, hw.size, hw.other, hw.shape, fun k hk => absurd hk (hns k), fun k hk => absurd hk (hns k)⟩
                have hX := Ext.replace H hg hTurn 0 (.row true s ag' (cs ++ newsA))
                have hloc : (G.new (G.loc id) 0 (some 0)).loc G.n = G.loc id := by simp [Ghost.new]
                refine ⟨_, w1, _, .inl (hexec hr), hX, HRel.replace H hg hTurn 0 _ ?_, ?_⟩
                · unfold OkObj
                  rw [hloc, hw.shape]
                  refine ⟨by simp [Ghost.new], fun k xx hk => ?_, fun q hq => (List.mem_append.1 hq).elim (o3 q) (E.one q), ⟨eT, nT, k5, by rw [List.length_append, E.lenA, q4]; omega, small_ty hsml⟩, fun _ k e1 n1 p1 p2 => by rw [hw.frozen]; exact o5 rfl k e1 n1 p1 p2⟩
                  by_cases hkl : k < cs.length
                  · rw [List.getElem?_append_left hkl] at hk
                    rw [hw.cell, if_neg (by omega)]
                    exact (o2 k xx hk).imp fun u hu => ⟨hu.1, hu.2.mono hX⟩
                  · rw [List.getElem?_append_right (by omega)] at hk
                    have hlt := (List.getElem?_eq_some_iff.1 hk).1
                    rw [E.lenA, ← E.len] at hlt
                    obtain ⟨v0, hv0⟩ : ∃ v0, news[k - cs.length]? = some v0 := ⟨_, List.getElem?_eq_getElem hlt⟩
                    refine ⟨v0, ?_, (E.rel _ v0 xx hv0 hk).mono hX⟩
                    rw [hw.cell, if_pos (by omega), ← hv0]; congr 1; omega
                · have := VRel.ref (w := w1) (G := G.new (G.loc id) 0 (some 0)) h.next 0 (len + m) s cap (by simp [Ghost.new, H.n_eq]) hfit ⟨eT, nT, by rw [← H.n_eq, hloc, hw.shape]; exact k5, by omega⟩
                  rwa [← H.n_eq, hloc, H.n_eq] at this
              · obtain ⟨olds, eo1, eo2, eo3⟩ := (show CellsAt w G (G.loc id) 0 cs from fun k xx hk => by simpa using o2 k xx hk).vals
                exact grow (b := some ⟨G.loc id, 0, none⟩) (cap := cap) (olds := olds) (by omega) eo1 eo3 (fun w' hw' =>
                  run_firstCells_some (P := P) w' s len ⟨G.loc id, 0, none⟩ len cap olds (by rw [eo1, q4]) (fun j v hj => by rw [Addr.add_lit]; simpa [World.cell?, hw'] using eo2 j v hj)) rfl
          · simp at e
        · simp at e
      · simp at e
  · simp at e
set_option maxHeartbeats 800000 in
theorem op_copy (H : HRel w G h) (hc : Ops a w G c ev) {x y : Operand} {x' y' : Opd} {t u el : TypeId} {sz : Nat} (hx : c x = some x') (hy : c y = some y') (ht : P.underlying t = some (.slice el)) (hs : tSize P el = some sz)
    (hop : o.op = .call { callee := .builtin .copy, args := #[x, y], argTypes := #[t, u] }) (e : evalA (.copy sz x' y') ev h = some (r, h')) : OpRes P o a w G h r h' := by
  have rx := hc _ _ hx
  have ry := hc _ _ hy
  simp only [evalA] at e
  unfold copyA at e
  split at e
  · rename_i m newsA hm hnews
    obtain ⟨news, E⟩ := elems_ok (P := P) H ry hm hnews
    generalize hv : a.eval x = v at rx
    generalize hv' : a.eval y = yv at ry E
    split at e
    · rename_i id off len s hbx
      rw [hbx] at rx
      split at e
      · rename_i s' ag cs hg
        split at e
        · rename_i hcond
          obtain ⟨q1, q2, q3⟩ := hcond
          subst q1
          simp at e; obtain ⟨rfl, rfl⟩ := e
          have hmin : Nat.min m len = min m len := rfl
          have hf := E.first w (min m len) rfl (Nat.min_le_left _ _)
          have hle : min m len * s ≤ len * s := Nat.mul_le_mul_right _ (Nat.min_le_right _ _)
          have hle2 : min m len * s ≤ m * s := Nat.mul_le_mul_right _ (Nat.min_le_left _ _)
          have hln : (news.take (min m len * s)).length = min m len * s := by rw [List.length_take, E.len]; omega
          have hlnA : (newsA.take (min m len * s)).length = min m len * s := by rw [List.length_take, E.lenA]; omega
          have hone : ∀ q ∈ newsA.take (min m len * s), q.one = true := fun q hq => E.one q (List.mem_of_mem_take hq)
          have hrel : ∀ (k : Nat) (v : Value) (x : AVal), (news.take (min m len * s))[k]? = some v → (newsA.take (min m len * s))[k]? = some x → VRel w G v x := by
            intro k v x h1 h2
            rw [List.getElem?_take] at h1 h2
            split at h1
            · rename_i hk; rw [if_pos hk] at h2; exact E.rel k v x h1 h2
            · simp at h1
          cases rx with
          | ref0 _ _ _ b bo hid =>
            have hz : min m 0 = 0 := Nat.min_zero m
            rw [hz] at hf ⊢
            simp only [Nat.zero_mul, List.take_zero] at hf ⊢
            have hput : ∃ G', Ext w G h w G' (h.put id (some (.row true s' ag (setCells cs off [])))) ∧ HRel w G' (h.put id (some (.row true s' ag (setCells cs off [])))) := by
              have hw0 : Wrote w (G.loc id) off [] w := ⟨rfl, rfl, rfl, rfl, fun _ _ => rfl, rfl, fun _ => rfl, rfl, fun k => by simp; intro h1 h2; omega⟩
              exact write_row H hg hw0 rfl (by simp) (by simp) (by simp; omega)
            obtain ⟨G', x1, x2⟩ := hput
            refine ⟨.int .i64 0, w, G', .inl ?_, x1, x2, .int _ _⟩
            simp [execOp, hop, hv, hv', resolve, invoke, builtin, Builtin.copy_, run_underlying ht, E.lenOf, run_sizeOf' hs, hf, storeCells, goInt]
          | ref _ _ _ _ cap hid hcp hsh =>
            obtain ⟨w1, hst, hw⟩ := row_writable (P := P) H hg (off := off) (vs := news.take (min m len * s)) (by rw [hln]; omega) (fun v hv => E.one' v (List.mem_of_mem_take hv))
            obtain ⟨G', x1, x2⟩ := write_row H hg hw (by rw [hln, hlnA]) hrel hone (by rw [hlnA]; omega)
            refine ⟨.int .i64 (min m len : Nat), w1, G', .inl ?_, x1, x2, ?_⟩
            · simp [execOp, hop, hv, hv', resolve, invoke, builtin, Builtin.copy_, run_underlying ht, E.lenOf, run_sizeOf' hs, hmin, hf, hst, goInt]
            · have := VRel.int (w := w1) (G := G') .i64 ((min m len : Nat) : Int)
              simpa using this
        · simp at e
      · simp at e
    · rename_i tk hbx
      rw [hbx] at rx
      simp at e; obtain ⟨rfl, rfl⟩ := e
      have hf := E.first w 0 rfl (Nat.zero_le _)
      simp only [Nat.zero_mul, List.take_zero] at hf
      cases rx with
      | nilsl => exact OpRes.same H (v := .int .i64 0) (by simp [execOp, hop, hv, hv', resolve, invoke, builtin, Builtin.copy_, run_underlying ht, E.lenOf, run_sizeOf' hs, hf, goInt]) (.int _ _)
      | emp => exact OpRes.same H (v := .int .i64 0) (by simp [execOp, hop, hv, hv', resolve, invoke, builtin, Builtin.copy_, run_underlying ht, E.lenOf, run_sizeOf' hs, hf, goInt, storeCells]) (.int _ _)
      | sl b off cap sz0 _ _ u0 => exact OpRes.same H (v := .int .i64 0) (by simp [execOp, hop, hv, hv', resolve, invoke, builtin, Builtin.copy_, run_underlying ht, E.lenOf, run_sizeOf' hs, hf, goInt, storeCells]) (.int _ _)
    · simp at e
  · simp at e
end
end Go.Abs

namespace Go.Abs
theorem Ext.alloc_any {w : World} {G : Ghost} {h : Heap} (H : HRel w G h) (ob : Go.Obj) (tip : Nat) (lim : Option Nat) (o : Obj) :
    Ext w G h (w.alloc ob) (G.new w.heap.size tip lim) (h.push o) where
  os := rfl
  tape := rfl
  out := rfl
  size := by simp
  keep := fun b hb _ => ⟨heap_push_old _ _ hb, by simp [Ghost.new, Nat.ne_of_lt hb]⟩
  stable := fun b k hb hs => ⟨by simp [World.cell?, heap_push_old _ _ hb], by unfold stab Ghost.new; simp [Nat.ne_of_lt hb]; exact hs⟩
  shape := fun b hb => by simp [World.shape?, heap_push_old _ _ hb]
  n_le := by simp [Ghost.new]
  ids := fun id hid => by simp [Ghost.new, Nat.ne_of_lt hid]
  fresh := fun b hb ho => by
    obtain ⟨id, o', ho', rfl⟩ := ho
    rcases Heap.get_push_some ho' with ⟨rfl, _⟩ | ⟨hid, ho''⟩
    · simp [Ghost.new, H.n_eq] at hb
    · refine ⟨id, o', ho'', ?_⟩
      simp [Ghost.new, H.n_eq, Nat.ne_of_lt hid]
  env := rfl
theorem HRel.alloc_any {w : World} {G : Ghost} {h : Heap} (H : HRel w G h) (ob : Go.Obj) (tip : Nat) (lim : Option Nat) (o : Obj)
    (ho : OkObj (w.alloc ob) (G.new w.heap.size tip lim) G.n o) : HRel (w.alloc ob) (G.new w.heap.size tip lim) (h.push o) where
  n_eq := by simp [Ghost.new, H.n_eq]
  lt := fun id o' h' => by
    rcases Heap.get_push_some h' with ⟨rfl, _⟩ | ⟨hid, h''⟩
    · simp [Ghost.new, H.n_eq]
    · have := H.lt id o' h''
      simp [Ghost.new, H.n_eq, Nat.ne_of_lt hid]; omega
  obj := fun id o' h' => by
    rcases Heap.get_push_some h' with ⟨rfl, rfl⟩ | ⟨hid, h''⟩
    · rw [← H.n_eq]; exact ho
    · have hlt := H.lt id o' h''
      exact OkObj.mono (Ext.alloc_any H ob tip lim o) (by rw [H.n_eq]; exact hid) hlt (heap_push_old _ _ hlt) (by simp [Ghost.new, Nat.ne_of_lt hlt]) (H.obj id o' h'')
  inj := fun i j oi oj hi hj he => by
    rcases Heap.get_push_some hi with ⟨rfl, _⟩ | ⟨hi', hi''⟩ <;> rcases Heap.get_push_some hj with ⟨rfl, _⟩ | ⟨hj', hj''⟩
    · rfl
    · have := H.lt j oj hj''
      simp [Ghost.new, H.n_eq, Nat.ne_of_lt hj'] at he; omega
    · have := H.lt i oi hi''
      simp [Ghost.new, H.n_eq, Nat.ne_of_lt hi'] at he; omega
    · simp only [Ghost.new, H.n_eq, Nat.ne_of_lt hi', Nat.ne_of_lt hj', if_false] at he
      exact H.inj i j oi oj hi'' hj'' he
  glob := fun g cs hg => ⟨(H.glob g cs hg).1.mono (Ext.alloc_any H ob tip lim o), (H.glob g cs hg).2⟩
section
variable {P : Program} {o : Oper} {a : Act} {w : World} {G : Ghost} {h : Heap} {c : Operand → Option Opd} {ev : Opd → AVal} {r : AVal} {h' : Heap}
theorem new_map {w : World} {G : Ghost} {h : Heap} (H : HRel w G h) (kd : KD) (entries : Array MapEntry) (clock : Nat) (es : List (Nat × AVal × AVal)) (hs : entries.size = es.length)
    (hrel : ∀ (k : Nat) e x, entries[k]? = some e → es[k]? = some x → e.born = x.1 ∧ VRel w G e.key x.2.1 ∧ VRel w G e.val x.2.2) (hk : ∀ x ∈ es, isKey kd x.2.1 = true ∧ plain x.2.2 = true) (hst : MapKept.Stamped entries clock) :
    ∃ G', Ext w G h (w.alloc (.map entries clock)) G' (h.push (.map kd clock es)) ∧ HRel (w.alloc (.map entries clock)) G' (h.push (.map kd clock es)) ∧ VRel (w.alloc (.map entries clock)) G' (.map (some w.heap.size)) (.mp h.next) := by
  have hX := Ext.alloc_any H (.map entries clock) 0 (some 0) (.map kd clock es)
  have hloc : (G.new w.heap.size 0 (some 0)).loc G.n = w.heap.size := by simp [Ghost.new]
  have hnew : (w.alloc (.map entries clock)).heap[w.heap.size]? = some (.map entries clock) := (MapKept.heap_alloc w _).1
  refine ⟨_, hX, HRel.alloc_any H _ 0 (some 0) _ ?_, ?_⟩
  · unfold OkObj
    rw [hloc]
    exact ⟨entries, hnew, hs, fun k e x he hx => by obtain ⟨q1, q2, q3⟩ := hrel k e x he hx; exact ⟨q1, q2.mono hX, q3.mono hX⟩, hk, hst⟩
  · have := VRel.mp (w := w.alloc (.map entries clock)) (G := G.new w.heap.size 0 (some 0)) h.next (by simp [Ghost.new, H.n_eq])
    rwa [← H.n_eq, hloc, H.n_eq] at this
theorem map_turned {w : World} {G : Ghost} {b : Nat} {entries : Array MapEntry} {clock : Nat} (hg : w.heap[b]? = some (.map entries clock)) (entries' : Array MapEntry) (clock' : Nat) :
    Turned w G b { w with heap := w.heap.setIfInBounds b (.map entries' clock') } (G.lim b) := by
  obtain ⟨s1, s2⟩ := MapKept.heap_set (o' := .map entries' clock') hg
  refine ⟨rfl, rfl, rfl, by simp, fun c hc => s2 c hc, ?_, fun k _ => ?_, fun k hk m hm => hk m hm⟩
  · simp only [World.shape?, s1, hg]
  · simp only [World.cell?, s1, hg]
theorem write_map {w : World} {G : Ghost} {h : Heap} (H : HRel w G h) {id : Nat} {kd kd' : KD} {clock clock' : Nat} {es es' : List (Nat × AVal × AVal)} {entries entries' : Array MapEntry} (hg : h.get id = some (.map kd clock es)) (hw : w.heap[G.loc id]? = some (.map entries clock))
    (hs : entries'.size = es'.length) (hrel : ∀ (k : Nat) e x, entries'[k]? = some e → es'[k]? = some x → e.born = x.1 ∧ VRel w G e.key x.2.1 ∧ VRel w G e.val x.2.2)
    (hk : ∀ x ∈ es', isKey kd' x.2.1 = true ∧ plain x.2.2 = true) (hst : MapKept.Stamped entries' clock') :
    ∃ G', Ext w G h { w with heap := w.heap.setIfInBounds (G.loc id) (.map entries' clock') } G' (h.put id (some (.map kd' clock' es'))) ∧ HRel { w with heap := w.heap.setIfInBounds (G.loc id) (.map entries' clock') } G' (h.put id (some (.map kd' clock' es'))) := by
  have ht := map_turned (G := G) hw entries' clock'
  have hX := Ext.update hg ht (some (.map kd' clock' es'))
  refine ⟨_, hX, HRel.update H hg ht _ fun ob ho => ?_⟩
  obtain rfl := Option.some.inj ho
  unfold OkObj
  have hloc : (G.at (G.loc id) (G.lim (G.loc id))).loc id = G.loc id := rfl
  rw [hloc]
  exact ⟨entries', (MapKept.heap_set hw).1, hs, fun k e x he hx => by obtain ⟨q1, q2, q3⟩ := hrel k e x he hx; exact ⟨q1, q2.mono hX, q3.mono hX⟩, hk, hst⟩
theorem keyD_desc {kt : TypeId} {kd : KD} (hkd : keyD P kt = some kd) : ∃ d, P.underlying kt = some d ∧ ∀ {u : Value} {x : AVal}, VRel w G u x → isKey kd x = true → MapKept.IsKey d u := by
  unfold keyD at hkd
  split at hkd
  · rename_i k hu
    obtain rfl := Option.some.inj hkd
    refine ⟨_, hu, fun {u x} r hk => ?_⟩
    cases x <;> simp [isKey] at hk
    cases r; subst hk; trivial
  · rename_i hu
    obtain rfl := Option.some.inj hkd
    refine ⟨_, hu, fun {u x} r hk => ?_⟩
    cases x <;> simp [isKey] at hk
    cases r; trivial
  · rename_i hu
    obtain rfl := Option.some.inj hkd
    refine ⟨_, hu, fun {u x} r hk => ?_⟩
    cases x <;> simp [isKey] at hk
    cases r; trivial
  · simp at hkd
theorem str_inj {a b : ByteArray} (h : a.data.toList = b.data.toList) : a = b := by
  obtain ⟨⟨x⟩⟩ := a
  obtain ⟨⟨y⟩⟩ := b
  simp at h
  rw [h]
theorem keyEq_iff {kd : KD} {u v : Value} {x y : AVal} (ru : VRel w G u x) (rv : VRel w G v y) (hx : isKey kd x = true) (hy : isKey kd y = true) : keyEq kd x y = true ↔ u = v := by
  cases kd with
  | int k =>
    cases x <;> simp [isKey] at hx
    cases y <;> simp [isKey] at hy
    cases ru; cases rv
    subst hx; subst hy
    simp [keyEq]
  | str =>
    cases x <;> simp [isKey] at hx
    cases y <;> simp [isKey] at hy
    cases ru; cases rv
    simp only [keyEq, beq_iff_eq, Value.string.injEq]
    exact ⟨str_inj, fun e => by rw [e]⟩
  | bool =>
    cases x <;> simp [isKey] at hx
    cases y <;> simp [isKey] at hy
    cases ru; cases rv
    simp [keyEq]
theorem find_rel {kd : KD} {u : Value} {x : AVal} (ru : VRel w G u x) (hx : isKey kd x = true) : ∀ (L : List MapEntry) (es : List (Nat × AVal × AVal)) (i : Nat), L.length = es.length →
    (∀ (k : Nat) e y, L[k]? = some e → es[k]? = some y → e.born = y.1 ∧ VRel w G e.key y.2.1 ∧ VRel w G e.val y.2.2) → (∀ y ∈ es, isKey kd y.2.1 = true) →
    (findE kd x es i = none ∧ ∀ e ∈ L, e.key ≠ u) ∨ ∃ (j : Nat) (e : MapEntry) (y : Nat × AVal × AVal), findE kd x es i = some (i + j, y.2.2) ∧ L[j]? = some e ∧ es[j]? = some y ∧ e.key = u
  | [], [], i, _, _, _ => .inl ⟨rfl, by simp⟩
  | [], _ :: _, i, h, _, _ => by simp at h
  | _ :: _, [], i, h, _, _ => by simp at h
  | e :: L, y :: es, i, hl, hr, hk => by
    obtain ⟨q1, q2, q3⟩ := hr 0 e y rfl rfl
    have hiff := keyEq_iff ru q2 hx (hk y (by simp))
    by_cases he : keyEq kd x y.2.1 = true
    · exact .inr ⟨0, e, y, by simp [findE, he], rfl, rfl, (hiff.1 he).symm⟩
    · have hne : e.key ≠ u := fun q => he (hiff.2 q.symm)
      rcases find_rel ru hx L es (i + 1) (by simpa using hl) (fun k e' y' h1 h2 => hr (k + 1) e' y' (by simpa using h1) (by simpa using h2)) (fun y' hy => hk y' (by simp [hy])) with ⟨h1, h2⟩ | ⟨j, e', y', h1, h2, h3, h4⟩
      · exact .inl ⟨by simp [findE, he, h1], fun z hz => by
          rcases List.mem_cons.1 hz with rfl | hz
          · exact hne
          · exact h2 z hz⟩
      · exact .inr ⟨j + 1, e', y', by simp [findE, he, h1]; omega, by simpa using h2, by simpa using h3, h4⟩
theorem find_ok {kt : TypeId} {kd : KD} (hkd : keyD P kt = some kd) {u : Value} {x : AVal} (ru : VRel w G u x) (hx : isKey kd x = true) {entries : Array MapEntry} {es : List (Nat × AVal × AVal)} (hs : entries.size = es.length)
    (hrel : ∀ (k : Nat) e y, entries[k]? = some e → es[k]? = some y → e.born = y.1 ∧ VRel w G e.key y.2.1 ∧ VRel w G e.val y.2.2) (hk : ∀ y ∈ es, isKey kd y.2.1 = true ∧ plain y.2.2 = true) {clock : Nat} (hst : MapKept.Stamped entries clock) :
    (findE kd x es 0 = none ∧ (Instr.findKey kt u entries.toList).run P w = .ok none w ∧ ∀ e ∈ entries.toList, e.key ≠ u) ∨
    ∃ (j : Nat) (e : MapEntry) (y : Nat × AVal × AVal), findE kd x es 0 = some (j, y.2.2) ∧ (Instr.findKey kt u entries.toList).run P w = .ok (some (j, e.val)) w ∧ entries[j]? = some e ∧ es[j]? = some y ∧ e.key = u := by
  obtain ⟨d, hd, hkey⟩ := keyD_desc (w := w) (G := G) hkd
  have hku := hkey ru hx
  have hrel' : ∀ (k : Nat) e y, entries.toList[k]? = some e → es[k]? = some y → e.born = y.1 ∧ VRel w G e.key y.2.1 ∧ VRel w G e.val y.2.2 := fun k e y h1 h2 => hrel k e y (by simpa using h1) h2
  have hall : ∀ e ∈ entries.toList, MapKept.IsKey d e.key := fun e he => by
    obtain ⟨k, hk'⟩ := mem_get he
    obtain ⟨y, hy⟩ : ∃ y, es[k]? = some y := ⟨_, List.getElem?_eq_getElem (by rw [← hs]; simpa using (List.getElem?_eq_some_iff.1 hk').1)⟩
    exact hkey (hrel' k e y hk' hy).2.1 (hk y (List.mem_of_getElem? hy)).1
  rcases find_rel ru hx entries.toList es 0 (by simpa using hs) hrel' (fun y hy => (hk y hy).1) with ⟨h1, h2⟩ | ⟨j, e, y, h1, h2, h3, h4⟩
  · rcases MapKept.findNow_spec hku entries.toList 0 hall with ⟨k1, k2⟩ | ⟨j, e, k1, k2, k3⟩
    · exact .inl ⟨h1, MapKept.run_findKey hd k1, h2⟩
    · exact absurd k3 (h2 e (List.mem_of_getElem? k2))
  · rcases MapKept.findNow_spec hku entries.toList 0 hall with ⟨k1, k2⟩ | ⟨j', e', k1, k2, k3⟩
    · exact absurd h4 (k2 e (List.mem_of_getElem? h2))
    · -- the same place: keys are all different is not needed, both are the first
      rw [Nat.zero_add] at h1 k1
      have hjj : j = j' := by
        have hlt : j < (entries.toList.map (·.key)).length := by simpa using (List.getElem?_eq_some_iff.1 h2).1
        refine (List.getElem?_inj hlt hst.2.2).1 ?_
        rw [List.getElem?_map, List.getElem?_map, h2, k2]
        simp [h4, k3]
      subst hjj
      rw [h2] at k2
      obtain rfl := Option.some.inj k2
      exact .inr ⟨j, e, y, h1, MapKept.run_findKey hd k1, by simpa using h2, h3, h4⟩
theorem op_mkmap (H : HRel w G h) {t kt et : TypeId} {kd : KD} (hop : o.op = .makeMap t none) (e : evalA (.x (.mkmap kd) []) ev h = some (r, h')) : OpRes P o a w G h r h' := by
  simp [evalA, evalX] at e
  obtain ⟨rfl, rfl⟩ := e
  obtain ⟨G', x1, x2, x3⟩ := new_map H kd #[] 0 [] rfl (by simp) (by simp) (MapKept.stamped_empty 0)
  exact ⟨_, _, G', .inl (by simp [execOp, hop, Instr.makeMap]), x1, x2, x3⟩
theorem obj_map (H : HRel w G h) {id : Nat} {kd : KD} {clock : Nat} {es : List (Nat × AVal × AVal)} (hg : h.get id = some (.map kd clock es)) : ∃ entries, w.heap[G.loc id]? = some (.map entries clock) ∧ entries.size = es.length ∧
    (∀ (k : Nat) e x, entries[k]? = some e → es[k]? = some x → e.born = x.1 ∧ VRel w G e.key x.2.1 ∧ VRel w G e.val x.2.2) ∧ (∀ x ∈ es, isKey kd x.2.1 = true ∧ plain x.2.2 = true) ∧ MapKept.Stamped entries clock := H.obj id _ hg
theorem op_mlook (H : HRel w G h) (hc : Ops a w G c ev) {x y : Operand} {x' y' : Opd} {t kt et : TypeId} {kd : KD} {z : AVal} {ok : Bool} (hx : c x = some x') (hy : c y = some y') (ht : P.underlying t = some (.map kt et)) (hkd : keyD P kt = some kd) (hz : tZeroA P et = some z) (hop : o.op = .lookup t x y ok)
    (e : evalA (.x (.mlook kd z ok) [x', y']) ev h = some (r, h')) : OpRes P o a w G h r h' := by
  have rx := hc _ _ hx
  have ry := hc _ _ hy
  simp only [evalA, evalX, List.map_cons, List.map_nil] at e
  generalize hv : a.eval x = u at rx
  generalize hv' : a.eval y = v at ry
  obtain ⟨zv, hzr, hzv⟩ : ∃ zv, (zeroValue et).run P w = .ok zv w ∧ VRel w G zv z := by
    unfold tZeroA at hz
    split at hz
    · rename_i i hi
      split at hz
      · rename_i zv hzv
        exact ⟨zv, run_zeroValue' hi hzv w, constA_ok hz⟩
      · simp at hz
    · simp at hz
  have fin : ∀ {cv : Value} {cr : AVal} {b : Bool}, VRel w G cv cr → VRel w G (if ok then .tuple #[cv, .bool b] else cv) (if ok then .tup [cr, .bool b] else cr) := by
    intro cv cr b hr
    cases ok
    · exact hr
    · refine .tup _ _ rfl fun k c' a' h1 h2 => ?_
      match k with
      | 0 => simp at h1 h2; subst h1; subst h2; exact hr
      | 1 => simp at h1 h2; subst h1; subst h2; exact .bool b
      | k + 2 => simp at h2
  split at e
  · rename_i hkey
    obtain ⟨d, hd, hdk⟩ := keyD_desc (w := w) (G := G) hkd
    have hch : ∀ em, (Instr.checkKey em 10000 kt v).run P w = .ok () w := fun em => MapKept.run_checkKey hd (hdk ry hkey) em 9999
    split at e
    · rename_i hb
      rw [hb] at rx
      simp at e; obtain ⟨rfl, rfl⟩ := e
      cases rx
      have hf : (Instr.findKey kt v []).run P w = .ok none w := MapKept.run_findKey hd rfl
      refine OpRes.same H (v := if ok then .tuple #[zv, .bool false] else zv) ?_ (fin hzv)
      simp [execOp, hop, hv, hv', Instr.lookup, run_underlying ht, hch, hf, hzr, Result.andThen]
    · rename_i id hb
      rw [hb] at rx
      cases rx
      split at e
      · rename_i kd' clock es hg
        split at e
        · rename_i hkk
          subst hkk
          obtain ⟨entries, h1, h2, h3, h4, h5⟩ := obj_map H hg
          have hgo : (getObj (G.loc id)).run P w = .ok (.map entries clock) w := MapKept.run_getObj_map h1
          rcases find_ok (P := P) hkd ry hkey h2 h3 h4 h5 with ⟨f1, f2, _⟩ | ⟨j, en, yy, f1, f2, f3, f4, _⟩
          · rw [f1] at e
            simp at e; obtain ⟨rfl, rfl⟩ := e
            refine OpRes.same H (v := if ok then .tuple #[zv, .bool false] else zv) ?_ (fin hzv)
            simp [execOp, hop, hv, hv', Instr.lookup, run_underlying ht, hgo, hch, f2, hzr, Result.andThen]
          · rw [f1] at e
            simp at e; obtain ⟨rfl, rfl⟩ := e
            refine OpRes.same H (v := if ok then .tuple #[en.val, .bool true] else en.val) ?_ (fin (h3 j en yy f3 f4).2.2)
            simp [execOp, hop, hv, hv', Instr.lookup, run_underlying ht, hgo, hch, f2, Result.andThen]
        · simp at e
      · simp at e
    · simp at e
  · simp at e
theorem op_mput (H : HRel w G h) (hc : Ops a w G c ev) {x y z : Operand} {x' y' z' : Opd} {t kt et : TypeId} {kd : KD} (hx : c x = some x') (hy : c y = some y') (hz : c z = some z') (ht : P.underlying t = some (.map kt et)) (hkd : keyD P kt = some kd) (hop : o.op = .mapUpdate t x y z ∨ o.op = .insert t x y z)
    (e : evalA (.x (.mput kd) [x', y', z']) ev h = some (r, h')) : OpRes P o a w G h r h' := by
  have rx := hc _ _ hx
  have ry := hc _ _ hy
  have rz := hc _ _ hz
  simp only [evalA, evalX, List.map_cons, List.map_nil] at e
  generalize hv : a.eval x = u at rx
  generalize hv' : a.eval y = v at ry
  generalize hv2 : a.eval z = vv at rz
  have hexec : ∀ {w1}, (Instr.mapUpdate t u v vv).run P w = .ok () w1 → (execOp a.eval o).run P w = .ok .skip w1 := fun hr => by
    rcases hop with hop | hop <;> simp [execOp, hop, hv, hv', hv2, hr]
  split at e
  · rename_i hkey
    obtain ⟨d, hd, hdk⟩ := keyD_desc (w := w) (G := G) hkd
    have hik := hdk ry hkey
    have hch : ∀ em, (Instr.checkKey em 10000 kt v).run P w = .ok () w := fun em => MapKept.run_checkKey hd hik em 9999
    split at e
    · rename_i id hb
      rw [hb] at rx
      cases rx
      split at e
      · rename_i kd' clock es hg
        split at e
        · rename_i hkk
          obtain ⟨hkk, hpl⟩ := hkk
          obtain rfl := hkk
          simp at e; obtain ⟨rfl, rfl⟩ := e
          obtain ⟨entries, h1, h2, h3, h4, h5⟩ := obj_map H hg
          have hgo : (getObj (G.loc id)).run P w = .ok (.map entries clock) w := MapKept.run_getObj_map h1
          rcases find_ok (P := P) hkd ry hkey h2 h3 h4 h5 with ⟨f1, f2, f3⟩ | ⟨j, en, yy, f1, f2, f3, f4, f5⟩
          · have hm : mput kd' (ev y') (ev z') clock es = (clock + 1, es ++ [(clock, ev y', ev z')]) := by simp [mput, f1]
            rw [hm]
            obtain ⟨G', x1, x2⟩ := write_map (kd' := kd') (clock' := clock + 1) (es' := es ++ [(clock, ev y', ev z')]) (entries' := entries.push { key := v, val := vv, born := clock }) H hg h1 (by simp [h2]) (fun k e' y0 he hy0 => by
                rw [Array.getElem?_push] at he
                split at he
                · rename_i hk
                  obtain rfl := Option.some.inj he
                  rw [hk, h2, List.getElem?_append_right (Nat.le_refl _)] at hy0
                  simp at hy0; subst hy0
                  exact ⟨rfl, ry, rz⟩
                · have hlt := (Array.getElem?_eq_some_iff.1 he).1
                  rw [List.getElem?_append_left (by omega)] at hy0
                  exact h3 k e' y0 he hy0) (fun y0 hy0 => by
                rcases List.mem_append.1 hy0 with hy0 | hy0
                · exact h4 y0 hy0
                · simp at hy0; subst hy0; exact ⟨hkey, hpl⟩) (MapKept.stamped_push h5 f3)
            refine ⟨undef, _, G', .inr ⟨hexec ?_, rfl⟩, x1, x2, .tup #[] [] rfl (by simp)⟩
            simp [Instr.mapUpdate, run_underlying ht, hgo, hch, f2, MapKept.run_setObj_map _ h1, Result.andThen]
          · have hm : mput kd' (ev y') (ev z') clock es = (clock, es.modify j fun e => (e.1, ev y', ev z')) := by simp [mput, f1]
            rw [hm]
            obtain ⟨G', x1, x2⟩ := write_map (kd' := kd') (clock' := clock) (es' := es.modify j fun e => (e.1, ev y', ev z')) (entries' := entries.modify j fun e => { e with key := v, val := vv }) H hg h1 (by simp [h2]) (fun k e' y0 he hy0 => by
                rw [Array.getElem?_modify] at he
                rw [List.getElem?_modify] at hy0
                by_cases hk : j = k
                · subst hk
                  simp only [if_true, f3, f4, Option.map_eq_map, Option.map_some, Option.some.injEq] at he hy0
                  subst he; subst hy0
                  exact ⟨(h3 j en yy f3 f4).1, ry, rz⟩
                · rw [if_neg hk] at he
                  simp only [hk, if_false, id_map, Option.map_id', Option.map_id] at hy0
                  exact h3 k e' y0 he (by simpa using hy0)) (fun y0 hy0 => by
                obtain ⟨k, hk'⟩ := mem_get hy0
                rw [List.getElem?_modify] at hk'
                by_cases hk : j = k
                · subst hk
                  simp only [if_true, f4, Option.map_eq_map, Option.map_some, Option.some.injEq] at hk'
                  subst hk'
                  exact ⟨hkey, hpl⟩
                · simp only [hk, if_false] at hk'
                  exact h4 y0 (List.mem_of_getElem? (by simpa using hk'))) (MapKept.stamped_modify h5 _ _ (fun _ _ => rfl) (fun e' _ he' => by rw [f3] at he'; obtain rfl := Option.some.inj he'; exact f5.symm))
            refine ⟨undef, _, G', .inr ⟨hexec ?_, rfl⟩, x1, x2, .tup #[] [] rfl (by simp)⟩
            simp [Instr.mapUpdate, run_underlying ht, hgo, hch, f2, f3, f5, MapKept.run_keyThatStays hik, MapKept.run_setObj_map _ h1, Result.andThen]
        · simp at e
      · simp at e
    · simp at e
  · simp at e
theorem op_mdel (H : HRel w G h) (hc : Ops a w G c ev) {x y : Operand} {x' y' : Opd} {t kt et : TypeId} {ts : Array TypeId} {kd : KD} (hx : c x = some x') (hy : c y = some y') (ht : P.underlying t = some (.map kt et)) (hts : ts[0]? = some t) (hkd : keyD P kt = some kd) (hop : o.op = .call { callee := .builtin .delete, args := #[x, y], argTypes := ts })
    (e : evalA (.x (.mdel kd) [x', y']) ev h = some (r, h')) : OpRes P o a w G h r h' := by
  have rx := hc _ _ hx
  have ry := hc _ _ hy
  simp only [evalA, evalX, List.map_cons, List.map_nil] at e
  generalize hv : a.eval x = u at rx
  generalize hv' : a.eval y = v at ry
  have hexec : ∀ {w1 v1}, (Builtin.delete_ ts o.type #[u, v]).run P w = .ok v1 w1 → (execOp a.eval o).run P w = .ok (.value v1) w1 := fun hr => by
    simp [execOp, hop, hv, hv', resolve, invoke, builtin, hr]
  split at e
  · rename_i hkey
    obtain ⟨d, hd, hdk⟩ := keyD_desc (w := w) (G := G) hkd
    have hik := hdk ry hkey
    have hch : ∀ em, (Instr.checkKey em 10000 kt v).run P w = .ok () w := fun em => MapKept.run_checkKey hd hik em 9999
    split at e
    · rename_i hb
      rw [hb] at rx
      simp at e; obtain ⟨rfl, rfl⟩ := e
      cases rx
      exact OpRes.same H (hexec (v1 := .tuple #[]) (by simp [Builtin.delete_, hts, run_underlying ht, hch, Result.andThen])) (.tup #[] [] rfl (by simp))
    · rename_i id hb
      rw [hb] at rx
      cases rx
      split at e
      · rename_i kd' clock es hg
        split at e
        · rename_i hkk
          subst hkk
          obtain ⟨entries, h1, h2, h3, h4, h5⟩ := obj_map H hg
          have hgo : (getObj (G.loc id)).run P w = .ok (.map entries clock) w := MapKept.run_getObj_map h1
          rcases find_ok (P := P) hkd ry hkey h2 h3 h4 h5 with ⟨f1, f2, f3⟩ | ⟨j, en, yy, f1, f2, f3, f4, f5⟩
          · rw [f1] at e
            simp at e; obtain ⟨rfl, rfl⟩ := e
            obtain ⟨G', x1, x2⟩ := write_map (kd' := kd') (clock' := clock) (es' := es) (entries' := entries) H hg h1 h2 h3 h4 h5
            refine ⟨.tuple #[], _, G', .inl (hexec ?_), x1, x2, .tup #[] [] rfl (by simp)⟩
            simp [Builtin.delete_, hts, run_underlying ht, hgo, hch, f2, MapKept.run_setObj_map _ h1, Result.andThen]
          · rw [f1] at e
            simp at e; obtain ⟨rfl, rfl⟩ := e
            have hjlt : j < entries.size := (Array.getElem?_eq_some_iff.1 f3).1
            have hje : entries.eraseIdxIfInBounds j = entries.eraseIdx j hjlt := by simp [Array.eraseIdxIfInBounds, hjlt]
            obtain ⟨G', x1, x2⟩ := write_map (kd' := kd') (clock' := clock) (es' := es.eraseIdx j) (entries' := entries.eraseIdxIfInBounds j) H hg h1 (by rw [hje, Array.size_eraseIdx, List.length_eraseIdx, if_pos (by omega), h2]) (fun k e' y0 he hy0 => by
                rw [← Array.getElem?_toList, hje, Array.toList_eraseIdx, List.getElem?_eraseIdx] at he
                rw [List.getElem?_eraseIdx] at hy0
                by_cases hk : k < j
                · rw [if_pos hk] at he hy0; exact h3 k e' y0 (by simpa using he) hy0
                · rw [if_neg hk] at he hy0; exact h3 (k + 1) e' y0 (by simpa using he) hy0) (fun y0 hy0 => h4 y0 ((List.eraseIdx_sublist _ _).subset hy0)) (MapKept.stamped_erase h5 j)
            refine ⟨.tuple #[], _, G', .inl (hexec ?_), x1, x2, .tup #[] [] rfl (by simp)⟩
            simp [Builtin.delete_, hts, run_underlying ht, hgo, hch, f2, MapKept.run_setObj_map _ h1, Result.andThen]
        · simp at e
      · simp at e
    · simp at e
  · simp at e
theorem op_mlen (H : HRel w G h) (hc : Ops a w G c ev) {x : Operand} {x' : Opd} {t kt et : TypeId} (hx : c x = some x') (ht : P.underlying t = some (.map kt et)) (hop : o.op = .call { callee := .builtin .len, args := #[x], argTypes := #[t] })
    (e : evalA (.x .mlen [x']) ev h = some (r, h')) : OpRes P o a w G h r h' := by
  have rx := hc _ _ hx
  simp only [evalA, evalX, List.map_cons, List.map_nil] at e
  generalize hv : a.eval x = u at rx
  split at e
  · rename_i hb
    rw [hb] at rx
    simp at e; obtain ⟨rfl, rfl⟩ := e
    cases rx
    exact OpRes.same H (v := .int .i64 0) (by simp [execOp, hop, hv, resolve, invoke, builtin, Builtin.len_, run_underlying ht, goInt]) (.int _ _)
  · rename_i id hb
    rw [hb] at rx
    cases rx
    split at e
    · rename_i kd clock es hg
      simp at e; obtain ⟨rfl, rfl⟩ := e
      obtain ⟨entries, h1, h2, h3, h4, h5⟩ := obj_map H hg
      have hgo : (getObj (G.loc id)).run P w = .ok (.map entries clock) w := MapKept.run_getObj_map h1
      exact OpRes.same H (v := .int .i64 es.length) (by simp [execOp, hop, hv, resolve, invoke, builtin, Builtin.len_, run_underlying ht, hgo, goInt, h2, Result.andThen]) (.int _ _)
    · simp at e
  · simp at e
end
end Go.Abs

namespace Go.Abs
section
variable {P : Program} {o : Oper} {a : Act} {w : World} {G : Ghost} {h : Heap} {c : Operand → Option Opd} {ev : Opd → AVal} {r : AVal} {h' : Heap}
theorem bytesRow_get {s : ByteArray} {cap : Nat} {k : Nat} {b : UInt8} (h : s.data.toList[k]? = some b) : (bytesRow s cap)[k]? = some (.int .u8 b.toNat) := by
  unfold bytesRow
  have hlt : k < s.data.size := by simpa using (List.getElem?_eq_some_iff.1 h).1
  rw [Array.getElem?_append_left (by simpa using hlt)]
  rw [Array.getElem?_map]
  have : s.data[k]? = some b := by simpa using h
  rw [this]; rfl
theorem op_s2b (H : HRel w G h) (hc : Ops a w G c ev) {x : Operand} {x' : Opd} {sT dT el : TypeId} {row : Bool} (hx : c x = some x') (hs : P.underlying sT = some .string) (hd : P.underlying dT = some (.slice el)) (he : P.underlying el = some (.int .u8)) (hsz : tSize P el = some 1) (hop : o.op = .convert sT dT x)
    (e : evalA (.x (.s2b row) [x']) ev h = some (r, h')) : OpRes P o a w G h r h' := by
  have rx := hc _ _ hx
  simp only [evalA, evalX, List.map_cons, List.map_nil] at e
  generalize hv : a.eval x = u at rx
  split at e
  · rename_i s hb
    rw [hb] at rx
    cases rx with
    | str s =>
      have hcv := run_bytes_of_string (P := P) w sT dT el s hs hd he
      have hexec : (execOp a.eval o).run P w = .ok (.value (.slice (some ⟨w.heap.size, 0, none⟩) s.size (grownCap w s.size 0 el))) (w.drew.alloc (.cells (bytesRow s (grownCap w s.size 0 el)) el ((bytesRow s (grownCap w s.size 0 el)).size, (bytesRow s (grownCap w s.size 0 el)).size + 1))) := by
        simp [execOp, hop, hv, hcv]
      have hlen : s.data.toList.length = s.size := rfl
      have hge : s.size ≤ grownCap w s.size 0 el := by have := grownCap_ge w s.size 0 el; exact this
      have hrow : (bytesRow s (grownCap w s.size 0 el)).size = grownCap w s.size 0 el := by
        unfold bytesRow
        have : (s.data.map fun b => Value.int .u8 b.toNat).size = s.size := by simp
        rw [Array.size_append, this, Array.size_replicate]; omega
      generalize hcap : grownCap w s.size 0 el = cap at *
      have hnew : (w.drew.alloc (.cells (bytesRow s cap) el ((bytesRow s cap).size, (bytesRow s cap).size + 1))).heap[w.heap.size]? = some (.cells (bytesRow s cap) el ((bytesRow s cap).size, (bytesRow s cap).size + 1)) := (MapKept.heap_alloc w.drew _).1
      generalize hW : w.drew.alloc (.cells (bytesRow s cap) el ((bytesRow s cap).size, (bytesRow s cap).size + 1)) = W at *
      have hsh : W.shape? w.heap.size = some (el, (bytesRow s cap).size) := by unfold World.shape?; rw [hnew]
      have hcl : ∀ k, W.cell? ⟨w.heap.size, k, none⟩ = (bytesRow s cap)[k]? := fun k => by unfold World.cell?; rw [hnew]; rfl
      have hfz : ∀ k, k < (bytesRow s cap).size → W.frozen? ⟨w.heap.size, k, none⟩ = false := fun k hk => by unfold World.frozen?; rw [hnew]; simp; omega
      have H1 := HRel.of_heap (w := w) (w' := w.drew) ⟨rfl, rfl, rfl, rfl⟩ H
      have hcell : ∀ (k : Nat) (x : AVal), (s.data.toList.map fun b => AVal.int .u8 b.toNat)[k]? = some x → ∃ b : UInt8, x = .int .u8 b.toNat ∧ (bytesRow s cap)[k]? = some (.int .u8 b.toNat) := fun k x hk => by
        rw [List.getElem?_map, Option.map_eq_some_iff] at hk
        obtain ⟨b, hb, rfl⟩ := hk
        exact ⟨b, rfl, bytesRow_get hb⟩
      split at e
      · split at e
        · rename_i hle hr
          subst hr
          simp at e; obtain ⟨rfl, rfl⟩ := e
          have hX := Ext.alloc_any H1 (.cells (bytesRow s cap) el ((bytesRow s cap).size, (bytesRow s cap).size + 1)) 0 (some 0) (.row true 1 false (s.data.toList.map fun b => AVal.int .u8 b.toNat))
          have hloc : (G.new w.drew.heap.size 0 (some 0)).loc G.n = w.heap.size := by simp [Ghost.new]
          have hHR := HRel.alloc_any H1 (.cells (bytesRow s cap) el ((bytesRow s cap).size, (bytesRow s cap).size + 1)) 0 (some 0) (.row true 1 false (s.data.toList.map fun b => AVal.int .u8 b.toNat))
          rw [hW] at hX hHR
          refine ⟨_, _, _, .inl hexec, hX.drew, hHR ?_, ?_⟩
          · unfold OkObj
            rw [hloc]
            refine ⟨by simp [Ghost.new], fun k x hk => ?_, fun x hx => ?_, ⟨el, (bytesRow s cap).size, hsh, by rw [hrow]; simp; exact hge, fun T hT => by simp only [typed] at hT; omega⟩, fun _ k e1 n1 h1 h2 => ?_⟩
            · obtain ⟨b, rfl, hb⟩ := hcell k x hk
              exact ⟨_, by rw [hcl, hb], .int _ _⟩
            · rw [List.mem_map] at hx
              obtain ⟨b, _, rfl⟩ := hx; rfl
            · rw [hsh] at h1
              simp at h1
              exact hfz k (by omega)
          · have := VRel.ref (w := W) (G := G.new w.drew.heap.size 0 (some 0)) h.next 0 s.size 1 cap (by simp [Ghost.new, H.n_eq]) hge ⟨el, (bytesRow s cap).size, by rw [← H.n_eq, hloc]; exact hsh, by rw [hrow]; omega⟩
            rw [← H.n_eq, hloc, H.n_eq] at this
            simpa [hlen] using this
        · rename_i hle hr
          simp at e; obtain ⟨rfl, rfl⟩ := e
          have hX := Ext.alloc_free (w := w.drew) (G := G) (h := h) (bytesRow s cap) el ((bytesRow s cap).size, (bytesRow s cap).size + 1)
          have hHR := HRel.alloc_free H1 (bytesRow s cap) el ((bytesRow s cap).size, (bytesRow s cap).size + 1)
          rw [hW] at hX hHR
          refine ⟨_, _, _, .inl hexec, hX.drew, hHR, ?_⟩
          have hflat : flat (s.data.toList.map fun b => AVal.int .u8 b.toNat) = s.data.toList.map fun b => AVal.int .u8 b.toNat := by
            induction s.data.toList with
            | nil => rfl
            | cons b l ih => simp only [flat, List.map_cons, List.flatMap_cons, AVal.cells] at ih ⊢; rw [ih]; rfl
          have hsl := VRel.sl (w := W) (G := { G with lim := fun b => if b = w.drew.heap.size then none else G.lim b }) w.heap.size 0 cap 1 (s.data.toList.map fun b => AVal.int .u8 b.toNat) .none
            (fun k => ((bytesRow s cap)[k]?).getD (.bool false)) (fun x hx => by rw [List.mem_map] at hx; obtain ⟨b, _, rfl⟩ := hx; rfl)
            (fun k x hk => by
              rw [hflat] at hk
              obtain ⟨b, rfl, hb⟩ := hcell k x hk
              rw [Nat.zero_add, hcl, hb]; rfl)
            (fun k x hk => by
              rw [hflat] at hk
              obtain ⟨b, rfl, hb⟩ := hcell k x hk
              rw [hb]; exact .int _ _)
            (fun k hk m hm => by
              have : w.drew.heap.size = w.heap.size := rfl
              simp [this] at hm)
            (fun x hx => by rw [hflat, List.mem_map] at hx; obtain ⟨b, _, rfl⟩ := hx; rfl)
            (fun x hx => by rw [hflat, List.mem_map] at hx; obtain ⟨b, _, rfl⟩ := hx; rfl)
            (by simp; exact hge) (by simp) (by simp)
          rw [List.length_map, hlen] at hsl
          exact hsl
      · simp at e
  · simp at e
theorem bytesL_ok : ∀ {cs : List AVal} {l : List UInt8}, cs.all u8cell = true → bytesL cs = some l → l.length = cs.length ∧ ∀ (k : Nat) (x : AVal), cs[k]? = some x → ∃ b, l[k]? = some b ∧ x = .int .u8 b.toNat
  | [], l, _, e => by simp [bytesL] at e; subst e; simp
  | x :: cs, l, ha, e => by
    simp only [List.all_cons, Bool.and_eq_true] at ha
    cases x with
    | int k n =>
      cases k <;> simp [bytesL] at e
      obtain ⟨l', h1, rfl⟩ := e
      obtain ⟨e1, e2⟩ := bytesL_ok ha.2 h1
      have hn := ha.1
      simp [u8cell] at hn
      refine ⟨by simp [e1], fun k x hk => ?_⟩
      cases k with
      | zero =>
        simp at hk; subst hk
        refine ⟨_, rfl, ?_⟩
        rw [UInt8.toNat_ofNat']
        congr 1
        omega
      | succ k => simpa using e2 k x (by simpa using hk)
    | _ => simp [bytesL] at e
theorem op_b2s (H : HRel w G h) (hc : Ops a w G c ev) {x : Operand} {x' : Opd} {sT dT el : TypeId} (hx : c x = some x') (hs : P.underlying sT = some (.slice el)) (hd : P.underlying dT = some .string) (he : P.underlying el = some (.int .u8)) (hop : o.op = .convert sT dT x)
    (e : evalA (.x .b2s [x']) ev h = some (r, h')) : OpRes P o a w G h r h' := by
  have rx := hc _ _ hx
  simp only [evalA, evalX, List.map_cons, List.map_nil] at e
  generalize hv : a.eval x = u at rx
  split at e
  · rename_i cs hcs
    split at e
    · rename_i hall
      simp only [Option.map_eq_some_iff, Prod.mk.injEq] at e
      obtain ⟨l, hl, rfl, rfl⟩ := e
      obtain ⟨l1, l2⟩ := bytesL_ok hall hl
      have fin : ∀ {b off cap : Nat}, CellsAt w G b off cs → (convert sT dT (.slice (some ⟨b, off, none⟩) l.length cap)).run P w = .ok (.string ⟨l.toArray⟩) w := fun {b off cap} hC => by
        refine run_convert_bytes_back w sT dT el ⟨b, off, none⟩ cap l hs he hd fun j hj => ?_
        obtain ⟨x, hx⟩ : ∃ x, cs[j]? = some x := ⟨_, List.getElem?_eq_getElem (by omega)⟩
        obtain ⟨v, hv1, hv2⟩ := hC j x hx
        obtain ⟨b', hb1, rfl⟩ := l2 j x hx
        rw [List.getElem?_eq_getElem hj] at hb1
        obtain rfl := Option.some.inj hb1
        rw [Addr.add_lit, hv1]
        cases hv2
        rfl
      have hstr : VRel w G (.string ⟨l.toArray⟩) (.str l) := by
        have := VRel.str (w := w) (G := G) ⟨l.toArray⟩
        simpa using this
      have done : ∀ {v : Value}, u = v → (convert sT dT v).run P w = .ok (.string ⟨l.toArray⟩) w → OpRes P o a w G h (.str l) h := fun hu hr => by
        subst hu
        exact OpRes.same H (by simp [execOp, hop, hv, hr]) hstr
      unfold bytesA at hcs
      split at hcs
      · simp at hcs
      rename_i hns
      unfold elemsA at hcs
      split at hcs
      · rename_i ys tk hb
        rw [hb] at rx
        split at hcs
        · rename_i hy
          obtain rfl := Option.some.inj hcs
          cases rx with
          | nilsl =>
            have : l = [] := List.eq_nil_of_length_eq_zero (by rw [l1]; simp [flat])
            subst this
            exact done rfl (run_convert_bytes_nil w sT el hs he 0 0 dT hd)
          | emp =>
            have : l = [] := List.eq_nil_of_length_eq_zero (by rw [l1]; simp [flat])
            subst this
            exact done rfl (run_convert_bytes_back w sT dT el _ 0 [] hs he hd (by intro j hj; simp at hj))
          | sl b off cap sz xs t u0 h0 h1 h2 h3 h4 h5 hcp hnn ho =>
            have hlen : (flat ys).length = ys.length := by
              cases ys with
              | nil => rfl
              | cons y ys' =>
                have hsz : sz = 1 := by rw [← h0 y (by simp)]; exact hy y rfl
                rw [flat_len h0, hsz, Nat.mul_one]
            refine done rfl ?_
            rw [show ys.length = l.length by omega]
            exact fin fun k x hk => ⟨u0 k, h1 k x hk, h2 k x hk⟩
        · simp at hcs
      · rename_i id off len s hb
        rw [hb] at rx
        split at hcs
        · rename_i hs1
          subst hs1
          split at hcs
          · rename_i mu s' ag' cs0 hg
            split at hcs
            · rename_i hbd
              obtain rfl := Option.some.inj hcs
              have hll : l.length = len := by rw [l1]; simp; omega
              obtain ⟨_, o2, _, _, _⟩ := H.obj id _ hg
              cases rx with
              | ref0 _ _ _ b bo hid =>
                have : l = [] := List.eq_nil_of_length_eq_zero hll
                subst this
                refine done rfl ?_
                exact fin (b := b) (off := bo) (cap := 0) (by intro k x hk; simp at hk)
              | ref _ _ _ _ cap hid hcp hsh =>
                refine done rfl ?_
                rw [← hll]
                refine fin ?_
                have hC : CellsAt w G (G.loc id) 0 cs0 := fun k x hk => by simpa using o2 k x hk
                have := (hC.drop off).take (len * 1)
                rwa [Nat.zero_add] at this
            · simp at hcs
          · simp at hcs
        · simp at hcs
      · rename_i s hb
        exact absurd hb (hns s)
      · simp at hcs
    · simp at e
  · simp at e
theorem flatv_strip {x : AVal} (h : flatv x = true) : strip x = some x := by cases x <;> simp [flatv] at h <;> rfl
theorem op_aslice (H : HRel w G h) (hc : Ops a w G c ev) {x : Operand} {x' : Opd} {lo hi : Option Operand} {lo' hi' : Option Opd} {t el : TypeId} {n sz : Nat} {ag : Bool} (hx : c x = some x') (hlo : optO c lo = some lo') (hhi : optO c hi = some hi') (ht : P.underlying t = some (.array n el)) (hs : tSize P el = some sz) (hop : o.op = .slice t x lo hi none)
    (e : evalA (.x (.aslice n sz ag lo'.isSome hi'.isSome) (x' :: (lo'.toList ++ hi'.toList))) ev h = some (r, h')) : OpRes P o a w G h r h' := by
  have rx := hc _ _ hx
  have e' : (match boundA (hi'.map ev) n n with
    | some b => match boundA (lo'.map ev) 0 b with
      | some a => match ev x' with
        | .ptr id off => match h.get id with
          | some (.row _ _ _ cs) => if off + n * sz ≤ cs.length ∧ 0 < sz then some (AVal.ref id (off + a * sz) (b - a) sz, h) else none
          | _ => none
        | .rp cs => if n * sz ≤ cs.length ∧ 0 < sz ∧ cs.all flatv then (chunk sz ag (b - a) (cs.drop (a * sz))).map fun xs => (AVal.sl xs .none, h) else none
        | _ => none
      | none => none
    | none => none) = some (r, h') := by
    rw [← e]
    cases lo' <;> cases hi' <;> rfl
  clear e
  generalize hv : a.eval x = v at rx
  split at e'
  · rename_i hh eh
    split at e'
    · rename_i l elo
      obtain ⟨hb1, hb2, hb3⟩ := bounds_ok (P := P) (w := w) (G := G) (isSlice := false) (cap := n) (y := 0) (d := 0) (optO_ok hc hlo) (optO_ok hc hhi) (Nat.le_refl _) eh elo
      have hexec : ∀ {b off : Nat}, v = .pointer (some ⟨b, off, none⟩) → (execOp a.eval o).run P w = .ok (.value (.slice (if n = l then some ⟨b, off, none⟩ else some ⟨b, off + l * sz, none⟩) (hh - l) (n - l))) w := fun hvv => by
        subst hvv
        by_cases hnl : n = l
        · subst hnl
          simp [execOp, hop, hv, Instr.sliceAt, Instr.sureAddr, run_underlying ht, hb1, run_sizeOf' hs, Addr.add_lit]
        · simp [execOp, hop, hv, Instr.sliceAt, Instr.sureAddr, run_underlying ht, hb1, run_sizeOf' hs, Addr.add_lit, hnl]
      split at e'
      · rename_i id off hb
        rw [hb] at rx
        split at e'
        · rename_i mu s ag' cs hg
          split at e'
          · rename_i hcond
            obtain ⟨hcl, hpos⟩ := hcond
            simp at e'; obtain ⟨rfl, rfl⟩ := e'
            obtain ⟨_, _, _, ⟨e1, n1, q1, q2, _⟩, _⟩ := H.obj id _ hg
            cases rx with
            | ptr _ _ hid =>
              refine OpRes.same H (hexec rfl) ?_
              by_cases hnl : n = l
              · have h0 : hh - l = 0 := by omega
                have h1 : n - l = 0 := by omega
                rw [if_pos hnl, h0, h1]
                exact .ref0 _ _ _ _ _ hid
              · rw [if_neg hnl]
                refine .ref id (off + l * sz) (hh - l) sz (n - l) hid (by omega) ⟨e1, n1, q1, ?_⟩
                have : l * sz + (n - l) * sz = n * sz := by rw [← Nat.add_mul]; congr 1; omega
                omega
          · simp at e'
        · simp at e'
      · rename_i cs hb
        rw [hb] at rx
        split at e'
        · rename_i hcond
          obtain ⟨hcl, hpos, hfl⟩ := hcond
          simp only [Option.map_eq_some_iff, Prod.mk.injEq] at e'
          obtain ⟨xs, hch, rfl, rfl⟩ := e'
          cases rx with
          | rp b off _ u h1 h2 h3 h4 =>
            obtain ⟨c1, c2, c3, c4⟩ := chunk_ok hch (fun c hc' => h4 c (List.mem_of_mem_drop hc'))
            refine OpRes.same H (hexec rfl) ?_
            by_cases hnl : n = l
            · have h0 : hh - l = 0 := by omega
              have hx0 : xs = [] := List.eq_nil_of_length_eq_zero (by rw [c1, h0])
              rw [if_pos hnl, h0, show n - l = 0 by omega, hx0]
              exact vrel_sl0 b off
            · rw [if_neg hnl, ← c1]
              have hget : ∀ (k : Nat) (cc : AVal), (flat xs)[k]? = some cc → cs[l * sz + k]? = some cc := fun k cc hk => by
                rw [c2, List.getElem?_take] at hk
                split at hk
                · rwa [List.getElem?_drop] at hk
                · simp at hk
              refine .sl b (off + l * sz) (n - l) sz xs .none (fun k => u (l * sz + k)) c3 (fun k cc hk => ?_) (fun k cc hk => h2 _ cc (hget k cc hk)) (fun k hk => ?_) (fun cc hcc => ?_) (fun cc hcc => ?_) (by rw [c1]; omega) (by simp) (by simp)
              · rw [Nat.add_assoc]; exact h1 _ cc (hget k cc hk)
              · rw [Nat.add_assoc]
                have := hget k _ (List.getElem?_eq_getElem hk)
                exact h3 _ (List.getElem?_eq_some_iff.1 this).1
              · obtain ⟨k, hk⟩ := mem_get hcc
                exact h4 cc (List.mem_of_getElem? (hget k cc hk))
              · obtain ⟨k, hk⟩ := mem_get hcc
                exact flatv_strip (List.all_eq_true.1 hfl cc (List.mem_of_getElem? (hget k cc hk)))
        · simp at e'
      · simp at e'
    · simp at e'
  · simp at e'
theorem op_s2ap (H : HRel w G h) (hc : Ops a w G c ev) {x : Operand} {x' : Opd} {t el : TypeId} {n sz : Nat} (hx : c x = some x') (ht : P.underlying t = some (.array n el)) (hs : tSize P el = some sz) (hop : o.op = .sliceToArrayPointer t x)
    (e : evalA (.x (.s2ap n sz) [x']) ev h = some (r, h')) : OpRes P o a w G h r h' := by
  have rx := hc _ _ hx
  simp only [evalA, evalX, List.map_cons, List.map_nil] at e
  generalize hv : a.eval x = v at rx
  have hexec : ∀ {ad : Option Addr} {len cap : Nat}, v = .slice ad len cap → n ≤ len → (execOp a.eval o).run P w = .ok (.value (.pointer ad)) w := fun hvv hle => by
    subst hvv
    simp [execOp, hop, hv, Instr.arrayAt, run_underlying ht, Nat.not_lt.2 hle]
  split at e
  · rename_i id off len s hb
    rw [hb] at rx
    split at e
    · rename_i hcond
      obtain ⟨rfl, hle, hpos⟩ := hcond
      simp at e; obtain ⟨rfl, rfl⟩ := e
      cases rx with
      | ref0 => omega
      | ref _ _ _ _ cap hid hcp hsh => exact OpRes.same H (hexec rfl hle) (.ptr _ _ hid)
    · simp at e
  · rename_i xs tk hb
    rw [hb] at rx
    split at e
    · rename_i hcond
      obtain ⟨hle, hpos, hhd⟩ := hcond
      simp at e; obtain ⟨rfl, rfl⟩ := e
      cases rx with
      | nilsl => simp at hle; omega
      | emp => simp at hle; omega
      | sl b off cap sz0 _ _ u h0 h1 h2 h3 h4 h5 hcp hnn ho =>
        refine OpRes.same H (hexec rfl hle) (.rp b off _ u (fun k cc hk => ?_) (fun k cc hk => ?_) (fun k hk => ?_) (fun cc hcc => h4 cc (List.mem_of_mem_take hcc)))
        · rw [List.getElem?_take] at hk
          split at hk
          · exact h1 k cc hk
          · simp at hk
        · rw [List.getElem?_take] at hk
          split at hk
          · exact h2 k cc hk
          · simp at hk
        · rw [List.length_take] at hk
          exact h3 k (by omega)
    · simp at e
  · simp at e
theorem op_slice30 (H : HRel w G h) (hc : Ops a w G c ev) {x y z : Operand} {x' y' z' : Opd} {t el : TypeId} {sz : Nat} (hx : c x = some x') (hy : c y = some y') (hz : c z = some z') (ht : P.underlying t = some (.slice el)) (hs : tSize P el = some sz) (hop : o.op = .slice t x none (some y) (some z))
    (e : evalA (.x (.slice30 sz) [x', y', z']) ev h = some (r, h')) : OpRes P o a w G h r h' := by
  have rx := hc _ _ hx
  have ry := hc _ _ hy
  have rz := hc _ _ hz
  simp only [evalA, evalX, List.map_cons, List.map_nil] at e
  generalize hv : a.eval x = v at rx
  generalize hv1 : a.eval y = v1 at ry
  generalize hv2 : a.eval z = v2 at rz
  split at e
  · rename_i k1 k2 hb1 hb2
    rw [hb1] at ry; rw [hb2] at rz
    cases ry; cases rz
    have hexec : ∀ {ad : Option Addr} {len cap : Nat}, v = .slice ad len cap → (execOp a.eval o).run P w = .ok (.value (.slice ad 0 0)) w := fun hvv => by
      subst hvv
      simp [execOp, hop, hv, hv1, hv2, Instr.sliceAt, Instr.slice, Instr.sliceBounds, Instr.sliceBound, asIntOf, run_underlying ht, run_sizeOf' hs]
    split at e
    · rename_i xs tk hb
      rw [hb] at rx
      simp at e; obtain ⟨rfl, rfl⟩ := e
      cases rx with
      | nilsl _ htk =>
        refine OpRes.same H (hexec rfl) ?_
        rcases htk with rfl | rfl | rfl
        · exact .nilsl _ (by simp)
        · exact .nilsl _ (by simp)
        · exact .nilsl _ (by simp)
      | emp ad _ htk =>
        refine OpRes.same H (hexec rfl) ?_
        rcases htk with rfl | rfl
        · exact .emp _ _ (by simp)
        · exact .emp _ _ (by simp)
      | sl b off cap sz0 _ _ u h0 h1 h2 h3 h4 h5 hcp hnn ho =>
        refine OpRes.same H (hexec rfl) ?_
        rw [if_neg hnn.1]
        exact .sl b off 0 0 [] .full (fun _ => .bool false) (by simp) (by simp [flat]) (by simp [flat]) (by simp [flat]) (by simp [flat]) (by simp [flat]) (by simp) (by simp) (by simp)
    · rename_i id off len s hb
      rw [hb] at rx
      simp at e; obtain ⟨rfl, rfl⟩ := e
      cases rx with
      | ref0 _ _ _ b bo hid =>
        refine OpRes.same H (hexec rfl) ?_
        exact .sl b bo 0 0 [] .full (fun _ => .bool false) (by simp) (by simp [flat]) (by simp [flat]) (by simp [flat]) (by simp [flat]) (by simp [flat]) (by simp) (by simp) (by simp)
      | ref _ _ _ _ cap hid hcp hsh =>
        refine OpRes.same H (hexec rfl) ?_
        exact .sl (G.loc id) off 0 0 [] .full (fun _ => .bool false) (by simp) (by simp [flat]) (by simp [flat]) (by simp [flat]) (by simp [flat]) (by simp [flat]) (by simp) (by simp) (by simp)
    · simp at e
  · simp at e
theorem op_elit (H : HRel w G h) (hc : Ops a w G c ev) {t el : TypeId} {sz : Nat} {z : List AVal} {ps : Array (Nat × Operand)} (ht : P.underlying t = some (.slice el)) (hs : tSize P el = some sz) (hz : tZero P el = some z) (hzl : z.length = sz)
    (hp : compParts c ps.toList = some []) (hop : o.op = .buildSlice t 0 ps) (e : evalA (.x .elit []) ev h = some (r, h')) : OpRes P o a w G h r h' := by
  simp [evalA, evalX] at e
  obtain ⟨rfl, rfl⟩ := e
  obtain ⟨arr, hrun, hpts, hone, hlen⟩ := lit_run (P := P) (o := o) (cs := []) hc ht hs hz hp hop hzl (by omega) (by simp [repl, fillA])
  have harr : arr = #[] := Array.eq_empty_of_size_eq_zero (by rw [hpts.len]; rfl)
  obtain ⟨G', z1, z2, z3⟩ := new_free H (arr := arr) (el := el) (xs := []) (sz := sz) (cap := 0) (by simp) (by simp [flat]) (by simp [flat]) (by simp [flat]) (by simp)
  refine ⟨_, _, G', .inl hrun, z1, z2, ?_⟩
  exact .sl w.heap.size 0 0 0 [] .full (fun _ => .bool false) (by simp) (by simp [flat]) (by simp [flat]) (by simp [flat]) (by simp [flat]) (by simp [flat]) (by simp) (by simp) (by simp)
theorem op_afresh (H : HRel w G h) (hc : Ops a w G c ev) {x y : Operand} {x' y' : Opd} {t u el : TypeId} {bytes sz : Nat} {ag : Bool} {z : List AVal} (hx : c x = some x') (hy : c y = some y') (ht : P.underlying t = some (.slice el)) (hu : appendable P u)
    (hb : tBytes P el = some bytes) (hs : tSize P el = some sz) (hz : tZero P el = some z) (hzl : z.length = sz) (hop : o.op = .call { callee := .builtin .append, args := #[x, y], argTypes := #[t, u] })
    (e : evalA (.x (.afresh el bytes sz ag) [x', y']) ev h = some (r, h')) : OpRes P o a w G h r h' := by
  refine op_append (arr := true) (ag := ag) H hc hx hy ht hu hb hs hz hzl hop ?_
  simp only [evalA, evalX, List.map_cons, List.map_nil] at e ⊢
  split at e
  · rename_i hb; rw [hb] at e ⊢; exact e
  · rename_i hb; rw [hb] at e ⊢; exact e
  · simp at e
end
end Go.Abs

namespace Go.Abs
section
variable {P : Program} {o : Oper} {a : Act} {w : World} {G : Ghost} {h : Heap} {c : Operand → Option Opd} {ev : Opd → AVal} {r : AVal} {h' : Heap} {Hh : Hints} {fid dst : Nat}
theorem list1 {α : Type} {a : Array α} {x : α} (h : a.toList = [x]) : a = #[x] := by cases a; simp_all
theorem list2 {α : Type} {a : Array α} {x y : α} (h : a.toList = [x, y]) : a = #[x, y] := by cases a; simp_all
theorem builtin_ok (H : HRel w G h) (hc : Ops a w G c ev) {k : Call} {b : Builtin} {aop : AOp} (hop : o.op = .call k) (hb : k.callee = .builtin b) (hcomp : compBuiltin P Hh fid c dst b k.args.toList k.argTypes.toList = some aop)
    (e : evalA aop ev h = some (r, h')) : OpRes P o a w G h r h' := by
  obtain ⟨cal, args, ts⟩ := k
  simp only at hb hcomp
  subst hb
  unfold compBuiltin at hcomp
  split at hcomp
  · rename_i x t ha ht
    have := list1 ha; have := list1 ht; subst_vars
    split at hcomp
    · rename_i el x' hu hx; obtain rfl := Option.some.inj hcomp; exact op_len H hc hx hu hop e
    · rename_i x' hu hx; obtain rfl := Option.some.inj hcomp; exact op_slen H hc hx hu hop e
    · rename_i kt et x' hu hx; obtain rfl := Option.some.inj hcomp; exact op_mlen H hc hx hu hop e
    · simp at hcomp
  · rename_i x y t ts' ha ht
    have := list2 ha; subst_vars
    split at hcomp
    · rename_i kt et x' y' hu hx hy
      simp only [Option.map_eq_some_iff] at hcomp
      obtain ⟨kd, hkd, rfl⟩ := hcomp
      exact op_mdel H hc hx hy hu (by rw [← Array.getElem?_toList, ht]; rfl) hkd hop e
    · simp at hcomp
  · rename_i x y t u ha ht
    have := list2 ha; have := list2 ht; subst_vars
    split at hcomp
    · rename_i el ud x' y' hu hu' hx hy
      split at hcomp
      · rename_i e' b s ag z h1 h2 h3 h4
        split at hcomp
        · rename_i hzl
          obtain rfl := Option.some.inj hcomp
          split at e
          · exact op_afresh H hc hx hy hu (.inl ⟨_, hu'⟩) h1 h2 h4 hzl hop e
          · exact op_append H hc hx hy hu (.inl ⟨_, hu'⟩) h1 h2 h4 hzl hop e
        · simp at hcomp
      · rename_i b s ag z h1 h2 h3 h4
        split at hcomp
        · rename_i hzl
          obtain rfl := Option.some.inj hcomp
          split at e
          · exact op_afresh H hc hx hy hu (.inr hu') h1 h2 h4 hzl hop e
          · exact op_append H hc hx hy hu (.inr hu') h1 h2 h4 hzl hop e
        · simp at hcomp
      · simp at hcomp
    · simp at hcomp
  · rename_i x y t u ha ht
    have := list2 ha; have := list2 ht; subst_vars
    split at hcomp
    · rename_i el x' y' hu hx hy
      simp only [Option.map_eq_some_iff] at hcomp
      obtain ⟨s, hs, rfl⟩ := hcomp
      exact op_copy H hc hx hy hu hs hop e
    · simp at hcomp
  · rename_i x y ts' ha
    have := list2 ha; subst_vars
    split at hcomp
    · rename_i x' y' hx hy; obtain rfl := Option.some.inj hcomp; exact op_mnx (mx := false) H hc hx hy hop e
    · simp at hcomp
  · rename_i x y ts' ha
    have := list2 ha; subst_vars
    split at hcomp
    · rename_i x' y' hx hy; obtain rfl := Option.some.inj hcomp; exact op_mnx (mx := true) H hc hx hy hop e
    · simp at hcomp
  · simp at hcomp
def isCall : AOp → Bool
  | .call _ _ | .pcall _ _ | .gcall _ _ => true
  | _ => false
theorem op_ok (H : HRel w G h) (hc : Ops a w G c ev) {aop : AOp} (hcomp : compOp P Hh fid c dst o.op = some aop) (hnc : isCall aop = false) (e : evalA aop ev h = some (r, h')) : OpRes P o a w G h r h' := by
  generalize hop : o.op = op at hcomp
  cases op <;> simp only [compOp, Option.map_eq_some_iff] at hcomp
  case move x => obtain ⟨x', hx, rfl⟩ := hcomp; exact op_mov H hc hx (.inl hop) e
  case assign x => obtain ⟨x', hx, rfl⟩ := hcomp; exact op_mov H hc hx (.inr hop) e
  case pick x y z =>
    split at hcomp
    · rename_i x' y' z' hx hy hz; obtain rfl := Option.some.inj hcomp; exact op_pick H hc hx hy hz hop e
    · simp at hcomp
  case alloc t =>
    split at hcomp
    · rename_i s ag z hs ha hz; obtain rfl := Option.some.inj hcomp; exact op_alloc H hs hz hop e
    · simp at hcomp
  case box t x =>
    split at hcomp
    · rename_i s ag x' hs ha hx; obtain rfl := Option.some.inj hcomp; exact op_box H hc hx hs hop e
    · simp at hcomp
  case build t ps =>
    split at hcomp
    · rename_i fs z qs ht hz hp
      split at hcomp
      · rename_i hall
        simp only [Option.map_eq_some_iff] at hcomp
        obtain ⟨qs', hq, rfl⟩ := hcomp
        exact op_build_struct H hc ht hz hp hall (by simpa using hq) hop e
      · simp at hcomp
    · rename_i n el z qs ht hz hp
      simp only [Option.map_eq_some_iff] at hcomp
      obtain ⟨s, hs, rfl⟩ := hcomp
      exact op_build_array H hc ht hz hs hp hop e
    · simp at hcomp
  case buildSlice t n ps =>
    split at hcomp
    · rename_i el qs ht hp
      have ht' : P.underlying t = some (.slice el) := by
        unfold tElem at ht; split at ht
        · simp at ht; subst ht; assumption
        · simp at ht
      split at hcomp
      · rename_i s ag z hs ha hz
        split at hcomp
        · rename_i hcond
          simp only [Bool.and_eq_true, decide_eq_true_eq] at hcond
          obtain rfl := Option.some.inj hcomp
          have h0 := hcond.1.1.1.1.1
          have hzl := hcond.1.1.1.2
          have hq : qs = [] := by have := hcond.1.1.1.1.2; simpa using this
          subst hq
          rw [h0] at hop
          exact op_elit H hc ht' hs hz hzl hp hop e
        · obtain rfl := Option.some.inj hcomp; exact op_lit H hc ht' hs hz hp hop e
      · simp at hcomp
    · simp at hcomp
  case load t x =>
    split at hcomp
    · rename_i s ag x' hs ha hx; obtain rfl := Option.some.inj hcomp; exact op_load H hc hx hs ha hop e
    · simp at hcomp
  case store t x y =>
    split at hcomp
    · rename_i s x' y' hs hx hy; obtain rfl := Option.some.inj hcomp; exact op_store H hc hx hy hs hop e
    · simp at hcomp
  case nilCheck x => obtain ⟨x', hx, rfl⟩ := hcomp; exact op_nilc H hc hx hop e
  case binOp op t x y yt =>
    split at hcomp
    · rename_i k x' y' ht hx hy; obtain rfl := Option.some.inj hcomp; exact op_bin H hc (bk := .arith) hx hy trivial hop e
    · rename_i x' y' ht hx hy; obtain rfl := Option.some.inj hcomp; exact op_bin H hc (bk := .arith) hx hy trivial hop e
    · rename_i x' y' ht hx hy; obtain rfl := Option.some.inj hcomp; exact op_bin H hc (bk := .bool) hx hy ht hop e
    · rename_i fs x' y' ht hx hy
      simp only [Option.map_eq_some_iff] at hcomp
      obtain ⟨ks, hks, rfl⟩ := hcomp
      exact op_bin H hc (bk := .struct ks) hx hy (.inl hks) hop e
    · rename_i n0 e0 x' y' ht hx hy
      simp only [Option.map_eq_some_iff] at hcomp
      obtain ⟨ks, hks, rfl⟩ := hcomp
      exact op_bin H hc (bk := .struct ks) hx hy (.inr hks) hop e
    · rename_i el x' y' ht hx hy; obtain rfl := Option.some.inj hcomp; exact op_bin H hc (bk := .ptr) hx hy ⟨_, ht⟩ hop e
    · rename_i el x' y' ht hx hy; obtain rfl := Option.some.inj hcomp; exact op_bin H hc (bk := .sl) hx hy ⟨_, ht⟩ hop e
    · rename_i p1 p2 p3 x' y' ht hx hy; obtain rfl := Option.some.inj hcomp; exact op_bin H hc (bk := .fn) hx hy ⟨_, _, _, ht⟩ hop e
    · simp at hcomp
  case unOp op t x => obtain ⟨x', hx, rfl⟩ := hcomp; exact op_un H hc hx hop e
  case convert s d x =>
    split at hcomp
    · rename_i k0 k x' hs hd hx; obtain rfl := Option.some.inj hcomp; exact op_toInt H hc hx hs hd hop e
    · rename_i x' hs hd hx; obtain rfl := Option.some.inj hcomp; exact op_idstr H hc hx hs hd hop e
    · rename_i el x' hs hd hx
      split at hcomp
      · rename_i he hsz; obtain rfl := Option.some.inj hcomp; exact op_s2b H hc hx hs hd he hsz hop e
      · simp at hcomp
    · rename_i el x' hs hd hx
      split at hcomp
      · rename_i he; obtain rfl := Option.some.inj hcomp; exact op_b2s H hc hx hs hd he hop e
      · simp at hcomp
    · simp at hcomp
  case makeMap t r0 =>
    split at hcomp
    · rename_i kt et ht
      simp only [Option.map_eq_some_iff] at hcomp
      obtain ⟨kd, hkd, rfl⟩ := hcomp
      exact op_mkmap (kt := kt) (et := et) H hop e
    · simp at hcomp
  case lookup t x y ok =>
    split at hcomp
    · rename_i kt et x' y' ht hx hy
      split at hcomp
      · rename_i kd z hkd hz; obtain rfl := Option.some.inj hcomp; exact op_mlook H hc hx hy ht hkd hz hop e
      · simp at hcomp
    · simp at hcomp
  case mapUpdate t x y z =>
    split at hcomp
    · rename_i kt et x' y' z' ht hx hy hz
      simp only [Option.map_eq_some_iff] at hcomp
      obtain ⟨kd, hkd, rfl⟩ := hcomp
      exact op_mput H hc hx hy hz ht hkd (.inl hop) e
    · simp at hcomp
  case insert t x y z =>
    split at hcomp
    · rename_i kt et x' y' z' ht hx hy hz
      simp only [Option.map_eq_some_iff] at hcomp
      obtain ⟨kd, hkd, rfl⟩ := hcomp
      exact op_mput H hc hx hy hz ht hkd (.inr hop) e
    · simp at hcomp
  case sliceToArrayPointer t x =>
    split at hcomp
    · rename_i n el x' ht hx
      simp only [Option.map_eq_some_iff] at hcomp
      obtain ⟨s, hs, rfl⟩ := hcomp
      exact op_s2ap H hc hx ht hs hop e
    · simp at hcomp
  case makeFunc fn first cap =>
    cases fn <;> simp only [Option.map_eq_some_iff] at hcomp
    case func f =>
      split at hcomp
      · rename_i hz
        simp only [Option.map_eq_some_iff] at hcomp
        obtain ⟨cs, hcs, rfl⟩ := hcomp
        have : first = #[] := Array.eq_empty_of_size_eq_zero hz
        subst this
        exact op_clo H hc hcs hop e
      · simp at hcomp
    all_goals simp at hcomp
  case makeSlice t l m =>
    split at hcomp
    · rename_i el l' m' ht hl hm
      have ht' : P.underlying t = some (.slice el) := by
        unfold tElem at ht; split at ht
        · simp at ht; subst ht; assumption
        · simp at ht
      split at hcomp
      · rename_i b s ag z h1 h2 h3 h4; obtain rfl := Option.some.inj hcomp; exact op_mksl H hc hl hm ht' h1 h2 h4 hop e
      · simp at hcomp
    · simp at hcomp
  case slice t x lo hi mx =>
    cases mx with
    | some q =>
      cases lo with
      | some q2 => simp at hcomp
      | none =>
        cases hi with
        | none => simp at hcomp
        | some q3 =>
          simp only at hcomp
          split at hcomp
          · rename_i el x' hi' mx' ht hx hhi hmx
            simp only [Option.map_eq_some_iff] at hcomp
            obtain ⟨s, hs, rfl⟩ := hcomp
            exact op_slice30 H hc hx hhi hmx ht hs hop e
          · simp at hcomp
    | none =>
      simp only at hcomp
      split at hcomp
      · rename_i el x' lo' hi' ht hx hlo hhi
        simp only [Option.map_eq_some_iff] at hcomp
        obtain ⟨s, hs, rfl⟩ := hcomp
        exact op_slice H hc hx hlo hhi ht hs hop e
      · rename_i x' lo' hi' ht hx hlo hhi; obtain rfl := Option.some.inj hcomp; exact op_sslice H hc hx hlo hhi ht hop e
      · rename_i n el x' lo' hi' ht hx hlo hhi
        split at hcomp
        · rename_i s ag hs ha; obtain rfl := Option.some.inj hcomp; exact op_aslice H hc hx hlo hhi ht hs hop e
        · simp at hcomp
      · simp at hcomp
  case fieldAddr t x i =>
    split at hcomp
    · rename_i fs x' ht hx
      split at hcomp
      · rename_i f hf
        split at hcomp
        · rename_i n hn
          split at hcomp
          · simp at hcomp
          · rename_i hne; obtain rfl := Option.some.inj hcomp; exact op_faddr H hc hx ht hf hn hne hop e
        · simp at hcomp
      · simp at hcomp
    · simp at hcomp
  case field t x i =>
    split at hcomp
    · rename_i fs x' ht hx
      split at hcomp
      · rename_i f hf
        split at hcomp
        · rename_i s ag hs ha; obtain rfl := Option.some.inj hcomp; exact op_field H hc hx ht hf hs ha hop e
        · simp at hcomp
      · simp at hcomp
    · simp at hcomp
  case indexAddr t x i =>
    split at hcomp
    · rename_i el x' i' ht hx hi
      simp only [Option.map_eq_some_iff] at hcomp
      obtain ⟨s, hs, rfl⟩ := hcomp
      exact op_iaddr H hc hx hi ht hs hop e
    · rename_i n el x' i' ht hx hi
      simp only [Option.map_eq_some_iff] at hcomp
      obtain ⟨s, hs, rfl⟩ := hcomp
      exact op_aaddr H hc hx hi ht hs hop e
    · simp at hcomp
  case index t x i =>
    split at hcomp
    · rename_i x' i' ht hx hi; obtain rfl := Option.some.inj hcomp; exact op_sidx H hc hx hi ht hop e
    · rename_i n el x' i' ht hx hi
      split at hcomp
      · rename_i s ag hs ha; obtain rfl := Option.some.inj hcomp; exact op_aidx H hc hx hi ht hs ha hop e
      · simp at hcomp
    · simp at hcomp
  case extract x i => obtain ⟨x', hx, rfl⟩ := hcomp; exact op_ext H hc hx hop e
  case call k =>
    unfold compCall at hcomp
    split at hcomp
    · rename_i b hb; exact builtin_ok H hc hop hb hcomp e
    · split at hcomp
      · repeat' split at hcomp
        all_goals (obtain rfl := Option.some.inj hcomp; simp [isCall] at hnc)
      · simp only [Option.map_eq_some_iff] at hcomp
        obtain ⟨_, _, rfl⟩ := hcomp; simp [isCall] at hnc
      · simp at hcomp
    · simp at hcomp
  all_goals simp at hcomp
theorem call_of_comp {aop : AOp} (hcomp : compOp P Hh fid c dst o.op = some aop) (hic : isCall aop = true) :
    ∃ f args asx ts, o.op = .call { callee := .value f, args := args, argTypes := ts } ∧ optL c args.toList = some asx ∧
      ((∃ g, f = .func g ∧ aop = .pcall g asx) ∨ (∃ f', (c f = some f' ∨ ∃ g, f = .func g ∧ f' = .c (.fn g [])) ∧ aop = .call f' asx) ∨ ∃ g, f = .func g ∧ aop = .gcall g asx) := by
  generalize hop : o.op = op at hcomp
  cases op
  case call k =>
    obtain ⟨cal, args, ts⟩ := k
    simp only [compOp, compCall] at hcomp
    split at hcomp
    · rename_i b
      unfold compBuiltin at hcomp
      repeat' split at hcomp
      all_goals first
        | (simp at hcomp; done)
        | (simp only [Option.map_eq_some_iff] at hcomp; obtain ⟨_, _, rfl⟩ := hcomp; simp [isCall] at hic; done)
        | (obtain rfl := Option.some.inj hcomp; simp [isCall] at hic)
    · rename_i f
      split at hcomp
      · rename_i g asx ha
        split at hcomp
        · obtain rfl := Option.some.inj hcomp; exact ⟨_, args, asx, ts, rfl, ha, .inl ⟨g, rfl, rfl⟩⟩
        · split at hcomp
          · obtain rfl := Option.some.inj hcomp; exact ⟨_, args, asx, ts, rfl, ha, .inr (.inr ⟨g, rfl, rfl⟩)⟩
          · obtain rfl := Option.some.inj hcomp; exact ⟨_, args, asx, ts, rfl, ha, .inr (.inl ⟨_, .inr ⟨g, rfl, rfl⟩, rfl⟩)⟩
      · rename_i f asx _ ha
        simp only [Option.map_eq_some_iff] at hcomp
        obtain ⟨f', hf, rfl⟩ := hcomp
        exact ⟨_, args, asx, ts, rfl, ha, .inr (.inl ⟨f', .inl hf, rfl⟩)⟩
      · simp at hcomp
    · simp at hcomp
  all_goals
    exfalso
    simp only [compOp] at hcomp
    repeat' split at hcomp
    all_goals first
      | contradiction
      | (simp at hcomp; done)
      | (simp only [Option.map_eq_some_iff] at hcomp; obtain ⟨_, _, rfl⟩ := hcomp; simp [isCall] at hic; done)
      | (obtain rfl := Option.some.inj hcomp; simp [isCall] at hic)
end
end Go.Abs

namespace Go.Abs
mutual
theorem AVal.beq_eq : ∀ (x y : AVal), AVal.beq x y = true → x = y
  | .bool a, y, h => by cases y <;> simp_all [AVal.beq]
  | .int k a, y, h => by cases y <;> simp_all [AVal.beq]
  | .str a, y, h => by cases y <;> simp_all [AVal.beq]
  | .sl xs t, y, h => by
    cases y <;> simp [AVal.beq] at h
    rename_i ys t'
    rw [AVal.beqL_eq xs ys h.1, h.2]
  | .nilptr, y, h => by cases y <;> simp_all [AVal.beq]
  | .ptr a b, y, h => by cases y <;> simp_all [AVal.beq]
  | .rp xs, y, h => by
    cases y <;> simp [AVal.beq] at h
    rename_i ys
    rw [AVal.beqL_eq xs ys h]
  | .ref a b c d, y, h => by cases y <;> simp_all [AVal.beq]
  | .fn f xs, y, h => by
    cases y <;> simp [AVal.beq] at h
    rename_i g ys
    rw [AVal.beqL_eq xs ys h.2, h.1]
  | .nilfn, y, h => by cases y <;> simp_all [AVal.beq]
  | .nilif, y, h => by cases y <;> simp_all [AVal.beq]
  | .agg xs, y, h => by
    cases y <;> simp [AVal.beq] at h
    rename_i ys
    rw [AVal.beqL_eq xs ys h]
  | .tup xs, y, h => by
    cases y <;> simp [AVal.beq] at h
    rename_i ys
    rw [AVal.beqL_eq xs ys h]
  | .mp a, y, h => by cases y <;> simp_all [AVal.beq]
  | .nilmp, y, h => by cases y <;> simp_all [AVal.beq]
  | .yld a, y, h => by cases y <;> simp_all [AVal.beq]
  | .bad, y, h => by cases y <;> simp_all [AVal.beq]
theorem AVal.beqL_eq : ∀ (xs ys : List AVal), AVal.beqL xs ys = true → xs = ys
  | [], ys, h => by cases ys <;> simp_all [AVal.beqL]
  | x :: xs, ys, h => by
    cases ys with
    | nil => simp [AVal.beqL] at h
    | cons y ys =>
      simp [AVal.beqL] at h
      rw [AVal.beq_eq x y h.1, AVal.beqL_eq xs ys h.2]
end
mutual
theorem AVal.beq_refl : ∀ (x : AVal), AVal.beq x x = true
  | .bool a => by simp [AVal.beq]
  | .int k a => by simp [AVal.beq]
  | .str a => by simp [AVal.beq]
  | .sl xs t => by simp [AVal.beq, AVal.beqL_refl xs]
  | .nilptr => by simp [AVal.beq]
  | .ptr a b => by simp [AVal.beq]
  | .rp xs => by simp [AVal.beq, AVal.beqL_refl xs]
  | .ref a b c d => by simp [AVal.beq]
  | .fn f xs => by simp [AVal.beq, AVal.beqL_refl xs]
  | .nilfn => by simp [AVal.beq]
  | .nilif => by simp [AVal.beq]
  | .agg xs => by simp [AVal.beq, AVal.beqL_refl xs]
  | .tup xs => by simp [AVal.beq, AVal.beqL_refl xs]
  | .mp a => by simp [AVal.beq]
  | .nilmp => by simp [AVal.beq]
  | .yld a => by simp [AVal.beq]
  | .bad => by simp [AVal.beq]
theorem AVal.beqL_refl : ∀ (xs : List AVal), AVal.beqL xs xs = true
  | [] => by simp [AVal.beqL]
  | x :: xs => by simp [AVal.beqL, AVal.beq_refl x, AVal.beqL_refl xs]
end
theorem beqEs_eq : ∀ (xs ys : List (Nat × AVal × AVal)), beqEs xs ys = true → xs = ys
  | [], ys, h => by cases ys <;> simp_all [beqEs]
  | x :: xs, ys, h => by
    cases ys with
    | nil => simp [beqEs] at h
    | cons y ys =>
      simp only [beqEs, Bool.and_eq_true, beq_iff_eq] at h
      obtain ⟨⟨⟨h1, h2⟩, h3⟩, h4⟩ := h
      obtain ⟨a, b, c⟩ := x
      obtain ⟨a', b', c'⟩ := y
      simp only at h1 h2 h3
      rw [h1, AVal.beq_eq _ _ h2, AVal.beq_eq _ _ h3, beqEs_eq xs ys h4]
theorem beqEs_refl : ∀ (xs : List (Nat × AVal × AVal)), beqEs xs xs = true
  | [] => rfl
  | x :: xs => by simp [beqEs, AVal.beq_refl, beqEs_refl xs]
theorem Obj.beq_eq {a b : Obj} (h : a.beq b = true) : a = b := by
  cases a <;> cases b <;> simp [Obj.beq] at h
  · obtain ⟨⟨⟨h1, h2⟩, h3⟩, h4⟩ := h
    rw [h1, h2, h3, AVal.beqL_eq _ _ h4]
  · rw [h]
  · obtain ⟨⟨h1, h2⟩, h3⟩ := h
    rw [h1, h2, beqEs_eq _ _ h3]
  · obtain ⟨⟨⟨⟨h1, h2⟩, h3⟩, h4⟩, h5⟩ := h
    rw [h1, h2, h3, h4, AVal.beqL_eq _ _ h5]
theorem Obj.beq_refl (a : Obj) : a.beq a = true := by
  cases a <;> simp [Obj.beq, AVal.beqL_refl, beqEs_refl]
theorem beqO_eq {a b : Option Obj} (h : beqO a b = true) : a = b := by
  cases a <;> cases b <;> simp [beqO] at h
  · rfl
  · rw [Obj.beq_eq h]
theorem beqO_refl (a : Option Obj) : beqO a a = true := by cases a <;> simp [beqO, Obj.beq_refl]
theorem extB_iff {h h' : Heap} : extB h h' = true ↔ h.next ≤ h'.next ∧ ∀ id, id < h.next → h'.get id = h.get id := by
  unfold extB
  simp only [Bool.and_eq_true, decide_eq_true_eq, List.all_eq_true, List.mem_range]
  exact ⟨fun ⟨h1, h2⟩ => ⟨h1, fun id hid => beqO_eq (h2 id hid)⟩, fun ⟨h1, h2⟩ => ⟨h1, fun id hid => by rw [h2 id hid]; exact beqO_refl _⟩⟩
theorem extB_refl (h : Heap) : extB h h = true := extB_iff.2 ⟨Nat.le_refl _, fun _ _ => rfl⟩
theorem beqOs_eq : ∀ {a b : List (Option Obj)}, beqOs a b = true → a = b
  | [], b, h => by cases b <;> simp_all [beqOs]
  | x :: xs, b, h => by
    cases b with
    | nil => simp [beqOs] at h
    | cons y ys =>
      simp only [beqOs, Bool.and_eq_true] at h
      rw [beqO_eq h.1, beqOs_eq h.2]
theorem beqOs_refl : ∀ (a : List (Option Obj)), beqOs a a = true
  | [] => rfl
  | x :: xs => by simp [beqOs, beqO_refl, beqOs_refl xs]
theorem heapBeq_eq {a b : Heap} (h : heapBeq a b = true) : a = b := by
  obtain ⟨n, l⟩ := a
  obtain ⟨n', l'⟩ := b
  simp only [heapBeq, Bool.and_eq_true, beq_iff_eq] at h
  rw [h.1, beqOs_eq h.2]
theorem heapBeq_refl (a : Heap) : heapBeq a a = true := by simp [heapBeq, beqOs_refl]
theorem altsA_iff {cf : CallF} {vs : List AVal} {h : Heap} {r : List AVal × Heap} : ∀ {ls : List (List AOper)}, altsA cf vs h ls = some r ↔ ls ≠ [] ∧ ∀ l ∈ ls, ∃ s, foldA cf l 0 ⟨vs, List.replicate l.length .bad, h⟩ = some s ∧ s.vs = r.1 ∧ s.h = r.2
  | [] => by simp [altsA]
  | [l] => by
    simp only [altsA]
    cases hf : foldA cf l 0 ⟨vs, List.replicate l.length .bad, h⟩ with
    | none => simp [hf]
    | some s =>
      simp only [Option.some.injEq, ne_eq, reduceCtorEq, not_false_eq_true, List.mem_singleton, forall_eq, hf, exists_eq_left', true_and]
      constructor
      · rintro rfl; exact ⟨rfl, rfl⟩
      · rintro ⟨h1, h2⟩
        obtain ⟨r1, r2⟩ := r
        simp only at h1 h2
        rw [h1, h2]
  | l :: l' :: ls => by
    have ih := altsA_iff (cf := cf) (vs := vs) (h := h) (r := r) (ls := l' :: ls)
    rw [altsA]
    cases hf : foldA cf l 0 ⟨vs, List.replicate l.length .bad, h⟩ with
    | none => simp [hf]
    | some s =>
      simp only []
      constructor
      · intro e
        split at e
        · rename_i r' hr'
          split at e
          · rename_i hb
            simp only [Option.some.injEq] at e
            subst e
            simp only [Bool.and_eq_true] at hb
            obtain ⟨_, h2⟩ := ih.1 hr'
            refine ⟨by simp, fun x hx => ?_⟩
            rcases List.mem_cons.1 hx with rfl | hx
            · exact ⟨s, hf, AVal.beqL_eq _ _ hb.1, heapBeq_eq hb.2⟩
            · exact h2 x hx
          · simp at e
        · simp at e
      · rintro ⟨_, h2⟩
        have hr' := ih.2 ⟨by simp, fun x hx => h2 x (by simp [hx])⟩
        obtain ⟨s', e1, e2, e3⟩ := h2 l (by simp)
        rw [hf] at e1
        simp only [Option.some.injEq] at e1
        subst e1
        rw [hr']
        simp only [e2, e3, AVal.beqL_refl, heapBeq_refl, Bool.and_self, if_true]
end Go.Abs

namespace Go.Abs
theorem evalA_congr {op : AOp} {ev ev' : Opd → AVal} {h : Heap} (hx : ∀ x ∈ opdsOf op, ev x = ev' x) : evalA op ev h = evalA op ev' h := by
  cases op with
  | build z ps =>
    simp only [evalA]
    have : (ps.map fun p => (p.1, p.2.1, ev p.2.2)) = ps.map fun p => (p.1, p.2.1, ev' p.2.2) := List.map_congr_left fun p hp => by rw [hx p.2.2 (by simp only [opdsOf]; exact List.mem_map_of_mem (f := fun p : Nat × Nat × Opd => p.2.2) hp)]
    rw [this]
  | lit mode ty n sz ag z ps =>
    simp only [evalA]
    have : (ps.map fun p => (p.1 * sz, sz, ev p.2)) = ps.map fun p => (p.1 * sz, sz, ev' p.2) := List.map_congr_left fun p hp => by rw [hx p.2 (by simp only [opdsOf]; exact List.mem_map_of_mem (f := fun p : Nat × Opd => p.2) hp)]
    rw [this]
  | clo f cap =>
    simp only [evalA]
    rw [List.map_congr_left (f := ev) (g := ev') (l := cap) (fun x hx' => hx x hx')]
  | slice sz x lo hi =>
    simp only [evalA]
    rw [hx x (by simp [opdsOf])]
    have h1 : lo.map ev = lo.map ev' := by cases lo with
      | none => rfl
      | some y => simp [hx y (by simp [opdsOf])]
    have h2 : hi.map ev = hi.map ev' := by cases hi with
      | none => rfl
      | some y => simp [hx y (by simp [opdsOf])]
    rw [h1, h2]
  | sslice x lo hi =>
    simp only [evalA]
    rw [hx x (by simp [opdsOf])]
    have h1 : lo.map ev = lo.map ev' := by cases lo with
      | none => rfl
      | some y => simp [hx y (by simp [opdsOf])]
    have h2 : hi.map ev = hi.map ev' := by cases hi with
      | none => rfl
      | some y => simp [hx y (by simp [opdsOf])]
    rw [h1, h2]
  | pick a b c => simp only [evalA]; rw [hx a (by simp [opdsOf]), hx b (by simp [opdsOf]), hx c (by simp [opdsOf])]
  | x op args => simp only [evalA]; rw [List.map_congr_left (fun x hx' => hx x (by simpa [opdsOf] using hx'))]
  | alloc => rfl
  | call => rfl
  | pcall => rfl
  | gcall => rfl
  | mov x => simp only [evalA]; rw [hx x (by simp [opdsOf])]
  | box _ _ x => simp only [evalA]; rw [hx x (by simp [opdsOf])]
  | load _ _ x => simp only [evalA]; rw [hx x (by simp [opdsOf])]
  | nilc x => simp only [evalA]; rw [hx x (by simp [opdsOf])]
  | un _ x => simp only [evalA]; rw [hx x (by simp [opdsOf])]
  | toInt _ x => simp only [evalA]; rw [hx x (by simp [opdsOf])]
  | idstr x => simp only [evalA]; rw [hx x (by simp [opdsOf])]
  | faddr _ x => simp only [evalA]; rw [hx x (by simp [opdsOf])]
  | field _ _ _ x => simp only [evalA]; rw [hx x (by simp [opdsOf])]
  | len x => simp only [evalA]; rw [hx x (by simp [opdsOf])]
  | slen x => simp only [evalA]; rw [hx x (by simp [opdsOf])]
  | ext x _ => simp only [evalA]; rw [hx x (by simp [opdsOf])]
  | store _ x y => simp only [evalA]; rw [hx x (by simp [opdsOf]), hx y (by simp [opdsOf])]
  | bin _ _ x y => simp only [evalA]; rw [hx x (by simp [opdsOf]), hx y (by simp [opdsOf])]
  | mksl _ _ _ _ x y => simp only [evalA]; rw [hx x (by simp [opdsOf]), hx y (by simp [opdsOf])]
  | iaddr _ x y => simp only [evalA]; rw [hx x (by simp [opdsOf]), hx y (by simp [opdsOf])]
  | aaddr _ _ x y => simp only [evalA]; rw [hx x (by simp [opdsOf]), hx y (by simp [opdsOf])]
  | sidx x y => simp only [evalA]; rw [hx x (by simp [opdsOf]), hx y (by simp [opdsOf])]
  | aidx _ _ _ x y => simp only [evalA]; rw [hx x (by simp [opdsOf]), hx y (by simp [opdsOf])]
  | append _ _ _ _ _ x y => simp only [evalA]; rw [hx x (by simp [opdsOf]), hx y (by simp [opdsOf])]
  | copy _ x y => simp only [evalA]; rw [hx x (by simp [opdsOf]), hx y (by simp [opdsOf])]
  | mnx _ x y => simp only [evalA]; rw [hx x (by simp [opdsOf]), hx y (by simp [opdsOf])]
theorem execA_congr {cf : CallF} {op : AOp} {ev ev' : Opd → AVal} {h : Heap} (hx : ∀ x ∈ opdsOf op, ev x = ev' x) : execA cf op ev h = execA cf op ev' h := by
  cases op with
  | call f args =>
    simp only [execA]
    rw [hx f (by simp [opdsOf]), List.map_congr_left (fun x hx' => hx x (by simp [opdsOf, hx']))]
  | pcall f args =>
    simp only [execA]
    rw [List.map_congr_left (fun x hx' => hx x (by simp [opdsOf, hx']))]
  | gcall f args =>
    simp only [execA]
    rw [List.map_congr_left (fun x hx' => hx x (by simp [opdsOf, hx']))]
  | _ => simp only [execA]; exact evalA_congr hx
def TokExt (h h2 : Heap) : Prop := ∀ id o, h.get id = some o → (∀ ty, o ≠ .tok ty) → h2.get id = some o
theorem TokExt.push (h : Heap) (ob : Obj) : TokExt h (h.push ob) := fun id o hg _ => by rw [Heap.get_push_old _ (Heap.get_lt hg)]; exact hg
theorem elemsA_ext {h h2 : Heap} (hT : TokExt h h2) {sz : Nat} {x : AVal} {c : List AVal} (e : elemsA h sz x = some c) : elemsA h2 sz x = some c := by
  unfold elemsA at e ⊢
  split at e
  · exact e
  · split at e
    · rename_i hs
      rw [if_pos hs]
      split at e
      · rename_i hg
        rw [hT _ _ hg (by intro ty hh; cases hh)]; exact e
      · simp at e
    · simp at e
  · exact e
  · simp at e
mutual
theorem purify_ext {h h2 : Heap} (hT : TokExt h h2) : ∀ (x : AVal) {y : AVal}, purify h x = some y → purify h2 x = some y
  | .bool _, _, e => by simpa [purify] using e
  | .int _ _, _, e => by simpa [purify] using e
  | .str _, _, e => by simpa [purify] using e
  | .sl xs (.own _ _), _, e => by simpa [purify] using e
  | .sl xs .nil, _, e => by simpa [purify] using e
  | .sl xs .none, _, e => by simpa [purify] using e
  | .sl xs .full, _, e => by simpa [purify] using e
  | .nilptr, _, e => by simpa [purify] using e
  | .ptr _ _, _, e => by simp [purify] at e
  | .rp _, _, e => by simp [purify] at e
  | .ref id off len sz, y, e => by
    simp only [purify, Option.map_eq_some_iff] at e ⊢
    obtain ⟨xs, hx, rfl⟩ := e
    refine ⟨xs, ?_, rfl⟩
    unfold readRef at hx ⊢
    split at hx
    · rename_i hg
      rw [hT _ _ hg (by intro ty hh; cases hh)]; exact hx
    · simp at hx
  | .fn f cap, y, e => by
    simp only [purify, Option.map_eq_some_iff] at e ⊢
    obtain ⟨c, hc, rfl⟩ := e
    exact ⟨c, purifyL_ext hT cap hc, rfl⟩
  | .nilfn, _, e => by simpa [purify] using e
  | .nilif, _, e => by simpa [purify] using e
  | .mp _, _, e => by simp [purify] at e
  | .nilmp, _, e => by simpa [purify] using e
  | .agg cs, y, e => by
    simp only [purify, Option.map_eq_some_iff] at e ⊢
    obtain ⟨c, hc, rfl⟩ := e
    exact ⟨c, purifyL_ext hT cs hc, rfl⟩
  | .tup cs, y, e => by
    simp only [purify, Option.map_eq_some_iff] at e ⊢
    obtain ⟨c, hc, rfl⟩ := e
    exact ⟨c, purifyL_ext hT cs hc, rfl⟩
  | .bad, _, e => by simp [purify] at e
theorem purifyL_ext {h h2 : Heap} (hT : TokExt h h2) : ∀ (xs : List AVal) {ys : List AVal}, purifyL h xs = some ys → purifyL h2 xs = some ys
  | [], _, e => by simpa [purifyL] using e
  | x :: xs, ys, e => by
    simp only [purifyL] at e ⊢
    split at e
    · rename_i y ys' h1 h2
      rw [purify_ext hT x h1, purifyL_ext hT xs h2]; exact e
    · simp at e
end
theorem cls_n {Hh : Hints} {cf : CallF} {op : AOp} {ev : Opd → AVal} {h h' : Heap} {r : AVal} (hc : clsOf Hh op = .n) (e : execA cf op ev h = some (r, h')) : h' = h ∧ ∀ h2, execA cf op ev h2 = some (r, h2) := by
  cases op <;> simp only [clsOf] at hc <;> try (simp at hc; done)
  case x op args =>
    cases op <;> simp only [clsX] at hc <;> try (simp at hc; done)
    case s2b row =>
      split at hc
      · simp at hc
      · rename_i hr
        simp only [execA, evalA] at e ⊢
        unfold evalX at e ⊢
        split at e <;> try (simp at e; done)
        all_goals (rename_i h1 h2; cases h1)
        split at e
        · split at e
          · try rw [if_neg hr] at e
            simp only [Option.some.injEq, Prod.mk.injEq] at e
            obtain ⟨rfl, rfl⟩ := e
            refine ⟨rfl, fun h2 => ?_⟩
            simp_all
          · simp at e
        · simp at e
    all_goals
      simp only [execA, evalA] at e ⊢
      unfold evalX at e ⊢
      split at e <;> try (simp at e; done)
      all_goals (rename_i h1 h2; cases h1)
      repeat' split at e
      all_goals first
        | (simp at e; done)
        | (simp only [Option.some.injEq, Prod.mk.injEq] at e; obtain ⟨rfl, rfl⟩ := e; exact ⟨rfl, fun h2 => by simp_all⟩)
  case append arr _ _ _ _ _ _ => cases arr <;> simp at hc
  case call f args => split at hc <;> first | (simp at hc; done) | (split at hc <;> simp at hc)
  case lit mode ty n sz ag z ps =>
    have hm : mode = 0 := by
      repeat' split at hc
      all_goals first
        | assumption
        | (simp at hc; done)
    subst hm
    simp only [execA, evalA] at e ⊢
    split at e
    · rename_i cs hf
      split at e
      · simp at e
      · rename_i hcond
        simp only [show ¬ ((0 : Nat) = 2) by omega, show ¬ ((0 : Nat) = 3) by omega, show ¬ ((0 : Nat) = 1) by omega, if_false] at e
        split at e
        · simp at e
        · rename_i cs' hs
          split at e
          · simp at e
          · rename_i xs hch
            simp at e; obtain ⟨rfl, rfl⟩ := e
            refine ⟨rfl, fun h2 => ?_⟩
            simp only [hcond, show ¬ ((0 : Nat) = 2) by omega, show ¬ ((0 : Nat) = 3) by omega, show ¬ ((0 : Nat) = 1) by omega, if_false, hs, hch]
            simp
    · simp at e
  all_goals
    simp only [execA, evalA] at e ⊢
    repeat' split at e
    all_goals first
      | (simp at e; done)
      | (simp only [Option.some.injEq, Prod.mk.injEq] at e; obtain ⟨rfl, rfl⟩ := e; exact ⟨rfl, fun h2 => by simp [*]⟩)
      | (simp only [Option.map_eq_some_iff, Prod.mk.injEq] at e; obtain ⟨x, e, rfl, rfl⟩ := e; exact ⟨rfl, fun h2 => by simp [*]⟩)
theorem cls_r {Hh : Hints} {cf : CallF} {op : AOp} {ev : Opd → AVal} {h h' : Heap} {r : AVal} (hc : clsOf Hh op = .r) (e : execA cf op ev h = some (r, h')) : h' = h ∧ ∀ h2, TokExt h h2 → execA cf op ev h2 = some (r, h2) := by
  cases op <;> simp only [clsOf] at hc <;> try (simp at hc; done)
  case append arr _ _ _ _ _ _ => cases arr <;> simp at hc
  case call f args => split at hc <;> first | (simp at hc; done) | (split at hc <;> simp at hc)
  case x op args =>
    cases op <;> simp only [clsX] at hc <;> try (simp at hc; done)
    case s2b row => cases row <;> simp at hc
    case b2s =>
      simp only [execA, evalA] at e ⊢
      generalize args.map ev = L at e ⊢
      match L, e with
      | [v], e =>
        simp only [evalX] at e ⊢
        split at e
        · rename_i cs hcs
          split at e
          · rename_i hall
            simp only [Option.map_eq_some_iff, Prod.mk.injEq] at e
            obtain ⟨s, hs, rfl, rfl⟩ := e
            refine ⟨rfl, fun h2 hT => ?_⟩
            have hcs2 : bytesA h2 v = some cs := by
              unfold bytesA at hcs ⊢
              split at hcs
              · simp at hcs
              · rename_i hns
                have he := elemsA_ext hT hcs
                cases v <;> first
                  | exact absurd rfl (hns _)
                  | exact he
            rw [hcs2]
            simp [hall, hs]
          · simp at e
        · simp at e
      | [], e => simp [evalX] at e
      | _ :: _ :: _, e => simp [evalX] at e
    all_goals
      simp only [execA, evalA] at e ⊢
      unfold evalX at e ⊢
      split at e <;> try (simp at e; done)
      all_goals (rename_i h1 h2; cases h1)
      repeat' split at e
      all_goals first
        | (simp at e; done)
        | (simp only [Option.some.injEq, Prod.mk.injEq] at e; obtain ⟨rfl, rfl⟩ := e; refine ⟨rfl, fun h2 hT => ?_⟩; first | (simp_all; done) | (have hq := hT _ _ (by assumption) (by intro ty hh; cases hh); simp_all; done))
        | (simp only [Option.map_eq_some_iff, Prod.mk.injEq] at e; obtain ⟨x, e, rfl, rfl⟩ := e; refine ⟨rfl, fun h2 hT => ?_⟩; first | (simp_all; done) | (have hq := hT _ _ (by assumption) (by intro ty hh; cases hh); simp_all; done))
  case lit mode ty n sz ag z ps =>
    repeat' split at hc
    all_goals simp at hc
  case load n ag x =>
    simp only [execA, evalA, Option.map_eq_some_iff, Prod.mk.injEq] at e ⊢
    obtain ⟨x', e, rfl, rfl⟩ := e
    refine ⟨rfl, fun h2 hT => ⟨x', ?_, rfl, trivial⟩⟩
    unfold loadA at e ⊢
    split at e
    · split at e
      · rename_i hg
        rw [hT _ _ hg (by intro ty hh; cases hh)]; exact e
      · simp at e
    · exact e
    · simp at e
  case pcall f args =>
    simp only [execA] at e ⊢
    split at e
    · rename_i asx hs
      split at e
      · rename_i r0 h0 hcf
        simp only [Option.map_eq_some_iff, Prod.mk.injEq] at e
        obtain ⟨x, hp, rfl, rfl⟩ := e
        exact ⟨rfl, fun h2 hT => by simp [hs, hcf, hp]⟩
      · simp at e
    · rename_i hs
      split at e
      · rename_i asx hp
        split at e
        · rename_i r0 h0 hcf
          split at e
          · rename_i hsc
            simp at e; obtain ⟨rfl, rfl⟩ := e
            exact ⟨rfl, fun h2 hT => by simp [hs, purifyL_ext hT _ hp, hcf, hsc]⟩
          · simp at e
        · simp at e
      · simp at e
theorem cls_a {Hh : Hints} {cf : CallF} {op : AOp} {ev : Opd → AVal} {h h' : Heap} {r : AVal} (hc : clsOf Hh op = .a) (e : execA cf op ev h = some (r, h')) : ∃ ob, h' = h.push ob ∧ ∀ h2 : Heap, h2.next = h.next → execA cf op ev h2 = some (r, h2.push ob) := by
  cases op <;> simp only [clsOf] at hc <;> try (simp at hc; done)
  case append arr _ _ _ _ _ _ => cases arr <;> simp at hc
  case call f args => split at hc <;> first | (simp at hc; done) | (split at hc <;> simp at hc)
  case x op args =>
    cases op <;> simp only [clsX] at hc <;> try (simp at hc; done)
    all_goals
      simp only [execA, evalA] at e ⊢
      unfold evalX at e ⊢
      split at e <;> try (simp at e; done)
      all_goals (rename_i h1 h2; cases h1)
      repeat' split at e
      all_goals first
        | (simp at e; done)
        | (simp only [Option.some.injEq, Prod.mk.injEq] at e; obtain ⟨rfl, rfl⟩ := e; exact ⟨_, rfl, fun h2 hn => by simp_all⟩)
        | (simp_all; done)
  case lit mode ty n sz ag z ps =>
    have hm : mode = 1 ∨ mode = 2 := by
      repeat' split at hc
      all_goals first
        | exact .inl (by assumption)
        | exact .inr (by assumption)
        | (simp at hc; done)
    simp only [execA, evalA] at e ⊢
    split at e
    · rename_i cs hf
      split at e
      · simp at e
      · rename_i hcond
        rcases hm with rfl | rfl
        · simp only [show ¬ ((1 : Nat) = 2) by omega, show ¬ ((1 : Nat) = 3) by omega, if_false, if_true] at e
          split at e
          · simp at e
          · rename_i cs' hs
            split at e
            · simp at e
            · rename_i xs hch
              simp at e; obtain ⟨rfl, rfl⟩ := e
              exact ⟨_, rfl, fun h2' hn => by simp only [hcond, if_false, show ¬ ((1 : Nat) = 2) by omega, show ¬ ((1 : Nat) = 3) by omega, hs, hch, if_true, hn]; simp⟩
        · simp only [if_true] at e
          simp at e; obtain ⟨rfl, rfl⟩ := e
          exact ⟨_, rfl, fun h2' hn => by simp only [hcond, if_false, if_true, hn]; simp⟩
    · simp at e
  all_goals
    simp only [execA, evalA] at e ⊢
    repeat' split at e
    all_goals first
      | (simp at e; done)
      | (simp only [Option.some.injEq, Prod.mk.injEq] at e; obtain ⟨rfl, rfl⟩ := e; exact ⟨_, rfl, fun h2 hn => by simp [*]⟩)
theorem TokExt.refl (h : Heap) : TokExt h h := fun _ _ hg _ => hg
theorem tok_push {h : Heap} (ty : Nat) : TokExt h (h.push (.tok ty)) ∧ TokExt (h.push (.tok ty)) h := by
  refine ⟨TokExt.push h _, fun id o hg hn => ?_⟩
  rcases Heap.get_push_some hg with ⟨_, rfl⟩ | ⟨_, h2⟩
  · exact absurd rfl (hn ty)
  · exact h2
theorem tok_put {h : Heap} {id ty ty2 : Nat} (hg : h.get id = some (.tok ty)) : TokExt h ((h.put id none).push (.tok ty2)) ∧ TokExt ((h.put id none).push (.tok ty2)) h := by
  refine ⟨fun j o hj hn => ?_, fun j o hj hn => ?_⟩
  · have hne : j ≠ id := fun e => by subst e; rw [hg] at hj; exact hn ty (Option.some.inj hj).symm
    have : (h.put id none).get j = some o := by rw [Heap.get_put_other _ hne]; exact hj
    rw [Heap.get_push_old _ (Heap.get_lt this)]; exact this
  · rcases Heap.get_push_some hj with ⟨_, rfl⟩ | ⟨_, h2⟩
    · exact absurd rfl (hn ty2)
    · by_cases hne : j = id
      · subst hne; rw [Heap.get_put _ hg] at h2; simp at h2
      · rwa [Heap.get_put_other _ hne] at h2
theorem cls_t {Hh : Hints} {cf : CallF} {op : AOp} {ev : Opd → AVal} {h h' : Heap} {r : AVal} (hc : clsOf Hh op = .t) (e : execA cf op ev h = some (r, h')) : TokExt h h' ∧ TokExt h' h := by
  cases op <;> simp only [clsOf] at hc <;> try (simp at hc; done)
  case x op args => cases op <;> simp only [clsX] at hc <;> first | (simp at hc; done) | (split at hc <;> simp at hc)
  case lit mode ty n sz ag z ps => repeat' split at hc
                                   all_goals simp at hc
  case call f args => split at hc <;> first | (simp at hc; done) | (split at hc <;> simp at hc)
  case append arr ty bytes sz ag x y =>
    have harr : arr = false := by cases arr <;> simp at hc <;> rfl
    subst harr
    simp only [execA, evalA] at e
    unfold appendA at e
    split at e
    · split at e
      · split at e <;> first
          | (simp only [Option.some.injEq, Prod.mk.injEq] at e; obtain ⟨_, rfl⟩ := e; exact ⟨TokExt.refl _, TokExt.refl _⟩)
          | (simp at e; done)
      · split at e
        · split at e
          · simp at e
          · simp only [Bool.false_eq_true, if_false] at e
            split at e
            · simp at e
            · split at e
              · simp at e
              · split at e
                · split at e
                  · simp only [Option.some.injEq, Prod.mk.injEq] at e; obtain ⟨_, rfl⟩ := e; exact tok_push _
                  · simp at e
                · split at e
                  · simp only [Option.some.injEq, Prod.mk.injEq] at e; obtain ⟨_, rfl⟩ := e; exact tok_push _
                  · simp at e
                · split at e
                  · rename_i hg
                    split at e
                    · simp only [Option.some.injEq, Prod.mk.injEq] at e; obtain ⟨_, rfl⟩ := e; exact tok_put hg
                    · simp at e
                  · simp at e
                · simp at e
        · split at e <;> simp at e
        · simp at e
    · simp at e
theorem cls_g {Hh : Hints} {cf : CallF} (hgr : ∀ g args h r h', Hh.grow g = true → cf false g args h = some (r, h') → TokExt h h') {op : AOp} {vs ts : List AVal} {h h' : Heap} {r : AVal} (hc : clsOf Hh op = .g) (e : execA cf op (evOpd vs ts) h = some (r, h')) : TokExt h h' := by
  cases op <;> simp only [clsOf] at hc <;> try (simp at hc; done)
  case x op args =>
    cases op <;> simp only [clsX] at hc <;> first | (simp at hc; done) | (split at hc <;> simp at hc; done) | skip
    case afresh ty bytes sz ag =>
      simp only [execA, evalA] at e
      generalize args.map (evOpd vs ts) = L at e
      have key : ∀ {t : Tok} {y : AVal}, appendA true ty bytes sz ag (.sl [] t) y h = some (r, h') → TokExt h h' := by
        intro t y e
        unfold appendA at e
        split at e
        · split at e
          · simp only [Option.some.injEq, Prod.mk.injEq] at e; obtain ⟨_, rfl⟩ := e; exact TokExt.refl _
          · simp only [if_true] at e
            split at e
            · simp at e
            · split at e
              · simp only [Option.some.injEq, Prod.mk.injEq] at e; obtain ⟨_, rfl⟩ := e; exact TokExt.push _ _
              · simp only [Option.some.injEq, Prod.mk.injEq] at e; obtain ⟨_, rfl⟩ := e; exact TokExt.push _ _
              · simp at e
        · simp at e
      match L, e with
      | [x, y], e =>
        simp only [evalX] at e
        split at e
        · exact key e
        · exact key e
        · simp at e
      | [], e => simp [evalX] at e
      | [_], e => simp [evalX] at e
      | _ :: _ :: _ :: _, e => simp [evalX] at e
  case lit mode ty n sz ag z ps => repeat' split at hc
                                   all_goals simp at hc
  case append arr _ _ _ _ _ _ => cases arr <;> simp at hc
  case call f args =>
    split at hc
    · rename_i g
      split at hc
      · rename_i hg
        exact hgr g _ _ _ _ hg e
      · simp at hc
    · simp at hc
  case gcall g args =>
    simp only [execA] at e
    split at e
    · split at e
      · rename_i hx
        simp only [Option.some.injEq, Prod.mk.injEq] at e
        obtain ⟨rfl, rfl⟩ := e
        intro id o ho _
        rw [(extB_iff.1 hx).2 id (Heap.get_lt ho)]; exact ho
      · simp at e
    · simp at e
end Go.Abs

namespace Go.Abs
theorem readsV_false {o : AOper} {i : Nat} (h : readsV o i = false) : ∀ x ∈ readsOf o, x ≠ .v i := by
  intro x hx he
  subst he
  have : readsV o i = true := List.any_eq_true.2 ⟨.v i, hx, by simp⟩
  rw [h] at this; simp at this
theorem readsT_false {o : AOper} {k : Nat} (h : readsT o k = false) : ∀ x ∈ readsOf o, x ≠ .t k := by
  intro x hx he
  subst he
  have : readsT o k = true := List.any_eq_true.2 ⟨.t k, hx, by simp⟩
  rw [h] at this; simp at this
theorem ev_put {s : St} {k : Nat} {d : ADst} {r : AVal} {h : Heap} {x : Opd} (hv : ∀ i, d = .var i → x ≠ .v i) (ht : x ≠ .t k) : evOpd (s.put k d r h).vs (s.put k d r h).ts x = evOpd s.vs s.ts x := by
  cases x with
  | c y => rfl
  | v i =>
    cases d with
    | no => rfl
    | tmp => rfl
    | var j =>
      have : j ≠ i := fun e => hv j rfl (by rw [e])
      simp [evOpd, St.put, List.getElem?_set_ne this]
  | t j =>
    cases d with
    | no => rfl
    | tmp =>
      have : k ≠ j := fun e => ht (by rw [e])
      simp [evOpd, St.put, List.getElem?_set_ne this]
    | var i => rfl
structure Told (cf : CallF) (o : AOper) (s : St) (g : Bool) (r : AVal) (h' : Heap) : Prop where
  want : wantA (evOpd s.vs s.ts) o.guard = some g
  run : if g then execA cf o.op (evOpd s.vs s.ts) s.h = some (r, h') else r = .tup [] ∧ h' = s.h
theorem step_told {cf : CallF} {o : AOper} {k : Nat} {s s' : St} (e : stepA cf o k s = some s') : ∃ g r h', Told cf o s g r h' ∧ s' = s.put k o.dst r h' := by
  unfold stepA at e
  split at e
  · simp at e
  · rename_i hw
    obtain rfl := Option.some.inj e
    exact ⟨false, _, _, ⟨hw, by simp⟩, rfl⟩
  · rename_i hw
    split at e
    · rename_i r h' he
      obtain rfl := Option.some.inj e
      exact ⟨true, r, h', ⟨hw, by simpa using he⟩, rfl⟩
    · simp at e
theorem told_step {cf : CallF} {o : AOper} {k : Nat} {s : St} {g : Bool} {r : AVal} {h' : Heap} (t : Told cf o s g r h') : stepA cf o k s = some (s.put k o.dst r h') := by
  unfold stepA
  rw [t.want]
  have hr := t.run
  cases g
  · simp at hr; simp [hr.1, hr.2]
  · simp at hr; simp [hr]
theorem told_congr {cf : CallF} {o : AOper} {s s' : St} {g : Bool} {r : AVal} {h' : Heap} (t : Told cf o s g r h') (hx : ∀ x ∈ readsOf o, evOpd s.vs s.ts x = evOpd s'.vs s'.ts x) (hh : s'.h = s.h) : Told cf o s' g r h' := by
  refine ⟨?_, ?_⟩
  · rw [← t.want]
    cases hg : o.guard with
    | none => rfl
    | some p =>
      simp only [wantA]
      rw [hx p.1 (by simp [readsOf, hg])]
  · have hr := t.run
    rw [hh, ← execA_congr (cf := cf) (ev := evOpd s.vs s.ts) (fun x hx' => hx x (by simp [readsOf, hx']))]
    exact hr
theorem told_heap {Hh : Hints} {cf : CallF} (hgr : ∀ g args h r h', Hh.grow g = true → cf false g args h = some (r, h') → TokExt h h') {a b : AOper} {s : St} {g g' : Bool} {r r' : AVal} {h1 h2 : Heap} (hcl : heapConf (clsOf Hh a.op) (clsOf Hh b.op) = false) (ta : Told cf a s g r h1) (tb : Told cf b { s with h := h1 } g' r' h2) :
    ∃ h1', Told cf b s g' r' h1' ∧ Told cf a { s with h := h1' } g r h2 := by
  have wa := ta.want
  have wb := tb.want
  have ra := ta.run
  have rb := tb.run
  cases g with
  | false =>
    simp at ra
    obtain ⟨rfl, rfl⟩ := ra
    exact ⟨h2, ⟨wb, rb⟩, ⟨wa, by simp⟩⟩
  | true =>
    simp at ra
    cases g' with
    | false =>
      simp at rb
      obtain ⟨rfl, rfl⟩ := rb
      exact ⟨s.h, ⟨wb, by simp⟩, ⟨wa, by simpa using ra⟩⟩
    | true =>
      simp at rb
      cases ca : clsOf Hh a.op <;> cases cb : clsOf Hh b.op <;> rw [ca, cb] at hcl <;> simp [heapConf] at hcl <;> first
        | (obtain ⟨rfl, q⟩ := cls_n ca ra; exact ⟨h2, ⟨wb, by simpa using rb⟩, ⟨wa, by simpa using q h2⟩⟩)
        | (obtain ⟨rfl, q⟩ := cls_n cb rb; exact ⟨s.h, ⟨wb, by simpa using q s.h⟩, ⟨wa, by simpa using ra⟩⟩)
        | (obtain ⟨rfl, _⟩ := cls_r ca ra; obtain ⟨rfl, _⟩ := cls_r cb rb; exact ⟨s.h, ⟨wb, by simpa using rb⟩, ⟨wa, by simpa using ra⟩⟩)
        | (obtain ⟨rfl, q⟩ := cls_r ca ra
           obtain ⟨ob, rfl, q'⟩ := cls_a cb rb
           exact ⟨s.h.push ob, ⟨wb, by simpa using q' s.h rfl⟩, ⟨wa, by simpa using q _ (TokExt.push _ ob)⟩⟩)
        | (obtain ⟨rfl, q⟩ := cls_r ca ra
           obtain ⟨t1, _⟩ := cls_t cb rb
           exact ⟨h2, ⟨wb, by simpa using rb⟩, ⟨wa, by simpa using q h2 t1⟩⟩)
        | (obtain ⟨rfl, q⟩ := cls_r ca ra
           exact ⟨h2, ⟨wb, by simpa using rb⟩, ⟨wa, by simpa using q h2 (cls_g hgr cb rb)⟩⟩)
        | (obtain ⟨rfl, q⟩ := cls_r cb rb
           obtain ⟨_, t2⟩ := cls_t ca ra
           exact ⟨s.h, ⟨wb, by simpa using q s.h t2⟩, ⟨wa, by simpa using ra⟩⟩)
theorem put_comm {s : St} {i j : Nat} {a b : ADst} {r r' : AVal} {h1 h2 h3 : Heap} (hij : i ≠ j) (hv : ∀ x y, a = .var x → b = .var y → x ≠ y) : (s.put i a r h1).put j b r' h2 = (s.put j b r' h3).put i a r h2 := by
  cases a with
  | no => cases b <;> rfl
  | tmp => cases b with
    | no => rfl
    | tmp => simp only [St.put, St.mk.injEq, and_true, true_and]; exact List.set_comm _ _ hij
    | var y => rfl
  | var x => cases b with
    | no => rfl
    | tmp => rfl
    | var y => simp only [St.put, St.mk.injEq, and_true]; exact List.set_comm _ _ (hv x y rfl rfl)
theorem step_comm {Hh : Hints} {cf : CallF} (hgr : ∀ g args h r h', Hh.grow g = true → cf false g args h = some (r, h') → TokExt h h') {a b : AOper} {i j : Nat} {s s1 s2 : St} (hij : i ≠ j) (hc : conf Hh i a j b = false) (e1 : stepA cf a i s = some s1) (e2 : stepA cf b j s1 = some s2) : ∃ s1', stepA cf b j s = some s1' ∧ stepA cf a i s1' = some s2 := by
  simp only [conf, Bool.or_eq_false_iff] at hc
  obtain ⟨⟨⟨⟨⟨c1, c2⟩, c3⟩, c4⟩, c5⟩, c6⟩ := hc
  obtain ⟨g, r, h1, ta, rfl⟩ := step_told e1
  obtain ⟨g', r', h2, tb, rfl⟩ := step_told e2
  have hb : ∀ x ∈ readsOf b, evOpd (s.put i a.dst r h1).vs (s.put i a.dst r h1).ts x = evOpd s.vs s.ts x := fun x hx =>
    ev_put (fun k hk => by rw [hk] at c4; exact readsV_false c4 x hx) (readsT_false c1 x hx)
  have tb' : Told cf b { s with h := h1 } g' r' h2 := told_congr tb hb (by cases a.dst <;> rfl)
  obtain ⟨h1', q1, q2⟩ := told_heap hgr c3 ta tb'
  have ha : ∀ x ∈ readsOf a, evOpd s.vs s.ts x = evOpd (s.put j b.dst r' h1').vs (s.put j b.dst r' h1').ts x := fun x hx =>
    (ev_put (fun k hk => by rw [hk] at c5; exact readsV_false c5 x hx) (readsT_false c2 x hx)).symm
  have q2' : Told cf a (s.put j b.dst r' h1') g r h2 := told_congr q2 ha (by cases b.dst <;> rfl)
  refine ⟨_, told_step q1, ?_⟩
  rw [told_step q2', put_comm hij (fun x y hx hy => by rw [hx, hy] at c6; simpa using c6)]
def foldI (cf : CallF) (asx : List AOper) : List Nat → St → Option St
  | [], s => some s
  | k :: l, s => match asx[k]? with
    | some o => match stepA cf o k s with
      | some s' => foldI cf asx l s'
      | none => none
    | none => none
theorem foldA_eq (cf : CallF) (asx : List AOper) : ∀ (l : List AOper) (k : Nat) (s : St), (∀ j, l[j]? = asx[k + j]?) → foldA cf l k s = foldI cf asx (List.range' k l.length) s
  | [], k, s, _ => rfl
  | o :: l, k, s, h => by
    have h0 : asx[k]? = some o := by simpa using (h 0).symm
    simp only [foldA, List.length_cons, List.range'_succ, foldI, h0]
    cases stepA cf o k s with
    | none => rfl
    | some s' => exact foldA_eq cf asx l (k + 1) s' (fun j => by have := h (j + 1); rw [List.getElem?_cons_succ] at this; rw [this]; congr 1; omega)
theorem foldI_move {Hh : Hints} {cf : CallF} (hgr : ∀ g args h r h', Hh.grow g = true → cf false g args h = some (r, h') → TokExt h h') {asx : List AOper} {i : Nat} {a : AOper} (ha : asx[i]? = some a) : ∀ (l1 : List Nat) {l2 : List Nat} {s s1 τ : St}, (∀ j ∈ l1, i ≠ j ∧ ∀ b, asx[j]? = some b → conf Hh i a j b = false) → stepA cf a i s = some s1 →
    foldI cf asx (l1 ++ l2) s1 = some τ → foldI cf asx (l1 ++ i :: l2) s = some τ
  | [], l2, s, s1, τ, _, e1, e2 => by simp only [List.nil_append] at e2 ⊢; simp only [foldI, ha, e1]; exact e2
  | j :: l1, l2, s, s1, τ, h, e1, e2 => by
    simp only [List.cons_append, foldI] at e2 ⊢
    split at e2
    · rename_i b hb
      split at e2
      · rename_i s2 hs2
        obtain ⟨h1, h2⟩ := h j (by simp)
        obtain ⟨s1', q1, q2⟩ := step_comm hgr h1 (h2 b hb) e1 hs2
        simp only [q1]
        exact foldI_move hgr ha l1 (fun k hk => h k (by simp [hk])) q2 e2
      · simp at e2
    · simp at e2
def okPair (Hh : Hints) (asx : List AOper) (B : Nat → Nat → Prop) (x y : Nat) : Prop := B y x → ∀ a b, asx[y]? = some a → asx[x]? = some b → conf Hh y a x b = false
theorem foldI_perm {Hh : Hints} {cf : CallF} (hgr : ∀ g args h r h', Hh.grow g = true → cf false g args h = some (r, h') → TokExt h h') {asx : List AOper} {B : Nat → Nat → Prop} (hne : ∀ x, ¬ B x x) : ∀ {bs l : List Nat} {s τ : St}, bs.Pairwise B → l.Perm bs → l.Pairwise (okPair Hh asx B) → foldI cf asx bs s = some τ → foldI cf asx l s = some τ
  | [], l, s, τ, _, hp, _, e => by
    have : l = [] := by simpa using hp
    subst this; exact e
  | m :: bs, l, s, τ, hB, hp, hw, e => by
    have hm : m ∈ l := hp.symm.subset (by simp)
    obtain ⟨l1, l2, rfl⟩ := List.append_of_mem hm
    rw [List.pairwise_cons] at hB
    have hp' : (l1 ++ l2).Perm bs := by
      have := (List.perm_middle (a := m) (l₁ := l1) (l₂ := l2)).symm.trans hp
      exact (List.perm_cons m).1 this
    simp only [foldI] at e
    split at e
    · rename_i a ha
      split at e
      · rename_i s1 hs1
        have hw' : (l1 ++ l2).Pairwise (okPair Hh asx B) := hw.sublist (by simp)
        have ih := foldI_perm hgr hne hB.2 hp' hw' e
        refine foldI_move hgr ha l1 (fun j hj => ?_) hs1 ih
        have hjm : B m j := hB.1 j (hp'.subset (by simp [hj]))
        refine ⟨fun e => hne j (e ▸ hjm), fun b hb => ?_⟩
        have := (List.pairwise_append.1 hw).2.2 j hj m (by simp)
        exact this hjm a b ha hb
      · simp at e
    · simp at e
def Ord (ops : List Oper) : List Nat → Prop
  | [] => True
  | x :: tl => (∀ o, ops[x]? = some o → ∀ e ∈ o.after.toList, Region.binds .any e = true → e.on ∈ tl) ∧ Ord ops tl
theorem edgesOk_get : ∀ {l : List Oper} {k j : Nat} {o : Oper}, edgesOk l k = true → l[j]? = some o → ∀ e ∈ o.after.toList, Region.binds .any e = true → e.on < k + j
  | [], k, j, o, _, h => by simp at h
  | o' :: l, k, j, o, h, hj => by
    simp only [edgesOk, Bool.and_eq_true] at h
    cases j with
    | zero =>
      simp at hj; subst hj
      intro e he hb
      have := List.all_eq_true.1 h.1 e he
      simp [hb] at this; omega
    | succ j =>
      intro e he hb
      have := edgesOk_get h.2 (by simpa using hj) e he hb
      omega
theorem lin_go {ops : Array Oper} (hE : edgesOk ops.toList 0 = true) : ∀ (fuel t : Nat) (listed : Array Bool) (acc : List Nat), acc.length + fuel = ops.size → acc.Nodup → (∀ x ∈ acc, x < ops.size) → listed.size = ops.size → (∀ i, i < ops.size → (listed.getD i true = true ↔ i ∈ acc)) → Ord ops.toList acc →
    ∃ acc', Region.linearise.go .any ops fuel t listed acc = acc'.reverse ∧ acc'.length = ops.size ∧ acc'.Nodup ∧ (∀ x ∈ acc', x < ops.size) ∧ Ord ops.toList acc'
  | 0, t, listed, acc, hl, hn, hlt, hs, hli, ho => ⟨acc, rfl, by omega, hn, hlt, ho⟩
  | fuel + 1, t, listed, acc, hl, hn, hlt, hs, hli, ho => by
    unfold Region.linearise.go
    simp only
    generalize hrs : (List.range ops.size).filter (fun i => !listed.getD i true && ((ops[i]?).map (fun o => o.after.all fun e => !Region.binds .any e || listed.getD e.on false)).getD false) = rs
    have hmem : ∀ i, i ∈ rs ↔ (i < ops.size ∧ i ∉ acc ∧ ∀ o, ops[i]? = some o → ∀ e ∈ o.after.toList, Region.binds .any e = true → listed.getD e.on false = true) := by
      intro i
      rw [← hrs, List.mem_filter, List.mem_range]
      constructor
      · rintro ⟨h1, h2⟩
        simp only [Bool.and_eq_true, Bool.not_eq_true'] at h2
        refine ⟨h1, fun hm => ?_, fun o hoo e he hb => ?_⟩
        · rw [(hli i h1).2 hm] at h2; simp at h2
        · rw [hoo] at h2
          simp only [Option.map_some, Option.getD_some, Array.all_eq_true_iff_forall_mem] at h2
          have := h2.2 e (by simpa using he)
          simpa [hb] using this
      · rintro ⟨h1, h2, h3⟩
        refine ⟨h1, ?_⟩
        simp only [Bool.and_eq_true, Bool.not_eq_true']
        refine ⟨?_, ?_⟩
        · cases hq : listed.getD i true with
          | false => rfl
          | true => exact absurd ((hli i h1).1 hq) h2
        · obtain ⟨o, hoo⟩ : ∃ o, ops[i]? = some o := ⟨_, Array.getElem?_eq_getElem h1⟩
          rw [hoo]
          simp only [Option.map_some, Option.getD_some, Array.all_eq_true_iff_forall_mem]
          intro e he
          cases hb : Region.binds .any e with
          | false => rfl
          | true => simp [h3 o hoo e (by simpa using he) hb]
    have hne : rs ≠ [] := by
      -- the smallest that is not listed
      have hex : ∃ i, i < ops.size ∧ i ∉ acc := by
        apply Classical.byContradiction
        intro hno
        have hall : ∀ i, i < ops.size → i ∈ acc := fun i hi => Classical.byContradiction fun hc => hno ⟨i, hi, hc⟩
        have hsub : (List.range ops.size) ⊆ acc := fun i hi => hall i (by simpa using hi)
        have := (List.nodup_range (n := ops.size)).length_le_of_subset hsub
        simp at this; omega
      have hmin : ∃ i, (i < ops.size ∧ i ∉ acc) ∧ ∀ j, j < i → ¬ (j < ops.size ∧ j ∉ acc) := by
        obtain ⟨i, hi⟩ := hex
        induction i using Nat.strongRecOn with
        | _ i ih =>
          by_cases h : ∃ j, j < i ∧ (j < ops.size ∧ j ∉ acc)
          · obtain ⟨j, hj, hj'⟩ := h; exact ih j hj hj'
          · exact ⟨i, hi, fun j hj hc => h ⟨j, hj, hc⟩⟩
      obtain ⟨i, ⟨h1, h2⟩, h3⟩ := hmin
      have : i ∈ rs := (hmem i).2 ⟨h1, h2, fun o hoo e he hb => by
        have hlt' := edgesOk_get hE (j := i) (by simpa using hoo) e he hb
        rw [Nat.zero_add] at hlt'
        have hin : e.on ∈ acc := Classical.byContradiction fun hc => h3 e.on hlt' ⟨by omega, hc⟩
        have := (hli e.on (by omega)).2 hin
        rw [Array.getD_eq_getD_getElem?] at this ⊢
        rw [Array.getElem?_eq_getElem (by omega)] at this ⊢
        simpa using this⟩
      intro he; rw [he] at this; simp at this
    have hpos : 0 < rs.length := List.length_pos_iff.2 hne
    have hlt2 : t % rs.length < rs.length := Nat.mod_lt _ hpos
    rw [List.getElem?_eq_getElem hlt2]
    simp only
    generalize hi : rs[t % rs.length] = i
    have him : i ∈ rs := by rw [← hi]; exact List.getElem_mem _
    obtain ⟨h1, h2, h3⟩ := (hmem i).1 him
    refine lin_go hE fuel (t / rs.length) (listed.setIfInBounds i true) (i :: acc) (by simp; omega) (List.nodup_cons.2 ⟨h2, hn⟩) (fun x hx => ?_) (by simp [hs]) (fun j hj => ?_) ⟨fun o hoo e he hb => ?_, ho⟩
    · rcases List.mem_cons.1 hx with rfl | hx
      · exact h1
      · exact hlt x hx
    · rw [Array.getD_eq_getD_getElem?, Array.getElem?_setIfInBounds]
      by_cases hij : i = j
      · subst hij; simp [hs, h1]
      · have := hli j hj
        rw [Array.getD_eq_getD_getElem?] at this
        simp [hij, this, List.mem_cons, Ne.symm hij]
    · have hb2 := h3 o (by simpa using hoo) e he hb
      have hlt' := edgesOk_get hE (j := i) (by simpa using hoo) e he hb
      rw [Nat.zero_add] at hlt'
      refine (hli e.on (by omega)).1 ?_
      rw [Array.getD_eq_getD_getElem?] at hb2 ⊢
      rw [Array.getElem?_eq_getElem (by omega)] at hb2 ⊢
      simpa using hb2
theorem mem_uniq {x : Nat} : ∀ {l : List Nat}, x ∈ uniq l ↔ x ∈ l
  | [] => Iff.rfl
  | y :: ys => by
    have ih := mem_uniq (x := x) (l := ys)
    simp only [uniq]
    split
    · rename_i hc
      have hm : y ∈ ys := mem_uniq.1 (by simpa using hc)
      rw [ih, List.mem_cons]
      exact ⟨.inr, fun h => h.elim (fun e => e ▸ hm) (fun q => q)⟩
    · rw [List.mem_cons, List.mem_cons, ih]
theorem befs_get : ∀ {l : List Oper} {acc : List (List Nat)} {j : Nat}, (∀ k, acc.length ≤ k → acc[k]? = none) → 
    (befs l acc).length = acc.length + l.length ∧ (∀ k, k < acc.length → (befs l acc)[k]? = acc[k]?) ∧
    (∀ k o, l[k]? = some o → (befs l acc)[acc.length + k]? = some (uniq (o.after.toList.flatMap fun e => if Region.binds .any e then e.on :: (((befs l acc).take (acc.length + k))[e.on]?).getD [] else [])))
  | [], acc, j, _ => by simp [befs]
  | o :: l, acc, j, h => by
    simp only [befs]
    generalize hx : uniq (o.after.toList.flatMap fun e => if Region.binds .any e then e.on :: ((acc[e.on]?).getD []) else []) = x
    obtain ⟨e1, e2, e3⟩ := befs_get (l := l) (acc := acc ++ [x]) (j := j) (fun k hk => List.getElem?_eq_none hk)
    have htake : (befs l (acc ++ [x])).take acc.length = acc := by
      apply List.ext_getElem?
      intro k
      rw [List.getElem?_take]
      split
      · rename_i hk
        rw [e2 k (by simp; omega), List.getElem?_append_left hk]
      · rename_i hk
        rw [List.getElem?_eq_none (by omega)]
    refine ⟨by rw [e1]; simp; omega, fun k hk => ?_, fun k o' hk => ?_⟩
    · rw [e2 k (by simp; omega), List.getElem?_append_left hk]
    · cases k with
      | zero =>
        simp at hk; subst hk
        rw [Nat.add_zero, e2 acc.length (by simp), htake]
        simp [← hx]
      | succ k =>
        have := e3 k o' (by simpa using hk)
        simp only [List.length_append, List.length_cons, List.length_nil] at this
        rw [show acc.length + (k + 1) = acc.length + (0 + 1) + k by omega]
        exact this
theorem befs_ord {ops : List Oper} : ∀ (j : Nat) {p q : List Nat}, j < ops.length → Ord ops (p ++ j :: q) → ∀ i ∈ ((befs ops [])[j]?).getD [], i ∈ q := by
  intro j
  induction j using Nat.strongRecOn with
  | _ j ih =>
    intro p q hj ho i hi
    have hoq : Ord ops (j :: q) := by
      clear hi ih
      induction p with
      | nil => exact ho
      | cons x p ihp => exact ihp ho.2
    obtain ⟨_, _, e3⟩ := befs_get (l := ops) (acc := []) (j := 0) (by simp)
    obtain ⟨o, hoo⟩ : ∃ o, ops[j]? = some o := ⟨_, List.getElem?_eq_getElem hj⟩
    have := e3 j o hoo
    simp only [List.length_nil, Nat.zero_add] at this
    rw [this] at hi
    simp only [Option.getD_some, mem_uniq, List.mem_flatMap] at hi
    obtain ⟨e, he, hi⟩ := hi
    split at hi
    · rename_i hb
      have hon := hoq.1 o hoo e he hb
      rcases List.mem_cons.1 hi with rfl | hi
      · exact hon
      · rw [List.getElem?_take] at hi
        split at hi
        · rename_i hlt
          obtain ⟨q1, q2, rfl⟩ := List.append_of_mem hon
          have := ih e.on hlt (p := q1) (q := q2) (by omega) hoq.2 i hi
          simp [this]
        · simp at hi
    · simp at hi
theorem ord_pairs {Hh : Hints} {ops : List Oper} {asx : List AOper} {B : Nat → Nat → Prop} (hl : asx.length = ops.length)
    (hp : ∀ x y, B x y → ∀ a b, asx[x]? = some a → asx[y]? = some b → conf Hh x a y b = true → x ∈ ((befs ops [])[y]?).getD []) : ∀ {acc : List Nat}, Ord ops acc → acc.Nodup → (∀ x ∈ acc, x < ops.length) → acc.Pairwise (fun x y => okPair Hh asx B y x)
  | [], _, _, _ => .nil
  | x :: tl, ho, hn, hlt => by
    refine List.Pairwise.cons (fun y hy => ?_) (ord_pairs hl hp ho.2 (List.nodup_cons.1 hn).2 (fun z hz => hlt z (by simp [hz])))
    intro hxy a b ha hb
    cases hc : conf Hh x a y b with
    | false => rfl
    | true =>
      exfalso
      have hylt := hlt y (by simp [hy])
      have hmem := hp x y hxy a b ha hb hc
      obtain ⟨q1, q2, rfl⟩ := List.append_of_mem hy
      have := befs_ord y (p := q1) (q := q2) hylt ho.2 x hmem
      exact (List.nodup_cons.1 hn).1 (by simp [this])
theorem draw_gen {Hh : Hints} {cf : CallF} (hgr : ∀ g args h r h', Hh.grow g = true → cf false g args h = some (r, h') → TokExt h h') {ops : Array Oper} {asx : List AOper} {s τ : St} {B : Nat → Nat → Prop} (hne : ∀ x, ¬ B x x) {base : List Nat} (hB : base.Pairwise B) (hbp : base.Perm (List.range ops.size))
    (hl : asx.length = ops.size) (hE : edgesOk ops.toList 0 = true) (hp : ∀ x y, B x y → ∀ a b, asx[x]? = some a → asx[y]? = some b → conf Hh x a y b = true → x ∈ ((befs ops.toList [])[y]?).getD [])
    (e : foldI cf asx base s = some τ) (t : Nat) : foldI cf asx (Region.schedule true ops t) s = some τ := by
  have hs : Region.schedule true ops t = Region.linearise .any ops t := by simp [Region.schedule]
  rw [hs]
  obtain ⟨acc, q1, q2, q3, q4, q5⟩ := lin_go hE ops.size t (Array.replicate ops.size false) [] (by simp) (by simp) (by simp) (by simp) (fun i hi => by simp [Array.getD_eq_getD_getElem?, hi]) trivial
  have hlin : Region.linearise .any ops t = acc.reverse := q1
  rw [hlin]
  have hperm : acc.Perm (List.range ops.size) := by
    have hmem : ∀ i, i ∈ acc ↔ i ∈ List.range ops.size := fun i => by
      rw [List.mem_range]
      refine ⟨fun hi => q4 i hi, fun hi => Classical.byContradiction fun hc => ?_⟩
      have hn : (i :: acc).Nodup := List.nodup_cons.2 ⟨hc, q3⟩
      have hsub : (i :: acc) ⊆ List.range ops.size := fun x hx => by
        rcases List.mem_cons.1 hx with rfl | hx
        · simpa using hi
        · simpa using q4 x hx
      have := hn.length_le_of_subset hsub
      simp at this; omega
    rw [List.perm_iff_count]
    intro i
    rw [q3.count, (List.nodup_range (n := ops.size)).count]
    simp only [hmem i]
  refine foldI_perm hgr hne hB ?_ ?_ e
  · exact ((List.reverse_perm acc).trans hperm).trans hbp.symm
  · rw [List.pairwise_reverse]
    exact ord_pairs (by rw [hl]; simp) hp q5 q3 (fun x hx => by simpa using q4 x hx)
theorem draw_ok {Hh : Hints} {cf : CallF} (hgr : ∀ g args h r h', Hh.grow g = true → cf false g args h = some (r, h') → TokExt h h') {ops : Array Oper} {asx : List AOper} {s τ : St} (hl : asx.length = ops.size) (hd : drawOk Hh ops.toList asx = true) (e : foldI cf asx (List.range' 0 asx.length) s = some τ) (t : Nat) : foldI cf asx (Region.schedule true ops t) s = some τ := by
  simp only [drawOk, Bool.and_eq_true] at hd
  refine draw_gen hgr (B := (· < ·)) (fun x => Nat.lt_irrefl x) (base := List.range' 0 asx.length) (List.pairwise_lt_range') (by rw [hl, ← List.range_eq_range']) hl hd.1 ?_ e t
  intro x y hxy a b ha hb hc
  have hylt : y < asx.length := (List.getElem?_eq_some_iff.1 hb).1
  have hp := hd.2
  simp only [pairsOk, List.all_eq_true, List.mem_range] at hp
  have := hp y hylt x hxy
  rw [ha, hb] at this
  simpa [hc] using this
theorem placeOf_get : ∀ {ord : List Nat} {p k : Nat}, ord.Nodup → ord[p]? = some k → placeOf ord k = p
  | [], p, k, _, h => by simp at h
  | x :: xs, 0, k, _, h => by simp at h; simp [placeOf, h]
  | x :: xs, p + 1, k, hn, h => by
    have h' : xs[p]? = some k := by simpa using h
    have hne : x ≠ k := fun e => by subst e; exact (List.nodup_cons.1 hn).1 (List.mem_of_getElem? h')
    simp [placeOf, hne, placeOf_get (List.nodup_cons.1 hn).2 h']
theorem placeOf_inj : ∀ {ord : List Nat} {j p k : Nat}, ord[p]? = some k → placeOf ord j = p → j = k
  | [], j, p, k, h, _ => by simp at h
  | x :: xs, j, 0, k, h, e => by
    simp at h; subst h
    unfold placeOf at e
    split at e
    · rename_i hx; exact hx.symm
    · omega
  | x :: xs, j, p + 1, k, h, e => by
    unfold placeOf at e
    split at e
    · omega
    · exact placeOf_inj (p := p) (by simpa using h) (by omega)
theorem execA_map {cf : CallF} {f : Opd → Opd} {ev : Opd → AVal} {op : AOp} {h : Heap} : execA cf (mapOp f op) ev h = execA cf op (fun x => ev (f x)) h := by
  cases op <;> simp [mapOp, execA, evalA, Function.comp_def, Option.map_map, List.map_map]
theorem ren_fold {cf : CallF} {asx : List AOper} {ord : List Nat} (hn : ord.Nodup) : ∀ (p : Nat) (rest : List Nat) (l : List AOper) (s1 s2 s2' : St), ord.drop p = rest → renOpers ord asx rest = some l → s1.vs = s2.vs → s1.h = s2.h → s2.ts.length = ord.length → (∀ k, k < s1.ts.length ↔ k ∈ ord) →
    (∀ k, evOpd s1.vs s1.ts (.t k) = evOpd s2.vs s2.ts (.t (placeOf ord k))) → foldA cf l p s2 = some s2' → ∃ s1', foldI cf asx rest s1 = some s1' ∧ s1'.vs = s2'.vs ∧ s1'.h = s2'.h
  | p, [], l, s1, s2, s2', _, hl, hv, hh, _, _, _, e => by
    simp [renOpers] at hl; subst hl
    simp [foldA] at e; subst e
    exact ⟨s1, rfl, hv, hh⟩
  | p, k :: rest, l, s1, s2, s2', hd, hl, hv, hh, hlen, hmem, hT, e => by
    simp only [renOpers] at hl
    split at hl
    · rename_i o r ho hr
      obtain rfl := Option.some.inj hl
      have hk : ord[p]? = some k := by
        have : (ord.drop p)[0]? = some k := by rw [hd]; rfl
        simpa using this
      have hpk := placeOf_get hn hk
      have hplt : p < ord.length := (List.getElem?_eq_some_iff.1 hk).1
      have hkmem : k ∈ ord := List.mem_of_getElem? hk
      have hklt := (hmem k).2 hkmem
      have hev : (fun x => evOpd s2.vs s2.ts (renO ord x)) = evOpd s1.vs s1.ts := by
        funext x
        cases x with
        | v i => simp [renO, evOpd, hv]
        | c x => rfl
        | t j => simp only [renO]; exact (hT j).symm
      have hwant : wantA (evOpd s2.vs s2.ts) (renOper ord o).guard = wantA (evOpd s1.vs s1.ts) o.guard := by
        rw [← hev]
        cases hg : o.guard with
        | none => simp [renOper, hg, wantA]
        | some q => simp [renOper, hg, wantA]
      have hput : ∀ (rr : AVal) (hp : Heap), (s1.put k o.dst rr hp).vs = (s2.put p o.dst rr hp).vs ∧ (s1.put k o.dst rr hp).h = (s2.put p o.dst rr hp).h ∧ (s2.put p o.dst rr hp).ts.length = ord.length ∧ (∀ j, j < (s1.put k o.dst rr hp).ts.length ↔ j ∈ ord) ∧
          ∀ j, evOpd (s1.put k o.dst rr hp).vs (s1.put k o.dst rr hp).ts (.t j) = evOpd (s2.put p o.dst rr hp).vs (s2.put p o.dst rr hp).ts (.t (placeOf ord j)) := by
        intro rr hp
        cases o.dst with
        | no => exact ⟨hv, rfl, hlen, hmem, hT⟩
        | var i => exact ⟨by simp [St.put, hv], rfl, hlen, hmem, hT⟩
        | tmp =>
          refine ⟨hv, rfl, by simp [St.put, hlen], by simpa [St.put] using hmem, fun j => ?_⟩
          simp only [St.put, evOpd]
          by_cases hj : j = k
          · subst hj
            rw [hpk, List.getElem?_set_self hklt, List.getElem?_set_self (by rw [hlen]; exact hplt)]
          · have hne : placeOf ord j ≠ p := fun e => hj (placeOf_inj hk e)
            rw [List.getElem?_set_ne (Ne.symm hj), List.getElem?_set_ne (Ne.symm hne)]
            exact hT j
      have hd' : ord.drop (p + 1) = rest := by rw [← List.drop_drop, hd]; rfl
      simp only [foldA] at e
      split at e
      · rename_i s2n hs2
        have hstep : ∃ s1n, stepA cf o k s1 = some s1n ∧ s1n.vs = s2n.vs ∧ s1n.h = s2n.h ∧ s2n.ts.length = ord.length ∧ (∀ j, j < s1n.ts.length ↔ j ∈ ord) ∧ ∀ j, evOpd s1n.vs s1n.ts (.t j) = evOpd s2n.vs s2n.ts (.t (placeOf ord j)) := by
          unfold stepA at hs2 ⊢
          rw [hwant] at hs2
          split at hs2
          · simp at hs2
          · rename_i hw
            obtain rfl := Option.some.inj hs2
            rw [hh]
            exact ⟨_, rfl, hput _ _⟩
          · rename_i hw
            have hx : execA cf (renOper ord o).op (evOpd s2.vs s2.ts) s2.h = execA cf o.op (evOpd s1.vs s1.ts) s1.h := by
              rw [← hev, hh]; exact execA_map
            rw [hx] at hs2
            split at hs2
            · rename_i rr hp hex
              obtain rfl := Option.some.inj hs2
              exact ⟨_, rfl, hput _ _⟩
            · simp at hs2
        obtain ⟨s1n, q1, q2, q3, q4, q5, q6⟩ := hstep
        obtain ⟨s1', r1, r2, r3⟩ := ren_fold hn (p + 1) rest r s1n s2n s2' hd' hr q2 q3 q4 q5 q6 e
        refine ⟨s1', ?_, r2, r3⟩
        simp only [foldI, ho, q1]
        exact r1
      · simp at e
    · simp at hl
theorem renOpers_len {ord : List Nat} {l : List AOper} : ∀ {ks : List Nat} {r : List AOper}, renOpers ord l ks = some r → r.length = ks.length
  | [], r, h => by simp [renOpers] at h; subst h; rfl
  | k :: ks, r, h => by
    simp only [renOpers] at h
    split at h
    · rename_i o r' _ hr
      obtain rfl := Option.some.inj h
      simp [renOpers_len hr]
    · simp at h
theorem pairsOkO_get {Hh : Hints} {bs : List (List Nat)} {asx : List AOper} : ∀ {ord : List Nat}, pairsOkO Hh bs asx ord = true → ord.Pairwise fun x y => ∀ a b, asx[x]? = some a → asx[y]? = some b → conf Hh x a y b = true → x ∈ (bs[y]?).getD []
  | [], _ => .nil
  | i :: rest, h => by
    simp only [pairsOkO, Bool.and_eq_true, List.all_eq_true] at h
    refine List.Pairwise.cons (fun y hy a b ha hb hc => ?_) (pairsOkO_get h.2)
    have := h.1 y hy
    rw [ha, hb] at this
    simpa [hc] using this
def Before (l : List Nat) (i j : Nat) : Prop := ∃ p q : Nat, p < q ∧ l[p]? = some i ∧ l[q]? = some j
theorem Before.irrefl {l : List Nat} (hn : l.Nodup) (x : Nat) : ¬ Before l x x := by
  rintro ⟨p, q, hpq, h1, h2⟩
  have := (List.getElem?_inj (List.getElem?_eq_some_iff.1 h1).1 hn).1 (h1.trans h2.symm)
  omega
theorem Before.asymm {l : List Nat} (hn : l.Nodup) {x y : Nat} (a : Before l x y) (b : Before l y x) : False := by
  obtain ⟨p, q, hpq, h1, h2⟩ := a
  obtain ⟨p', q', hpq', h1', h2'⟩ := b
  have e1 := (List.getElem?_inj (List.getElem?_eq_some_iff.1 h1).1 hn).1 (h1.trans h2'.symm)
  have e2 := (List.getElem?_inj (List.getElem?_eq_some_iff.1 h2).1 hn).1 (h2.trans h1'.symm)
  omega
theorem before_total {l : List Nat} {x y : Nat} (hx : x ∈ l) (hy : y ∈ l) (hne : x ≠ y) : Before l x y ∨ Before l y x := by
  obtain ⟨p, hp⟩ := List.getElem?_of_mem hx
  obtain ⟨q, hq⟩ := List.getElem?_of_mem hy
  rcases Nat.lt_trichotomy p q with h | h | h
  · exact .inl ⟨p, q, h, hp, hq⟩
  · subst h; rw [hp] at hq; exact absurd (Option.some.inj hq) hne
  · exact .inr ⟨q, p, h, hq, hp⟩
theorem reqs_get {H : Hints} {bs : List (List Nat)} {asx : List AOper} : ∀ {l : List Nat} {i j : Nat} {a b : AOper}, Before l i j → asx[i]? = some a → asx[j]? = some b → conf H i a j b = true → i ∈ ((bs[j]?).getD []) ∨ (i, j) ∈ reqs H bs asx l
  | [], i, j, a, b, hB, _, _, _ => by obtain ⟨p, q, _, h, _⟩ := hB; simp at h
  | x :: l, i, j, a, b, hB, ha, hb, hc => by
    obtain ⟨p, q, hpq, h1, h2⟩ := hB
    cases p with
    | zero =>
      simp at h1; subst h1
      by_cases hm : x ∈ ((bs[j]?).getD [])
      · exact .inl hm
      · refine .inr ?_
        simp only [reqs, List.mem_append, List.mem_map, List.mem_filter]
        refine .inl ⟨j, ⟨?_, ?_⟩, rfl⟩
        · cases q with
          | zero => omega
          | succ q => exact List.mem_of_getElem? (by simpa using h2)
        · rw [ha, hb]; simp [hc, hm]
    | succ p =>
      cases q with
      | zero => omega
      | succ q =>
        rcases reqs_get ⟨p, q, by omega, by simpa using h1, by simpa using h2⟩ ha hb hc with h | h
        · exact .inl h
        · exact .inr (by simp only [reqs, List.mem_append]; exact .inr h)
theorem allAssign_get {τ : List Nat} {k : List (Nat × Nat) → Bool} : ∀ {ps acc : List (Nat × Nat)}, (∀ p ∈ ps, p.1 ∈ τ ∧ p.2 ∈ τ ∧ p.1 ≠ p.2) → (∀ p ∈ acc, Before τ p.1 p.2) → allAssign ps acc k = true → ∃ os, (∀ p ∈ os, Before τ p.1 p.2) ∧ k os = true
  | [], acc, _, ha, h => ⟨acc, ha, h⟩
  | (i, j) :: ps, acc, hp, ha, h => by
    simp only [allAssign, Bool.and_eq_true] at h
    obtain ⟨h1, h2, h3⟩ := hp (i, j) (by simp)
    have hp' : ∀ p ∈ ps, p.1 ∈ τ ∧ p.2 ∈ τ ∧ p.1 ≠ p.2 := fun p hq => hp p (by simp [hq])
    rcases before_total h1 h2 h3 with hb | hb
    · exact allAssign_get hp' (fun p hq => by
        rcases List.mem_cons.1 hq with rfl | hq
        · exact hb
        · exact ha p hq) h.1
    · exact allAssign_get hp' (fun p hq => by
        rcases List.mem_cons.1 hq with rfl | hq
        · exact hb
        · exact ha p hq) h.2
theorem permOk_perm {ord : List Nat} {n : Nat} (h : permOk ord n = true) : ord.Nodup ∧ ord.Perm (List.range n) := by
  simp only [permOk, Bool.and_eq_true, decide_eq_true_eq] at h
  obtain ⟨⟨ho1, ho2⟩, ho3⟩ := h
  have hsub : List.range n ⊆ ord := fun k hk => by
    have := List.all_eq_true.1 ho2 k hk
    simpa using this
  have hmem : ∀ k, k ∈ ord ↔ k < n := by
    intro k
    constructor
    · intro hk
      refine Classical.byContradiction fun hc => ?_
      have hn : (k :: List.range n).Nodup := List.nodup_cons.2 ⟨by simpa using hc, List.nodup_range⟩
      have := hn.length_le_of_subset (fun x hx => by
        rcases List.mem_cons.1 hx with rfl | hx
        · exact hk
        · exact hsub hx)
      simp only [List.length_cons, List.length_range] at this
      omega
    · intro hk; exact hsub (by simpa using hk)
  refine ⟨ho3, ?_⟩
  rw [List.perm_iff_count]
  intro i
  rw [ho3.count, (List.nodup_range (n := n)).count]
  simp only [hmem i, List.mem_range]
theorem Before.trans {l : List Nat} (hn : l.Nodup) {x y z : Nat} (a : Before l x y) (b : Before l y z) : Before l x z := by
  obtain ⟨p, q, h1, h2, h3⟩ := a
  obtain ⟨p', q', k1, k2, k3⟩ := b
  have : q = p' := (List.getElem?_inj (List.getElem?_eq_some_iff.1 h3).1 hn).1 (h3.trans k2.symm)
  exact ⟨p, q', by omega, h2, k3⟩
theorem before_befs {ops : List Oper} {acc : List Nat} (ho : Ord ops acc) (hlt : ∀ x ∈ acc, x < ops.length) {x z : Nat} (hz : z ∈ acc) (hx : x ∈ ((befs ops [])[z]?).getD []) : Before acc.reverse x z := by
  obtain ⟨p, q, rfl⟩ := List.append_of_mem hz
  have hq := befs_ord z (hlt z (by simp)) ho x hx
  obtain ⟨q1, q2, rfl⟩ := List.append_of_mem hq
  refine ⟨q2.length, q2.length + 1 + q1.length, by omega, ?_, ?_⟩
  · simp
  · have e : (p ++ z :: (q1 ++ x :: q2)).reverse = (q2.reverse ++ x :: q1.reverse) ++ (z :: p.reverse) := by simp
    rw [e, List.getElem?_append_right (by simp; omega)]
    have : q2.length + 1 + q1.length - (q2.reverse ++ x :: q1.reverse).length = 0 := by simp; omega
    rw [this]; rfl
theorem draw_reps {Hh : Hints} {cf : CallF} (hgr : ∀ g args h r h', Hh.grow g = true → cf false g args h = some (r, h') → TokExt h h') {ops : Array Oper} {asx : List AOper} {s : St} {pairs : List (Nat × Nat)} {reps : List (List Nat)} (hl : asx.length = ops.size) (hr : repsOk Hh ops.toList asx pairs reps = true) (t : Nat) :
    ∃ r ∈ reps, ∀ τ, foldI cf asx r s = some τ → foldI cf asx (Region.schedule true ops t) s = some τ := by
  simp only [repsOk, Bool.and_eq_true, List.all_eq_true, decide_eq_true_eq] at hr
  obtain ⟨⟨⟨hE, hpairs⟩, hperm⟩, hall⟩ := hr
  have hs : Region.schedule true ops t = Region.linearise .any ops t := by simp [Region.schedule]
  obtain ⟨acc, q1, q2, q3, q4, q5⟩ := lin_go hE ops.size t (Array.replicate ops.size false) [] (by simp) (by simp) (by simp) (by simp) (fun i hi => by simp [Array.getD_eq_getD_getElem?, hi]) trivial
  have hlin : Region.linearise .any ops t = acc.reverse := q1
  have hmem : ∀ i, i ∈ acc ↔ i < ops.size := fun i => by
    refine ⟨fun hi => q4 i hi, fun hi => Classical.byContradiction fun hc => ?_⟩
    have hn : (i :: acc).Nodup := List.nodup_cons.2 ⟨hc, q3⟩
    have hsub : (i :: acc) ⊆ List.range ops.size := fun x hx => by
      rcases List.mem_cons.1 hx with rfl | hx
      · simpa using hi
      · simpa using q4 x hx
    have := hn.length_le_of_subset hsub
    simp at this; omega
  have hpermA : acc.Perm (List.range ops.size) := by
    rw [List.perm_iff_count]
    intro i
    rw [q3.count, (List.nodup_range (n := ops.size)).count]
    simp only [hmem i, List.mem_range]
  have hnr : acc.reverse.Nodup := ((List.reverse_perm acc).nodup_iff).2 q3
  obtain ⟨os, ho1, ho2⟩ := allAssign_get (τ := acc.reverse) (fun p hp => by
    obtain ⟨⟨h1, h2⟩, h3⟩ := hpairs p hp
    exact ⟨by rw [List.mem_reverse, hmem]; omega, by rw [List.mem_reverse, hmem]; omega, h3⟩) (by simp) hall
  have hz : ∀ e ∈ os, e.1 ∈ acc := fun e he => by
    obtain ⟨pp, _, _, h3, _⟩ := ho1 e he
    simpa using List.mem_of_getElem? h3
  rw [Bool.or_eq_true] at ho2
  rcases ho2 with ho2 | ho2
  · exfalso
    simp only [List.any_eq_true, Bool.and_eq_true, beq_iff_eq] at ho2
    obtain ⟨⟨i, j⟩, he, ⟨j', k⟩, hf, h1, h2⟩ := ho2
    simp only at h1 h2
    subst h1
    exact Before.asymm hnr (Before.trans hnr (ho1 _ he) (ho1 _ hf)) (before_befs q5 (fun x hx => by simpa using q4 x hx) (hz _ he) (by simpa using h2))
  simp only [List.any_eq_true, List.mem_map, List.all_eq_true] at ho2
  obtain ⟨_, ⟨r, hr1, rfl⟩, hr2⟩ := ho2
  refine ⟨r, hr1, fun τ e => ?_⟩
  obtain ⟨hrn, hrp⟩ := permOk_perm (hperm r hr1)
  rw [hs, hlin]
  have hBr : r.Pairwise (Before r) := by
    rw [List.pairwise_iff_getElem]
    intro i j hi hj hij
    exact ⟨i, j, hij, List.getElem?_eq_getElem hi, List.getElem?_eq_getElem hj⟩
  refine foldI_perm hgr (Before.irrefl hrn) hBr ?_ ?_ e
  · exact ((List.reverse_perm acc).trans hpermA).trans (by rw [← hl]; exact hrp.symm)
  · have key := ord_pairs (Hh := Hh) (asx := asx) (B := fun x y => Before r x y ∧ ¬ Before acc.reverse x y) (by rw [hl]; simp) (fun x y hxy a b ha hb hc => by
      rcases reqs_get (bs := befs ops.toList []) hxy.1 ha hb hc with h | h
      · exact h
      · have h0 := hr2 _ h
        simp only [Bool.or_eq_true, List.any_eq_true, Bool.and_eq_true, beq_iff_eq] at h0
        rcases h0 with h0 | ⟨e, he, h1, h2⟩
        · exact absurd (ho1 (x, y) (by simpa using h0)) hxy.2
        · obtain ⟨e1, e2⟩ := e
          simp only at h1 h2
          subst h1
          have hb := ho1 _ he
          have hz : e1 ∈ acc := by
            obtain ⟨pp, _, _, h3, _⟩ := hb
            simpa using List.mem_of_getElem? h3
          exact absurd (Before.trans hnr (before_befs q5 (fun x hx => by simpa using q4 x hx) hz (by simpa using h2)) hb) hxy.2) q5 q3 (fun x hx => by simpa using q4 x hx)
    rw [List.pairwise_reverse]
    have hidx := List.pairwise_iff_getElem.1 key
    rw [List.pairwise_iff_getElem]
    intro i j hi hj hij hB a b ha hb
    -- acc[i] was taken after acc[j]
    refine hidx i j hi hj hij ⟨hB, fun hc => ?_⟩ a b ha hb
    refine Before.asymm hnr hc ⟨acc.length - 1 - j, acc.length - 1 - i, by omega, ?_, ?_⟩
    · rw [List.getElem?_reverse (by omega), show acc.length - 1 - (acc.length - 1 - j) = j by omega]; exact List.getElem?_eq_getElem hj
    · rw [List.getElem?_reverse (by omega), show acc.length - 1 - (acc.length - 1 - i) = i by omega]; exact List.getElem?_eq_getElem hi
end Go.Abs
