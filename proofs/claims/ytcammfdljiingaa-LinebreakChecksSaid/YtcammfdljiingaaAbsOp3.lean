/-
  One operation of the model does what the abstract machine says: elements, fields, slices, closures, values that are built.
-/
import Derived.Test.YtcammfdljiingaaAbsOp2
namespace Go.Abs
set_option linter.unusedSimpArgs false
set_option linter.unusedVariables false
section
variable {P : Program} {o : Oper} {a : Act} {w : World} {G : Ghost} {h : Heap} {c : Operand → Option Opd} {ev : Opd → AVal} {r : AVal} {h' : Heap}

theorem op_iaddr (H : HRel w G h) (hc : Ops a w G c ev) {x i : Operand} {x' i' : Opd} {t el : TypeId} {sz : Nat} (hx : c x = some x') (hi : c i = some i') (ht : P.underlying t = some (.slice el)) (hs : tSize P el = some sz)
    (hop : o.op = .indexAddr t x i) (e : evalA (.iaddr sz x' i') ev h = some (r, h')) : OpRes P o a w G h r h' := by
  have rx := hc _ _ hx
  have ri := hc _ _ hi
  simp only [evalA] at e
  split at e
  · rename_i xs tk k n hb hb'
    rw [hb] at rx; rw [hb'] at ri
    generalize hv : a.eval x = v at rx
    generalize hv' : a.eval i = v' at ri
    split at e
    · rename_i hn
      split at e
      · rename_i y hy
        split at e
        · rename_i hsz
          simp at e; obtain ⟨rfl, rfl⟩ := e
          cases ri
          cases rx with
          | nilsl => simp at hn; omega
          | sl b off cap sz0 _ _ u h0 h1 h2 h3 h4 h5 hcp hnn ho =>
            have : sz0 = sz := by rw [← h0 y (List.mem_of_getElem? hy)]; exact hsz
            subst this
            have hlt : n.toNat < xs.length := by omega
            have hget : ∀ (j : Nat) (cc : AVal), y.cells[j]? = some cc → (flat xs)[n.toNat * sz0 + j]? = some cc := fun j cc hj => by
              rw [flat_get h0 hy (by rw [← hsz]; exact (List.getElem?_eq_some_iff.1 hj).1)]; exact hj
            refine OpRes.same H (v := .pointer (some ⟨b, off + n.toNat * sz0, none⟩)) ?_ (.rp b (off + n.toNat * sz0) y.cells (fun j => u (n.toNat * sz0 + j)) (fun j cc hj => ?_) (fun j cc hj => h2 _ cc (hget j cc hj)) (fun j hj => ?_) (fun cc hcc => ?_))
            · simp [execOp, hop, hv, hv', Instr.indexAt, asIntOf, run_underlying ht, hn, run_sizeOf' hs, Addr.add_lit]
            · rw [Nat.add_assoc]; exact h1 _ cc (hget j cc hj)
            · rw [Nat.add_assoc]; refine h3 _ ?_
              have hj' := hget j _ (List.getElem?_eq_getElem hj)
              exact (List.getElem?_eq_some_iff.1 hj').1
            · obtain ⟨j, hj⟩ := mem_get hcc
              exact h4 cc (List.mem_of_getElem? (hget j cc hj))
        · simp at e
      · simp at e
    · simp at e
  · rename_i id off len s k n hb hb'
    rw [hb] at rx; rw [hb'] at ri
    generalize hv : a.eval x = v at rx
    generalize hv' : a.eval i = v' at ri
    split at e
    · rename_i hn
      obtain ⟨hn1, hn2, rfl⟩ := hn
      simp at e; obtain ⟨rfl, rfl⟩ := e
      cases ri
      cases rx with
      | ref0 => simp at hn2; omega
      | ref _ _ _ _ cap hid hcp hsh =>
        exact OpRes.same H (by simp [execOp, hop, hv, hv', Instr.indexAt, asIntOf, run_underlying ht, hn1, hn2, run_sizeOf' hs, Addr.add_lit]) (.ptr _ _ hid)
    · simp at e
  · simp at e

theorem op_aaddr (H : HRel w G h) (hc : Ops a w G c ev) {x i : Operand} {x' i' : Opd} {t el : TypeId} {n sz : Nat} (hx : c x = some x') (hi : c i = some i') (ht : P.underlying t = some (.array n el)) (hs : tSize P el = some sz)
    (hop : o.op = .indexAddr t x i) (e : evalA (.aaddr n sz x' i') ev h = some (r, h')) : OpRes P o a w G h r h' := by
  have rx := hc _ _ hx
  have ri := hc _ _ hi
  simp only [evalA] at e
  split at e
  · rename_i id off k m hb hb'
    rw [hb] at rx; rw [hb'] at ri
    generalize hv : a.eval x = v at rx
    generalize hv' : a.eval i = v' at ri
    split at e
    · rename_i hn
      simp at e; obtain ⟨rfl, rfl⟩ := e
      cases ri
      cases rx with
      | ptr _ _ hid => exact OpRes.same H (by simp [execOp, hop, hv, hv', Instr.indexAt, asIntOf, run_underlying ht, hn, run_sizeOf' hs, Addr.add_lit, Instr.sureAddr]) (.ptr _ _ hid)
    · simp at e
  · rename_i cs k m hb hb'
    rw [hb] at rx; rw [hb'] at ri
    generalize hv : a.eval x = v at rx
    generalize hv' : a.eval i = v' at ri
    split at e
    · rename_i hn
      simp at e; obtain ⟨rfl, rfl⟩ := e
      cases ri
      cases rx with
      | rp b off _ u h1 h2 h3 h4 =>
        refine OpRes.same H (by simp [execOp, hop, hv, hv', Instr.indexAt, asIntOf, run_underlying ht, hn, run_sizeOf' hs, Addr.add_lit, Instr.sureAddr]) (.rp b (off + m.toNat * sz) (cs.drop (m.toNat * sz)) (fun k => u (m.toNat * sz + k)) (fun k c hk => ?_) (fun k c hk => ?_) (fun k hk => ?_) (fun c hc' => h4 c (List.mem_of_mem_drop hc')))
        · rw [List.getElem?_drop] at hk; rw [Nat.add_assoc]; exact h1 _ c hk
        · rw [List.getElem?_drop] at hk; exact h2 _ c hk
        · simp at hk; rw [Nat.add_assoc]; exact h3 _ (by omega)
    · simp at e
  · simp at e

/-- A part of an aggregate. -/
theorem part_ok {t : TypeId} {n off : Nat} {ag : Bool} {cs : Array Value} {as : List AVal} {r : AVal} (hs : tSize P t = some n) (ha : tAgg P t = some ag) (hl : cs.size = as.length)
    (hh : ∀ (k : Nat) (c : Value) (a : AVal), cs[k]? = some c → as[k]? = some a → VRel w G c a) (h4 : ∀ c ∈ as, c.one = true) (hn : off + n ≤ as.length) (hm : mk ag ((as.drop off).take n) = some r) :
    ∃ v, (part t cs off).run P w = .ok v w ∧ VRel w G v r := by
  cases ag with
  | true =>
    simp [mk] at hm; subst hm
    refine ⟨.agg (cs.extract off (off + n)), by simp [part, run_isAgg' ha, run_sizeOf' hs], .agg _ _ (by simp; omega) (fun k c a hc ha => ?_) (fun c hc => h4 c (List.mem_of_mem_drop (List.mem_of_mem_take hc)))⟩
    rw [List.getElem?_take] at ha
    split at ha
    · rw [List.getElem?_drop] at ha
      refine hh (off + k) c a ?_ ha
      rw [Array.getElem?_extract] at hc
      split at hc
      · exact hc
      · simp at hc
    · simp at ha
  | false =>
    simp only [mk, Bool.false_eq_true, if_false] at hm
    split at hm
    · rename_i c hc
      obtain rfl := Option.some.inj hm
      have h0 : ((as.drop off).take n)[0]? = some c := by rw [hc]; rfl
      rw [List.getElem?_take] at h0
      split at h0
      · rw [List.getElem?_drop, Nat.add_zero] at h0
        obtain ⟨u, hu⟩ : ∃ u, cs[off]? = some u := ⟨_, Array.getElem?_eq_getElem (by rw [hl]; exact (List.getElem?_eq_some_iff.1 h0).1)⟩
        exact ⟨u, run_part ha hu w, hh off u c hu h0⟩
      · simp at h0
    · simp at hm

theorem op_field (H : HRel w G h) (hc : Ops a w G c ev) {x : Operand} {x' : Opd} {t : TypeId} {fs : Array Field} {i n : Nat} {f : Field} {ag : Bool} (hx : c x = some x') (ht : P.underlying t = some (.struct fs)) (hf : fs[i]? = some f)
    (hs : tSize P f.type = some n) (ha : tAgg P f.type = some ag) (hop : o.op = .field t x i) (e : evalA (.field f.offset n ag x') ev h = some (r, h')) : OpRes P o a w G h r h' := by
  have rx := hc _ _ hx
  simp only [evalA] at e
  split at e
  · rename_i cs hb
    rw [hb] at rx; generalize hv : a.eval x = v at rx
    split at e
    · rename_i hn
      simp only [Option.map_eq_some_iff, Prod.mk.injEq] at e
      obtain ⟨r', e, rfl, rfl⟩ := e
      cases rx with
      | agg as _ hl hh h4 =>
        obtain ⟨v, hr, hv'⟩ := part_ok (P := P) hs ha hl hh h4 hn e
        exact OpRes.same H (by simp [execOp, hop, hv, Instr.field, run_underlying ht, hf, asAgg, hr]) hv'
    · simp at e
  · simp at e

theorem op_aidx (H : HRel w G h) (hc : Ops a w G c ev) {x i : Operand} {x' i' : Opd} {t el : TypeId} {len n : Nat} {ag : Bool} (hx : c x = some x') (hi : c i = some i') (ht : P.underlying t = some (.array len el))
    (hs : tSize P el = some n) (ha : tAgg P el = some ag) (hop : o.op = .index t x i) (e : evalA (.aidx len n ag x' i') ev h = some (r, h')) : OpRes P o a w G h r h' := by
  have rx := hc _ _ hx
  have ri := hc _ _ hi
  simp only [evalA] at e
  split at e
  · rename_i cs k m hb hb'
    rw [hb] at rx; rw [hb'] at ri
    generalize hv : a.eval x = v at rx
    generalize hv' : a.eval i = v' at ri
    split at e
    · rename_i hn
      obtain ⟨hn1, hn2, hn3⟩ := hn
      simp only [Option.map_eq_some_iff, Prod.mk.injEq] at e
      obtain ⟨r', e, rfl, rfl⟩ := e
      cases ri
      cases rx with
      | agg as _ hl hh h4 =>
        obtain ⟨v, hr, hv''⟩ := part_ok (P := P) hs ha hl hh h4 hn3 e
        exact OpRes.same H (by simp [execOp, hop, hv, hv', Instr.index, asIntOf, run_underlying ht, hn1, hn2, run_sizeOf' hs, hr]) hv''
    · simp at e
  · simp at e

theorem op_sidx (H : HRel w G h) (hc : Ops a w G c ev) {x i : Operand} {x' i' : Opd} {t : TypeId} (hx : c x = some x') (hi : c i = some i') (ht : P.underlying t = some .string)
    (hop : o.op = .index t x i) (e : evalA (.sidx x' i') ev h = some (r, h')) : OpRes P o a w G h r h' := by
  have rx := hc _ _ hx
  have ri := hc _ _ hi
  simp only [evalA] at e
  split at e
  · rename_i s k m hb hb'
    rw [hb] at rx; rw [hb'] at ri
    generalize hv : a.eval x = v at rx
    generalize hv' : a.eval i = v' at ri
    split at e
    · rename_i hm
      split at e
      · rename_i b hbb
        simp at e; obtain ⟨rfl, rfl⟩ := e
        cases ri
        cases rx with
        | str s =>
          have hlt : m.toNat < s.size := (List.getElem?_eq_some_iff.1 hbb).1
          have hidx : 0 ≤ m ∧ m < s.size := ⟨hm, by omega⟩
          have hb2 : s[m.toNat] = b := by
            have := (List.getElem?_eq_some_iff.1 hbb).2
            exact this
          refine OpRes.same H (v := .int .u8 b.toNat) ?_ (.int _ _)
          simp only [execOp, hop, hv, hv', Sem.run_bind, run_index_string w t s k m ht, dif_pos hidx, Result.andThen_ok, Sem.run_pure, hb2]
      · simp at e
    · simp at e
  · simp at e

/-- The bounds of a slice expression without a third index. -/
theorem bounds_ok {isSlice : Bool} {len cap y d : Nat} {lo hi : Option Value} {lo' hi' : Option AVal} (hlo : match lo, lo' with
      | none, none => True
      | some v, some x => VRel w G v x
      | _, _ => False) (hhi : match hi, hi' with
      | none, none => True
      | some v, some x => VRel w G v x
      | _, _ => False) (hcap : len ≤ cap) {hh l : Nat} (e1 : boundA hi' len len = some hh) (e2 : boundA lo' 0 hh = some l) :
    (Instr.sliceBounds isSlice len cap lo hi none).run P w = .ok (l, hh, cap) w ∧ l ≤ hh ∧ hh ≤ len := by
  have b : ∀ {x : Option AVal} {v : Value} {d y z : Nat} {cap : Nat} {code : BoundsCode}, VRel w G v (x.getD .bad) → x.isSome → boundA x d y = some z → y ≤ cap → (Instr.sliceBound v cap code).run P w = .ok z w ∧ z ≤ y := by
    intro x v d y z cap code hv hsome e hy
    cases x with
    | none => simp at hsome
    | some x =>
      simp only [Option.getD_some] at hv
      unfold boundA at e
      split at e
      · simp_all
      · rename_i k i heq
        obtain rfl := Option.some.inj heq
        split at e
        · rename_i hi
          obtain rfl := Option.some.inj e
          cases hv
          exact ⟨run_sliceBound w k i cap code hi.1 (by omega), by omega⟩
        · simp at e
      · simp at e
  have hH : ∃ code, (match hi with
      | some v => Instr.sliceBound v cap code
      | none => pure len).run P w = .ok hh w ∧ hh ≤ len ∧ code = (if isSlice then BoundsCode.sliceAcap else .sliceAlen) := by
    refine ⟨_, ?_, ?_, rfl⟩
    · cases hi with
      | none => cases hi' with
        | none => simp [boundA] at e1; subst e1; rfl
        | some x => simp at hhi
      | some v => cases hi' with
        | none => simp at hhi
        | some x => exact (b (x := some x) (by simpa using hhi) rfl e1 hcap).1
    · cases hi' with
      | none => simp [boundA] at e1; omega
      | some x => cases hi with
        | none => simp at hhi
        | some v => exact (b (x := some x) (code := .index) (by simpa using hhi) rfl e1 (Nat.le_refl _)).2
  obtain ⟨code, hr, hle, rfl⟩ := hH
  have hL : (match lo with
      | some v => Instr.sliceBound v hh .sliceB
      | none => pure 0).run P w = .ok l w ∧ l ≤ hh := by
    cases lo with
    | none => cases lo' with
      | none => simp [boundA] at e2; subst e2; exact ⟨rfl, by omega⟩
      | some x => simp at hlo
    | some v => cases lo' with
      | none => simp at hlo
      | some x => exact b (x := some x) (by simpa using hlo) rfl e2 (Nat.le_refl _)
  refine ⟨?_, hL.2, hle⟩
  unfold Instr.sliceBounds
  cases hi <;> cases lo <;> simp_all

theorem optO_ok (hc : Ops a w G c ev) {x : Option Operand} {x' : Option Opd} (hx : optO c x = some x') : match x.map a.eval, x'.map ev with
      | none, none => True
      | some v, some y => VRel w G v y
      | _, _ => False := by
  cases x with
  | none => simp [optO] at hx; subst hx; trivial
  | some x =>
    simp only [optO, Option.map_eq_some_iff] at hx
    obtain ⟨y, hy, rfl⟩ := hx
    exact hc _ _ hy

theorem op_sslice (H : HRel w G h) (hc : Ops a w G c ev) {x : Operand} {x' : Opd} {lo hi : Option Operand} {lo' hi' : Option Opd} {t : TypeId} (hx : c x = some x') (hlo : optO c lo = some lo') (hhi : optO c hi = some hi')
    (ht : P.underlying t = some .string) (hop : o.op = .slice t x lo hi none) (e : evalA (.sslice x' lo' hi') ev h = some (r, h')) : OpRes P o a w G h r h' := by
  have rx := hc _ _ hx
  simp only [evalA, Option.map_eq_some_iff, Prod.mk.injEq] at e
  obtain ⟨r', e, rfl, rfl⟩ := e
  unfold ssliceA at e
  split at e
  · rename_i s hb
    rw [hb] at rx; generalize hv : a.eval x = v at rx
    split at e
    · rename_i hh eh
      split at e
      · rename_i l el
        obtain rfl := Option.some.inj e
        cases rx with
        | str s =>
          have hsz : s.data.toList.length = s.size := rfl
          rw [hsz] at eh
          obtain ⟨hb1, hb2, hb3⟩ := bounds_ok (P := P) (w := w) (G := G) (isSlice := false) (cap := s.size) (y := 0) (d := 0) (optO_ok hc hlo) (optO_ok hc hhi) (Nat.le_refl _) eh el
          refine OpRes.same H (v := .string (s.extract l hh)) (by simp [execOp, hop, hv, Instr.sliceAt, Instr.slice, run_underlying ht, hb1]) ?_
          have := VRel.str (w := w) (G := G) (s.extract l hh)
          rwa [show (s.extract l hh).data.toList = (s.data.toList.drop l).take (hh - l) by
            rw [ByteArray.data_extract, Array.toList_extract, List.extract_eq_take_drop]] at this
      · simp at e
    · simp at e
  · simp at e

theorem flat_drop_take {sz : Nat} {xs : List AVal} (h0 : ∀ x ∈ xs, x.cells.length = sz) (l n : Nat) : flat ((xs.drop l).take n) = ((flat xs).drop (l * sz)).take (n * sz) := by
  induction xs generalizing l n with
  | nil => simp [flat]
  | cons x xs ih =>
    have e : flat (x :: xs) = x.cells ++ flat xs := by simp [flat]
    have hx := h0 x (by simp)
    have h0' : ∀ x ∈ xs, x.cells.length = sz := fun y hy => h0 y (by simp [hy])
    cases l with
    | zero =>
      cases n with
      | zero => simp [flat]
      | succ n =>
        have e2 : flat (x :: (xs.take n)) = x.cells ++ flat (xs.take n) := by simp [flat]
        have := ih h0' 0 n
        simp only [List.drop_zero, Nat.zero_mul] at this ⊢
        rw [List.take_succ_cons, e2, e, this, Nat.succ_mul, Nat.add_comm, ← hx, List.take_length_add_append]
    | succ l =>
      rw [List.drop_succ_cons, ih h0' l n, e, Nat.succ_mul, Nat.add_comm, ← hx, List.drop_length_add_append]

theorem op_slice (H : HRel w G h) (hc : Ops a w G c ev) {x : Operand} {x' : Opd} {lo hi : Option Operand} {lo' hi' : Option Opd} {t el : TypeId} {sz : Nat} (hx : c x = some x') (hlo : optO c lo = some lo') (hhi : optO c hi = some hi')
    (ht : P.underlying t = some (.slice el)) (hs : tSize P el = some sz) (hop : o.op = .slice t x lo hi none) (e : evalA (.slice sz x' lo' hi') ev h = some (r, h')) : OpRes P o a w G h r h' := by
  have rx := hc _ _ hx
  simp only [evalA, Option.map_eq_some_iff, Prod.mk.injEq] at e
  obtain ⟨r', e, rfl, rfl⟩ := e
  unfold sliceA at e
  split at e
  · rename_i xs tk hb
    rw [hb] at rx; generalize hv : a.eval x = v at rx
    split at e
    · rename_i hh eh
      split at e
      · rename_i l elo
        split at e
        · rename_i hcond
          obtain rfl := Option.some.inj e
          cases rx with
          | nilsl _ htk =>
            obtain ⟨hb1, hb2, hb3⟩ := bounds_ok (P := P) (w := w) (G := G) (isSlice := true) (cap := 0) (y := 0) (d := 0) (optO_ok hc hlo) (optO_ok hc hhi) (Nat.le_refl _) eh elo
            have hl0 : l = 0 := by simp at hb3; omega
            have hh0 : hh = 0 := by simp at hb3; omega
            subst hl0; subst hh0
            refine OpRes.same H (v := .slice none 0 0) (by simp [execOp, hop, hv, Instr.sliceAt, Instr.slice, run_underlying ht, hb1, run_sizeOf' hs]) ?_
            rcases htk with rfl | rfl
            · exact VRel.nilsl (w := w) (G := G) .nil (by simp)
            · exact VRel.nilsl (w := w) (G := G) .none (by simp)
          | sl b off cap sz0 _ _ u h0 h1 h2 h3 h4 h5 hcp hnn ho =>
            obtain ⟨hb1, hb2, hb3⟩ := bounds_ok (P := P) (w := w) (G := G) (isSlice := true) (cap := cap) (y := 0) (d := 0) (optO_ok hc hlo) (optO_ok hc hhi) hcp eh elo
            have htk : tk.sub = .none := by cases tk <;> first | rfl | exact absurd rfl hnn
            rw [htk]
            have hlen : ((xs.drop l).take (hh - l)).length = hh - l := by simp; omega
            have hrun : (execOp a.eval o).run P w = .ok (.value (.slice (if cap = l then some ⟨b, off, none⟩ else some ⟨b, off + l * sz, none⟩) (hh - l) (cap - l))) w := by
              simp [execOp, hop, hv, Instr.sliceAt, Instr.slice, run_underlying ht, hb1, run_sizeOf' hs, Addr.add_lit]
            by_cases hcl : cap = l
            · have hz : hh - l = 0 := by omega
              rw [hz, List.take_zero]
              rw [if_pos hcl, hz, show cap - l = 0 by omega] at hrun
              exact OpRes.same H hrun (vrel_sl0 b off)
            · rw [if_neg hcl] at hrun
              by_cases hz : hh - l = 0
              · rw [hz, List.take_zero]
                rw [hz] at hrun
                exact OpRes.same H hrun (.sl b _ (cap - l) 0 [] .none (fun _ => .bool false) (by simp) (by simp [flat]) (by simp [flat]) (by simp [flat]) (by simp [flat]) (by simp [flat]) (by simp) (by simp) (by simp))
              · obtain ⟨y, ys, rfl⟩ : ∃ y ys, xs = y :: ys := by
                  cases xs with
                  | nil => simp at hb3; omega
                  | cons y ys => exact ⟨y, ys, rfl⟩
                have hsz : sz0 = sz := by rw [← h0 y (by simp)]; exact hcond.1 y rfl
                subst hsz
                have hsub : ∀ z ∈ ((y :: ys).drop l).take (hh - l), z ∈ y :: ys := fun z hz => List.mem_of_mem_drop (List.mem_of_mem_take hz)
                have hget : ∀ (k : Nat) (cc : AVal), (flat (((y :: ys).drop l).take (hh - l)))[k]? = some cc → (flat (y :: ys))[l * sz0 + k]? = some cc := by
                  intro k cc hk
                  rw [flat_drop_take h0, List.getElem?_take] at hk
                  split at hk
                  · rwa [List.getElem?_drop] at hk
                  · simp at hk
                rw [show hh - l = (((y :: ys).drop l).take (hh - l)).length by rw [hlen]] at hrun
                refine OpRes.same H hrun (.sl b (off + l * sz0) (cap - l) sz0 _ .none (fun k => u (l * sz0 + k)) (fun z hz => h0 z (hsub z hz)) (fun k cc hk => ?_) (fun k cc hk => h2 _ cc (hget k cc hk)) (fun k hk => ?_) (fun cc hcc => ?_) (fun cc hcc => ?_) (by rw [hlen]; omega) (by simp) (by simp))
                · rw [Nat.add_assoc]; exact h1 _ cc (hget k cc hk)
                · rw [Nat.add_assoc]
                  have hk' := hget k _ (List.getElem?_eq_getElem hk)
                  exact h3 _ (List.getElem?_eq_some_iff.1 hk').1
                · obtain ⟨k, hk⟩ := mem_get hcc
                  exact h4 cc (List.mem_of_getElem? (hget k cc hk))
                · obtain ⟨k, hk⟩ := mem_get hcc
                  exact h5 cc (List.mem_of_getElem? (hget k cc hk))
        · simp at e
      · simp at e
    · simp at e
  · rename_i id off len s hb
    rw [hb] at rx; generalize hv : a.eval x = v at rx
    split at e
    · rename_i hh eh
      split at e
      · rename_i l elo
        split at e
        · rename_i hsz
          subst hsz
          obtain rfl := Option.some.inj e
          cases rx with
          | ref0 _ _ _ b bo hid =>
            obtain ⟨hb1, hb2, hb3⟩ := bounds_ok (P := P) (w := w) (G := G) (isSlice := true) (cap := 0) (y := 0) (d := 0) (optO_ok hc hlo) (optO_ok hc hhi) (Nat.le_refl _) eh elo
            have hl0 : l = 0 := by omega
            have hh0 : hh = 0 := by omega
            subst hl0; subst hh0
            exact OpRes.same H (v := .slice (some ⟨b, bo, none⟩) 0 0) (by simp [execOp, hop, hv, Instr.sliceAt, Instr.slice, run_underlying ht, hb1, run_sizeOf' hs]) (.ref0 _ _ _ b bo hid)
          | ref _ _ _ _ cap hid hcp hsh =>
            obtain ⟨hb1, hb2, hb3⟩ := bounds_ok (P := P) (w := w) (G := G) (isSlice := true) (cap := cap) (y := 0) (d := 0) (optO_ok hc hlo) (optO_ok hc hhi) hcp eh elo
            have hrun : (execOp a.eval o).run P w = .ok (.value (.slice (if cap = l then some ⟨G.loc id, off, none⟩ else some ⟨G.loc id, off + l * s, none⟩) (hh - l) (cap - l))) w := by
              simp [execOp, hop, hv, Instr.sliceAt, Instr.slice, run_underlying ht, hb1, run_sizeOf' hs, Addr.add_lit]
            by_cases hcl : cap = l
            · have hz : hh - l = 0 := by omega
              rw [hz]
              rw [if_pos hcl, hz, show cap - l = 0 by omega] at hrun
              exact OpRes.same H hrun (.ref0 _ _ _ _ _ hid)
            · rw [if_neg hcl] at hrun
              obtain ⟨et, n, hs1, hs2⟩ := hsh
              refine OpRes.same H hrun (.ref id (off + l * s) (hh - l) s (cap - l) hid (by omega) ⟨et, n, hs1, ?_⟩)
              have : l * s + (cap - l) * s = cap * s := by rw [← Nat.add_mul]; congr 1; omega
              omega
        · simp at e
      · simp at e
    · simp at e
  · simp at e

theorem optL_ok {α β : Type} {f : α → Option β} : ∀ {xs : List α} {ys : List β}, optL f xs = some ys → xs.length = ys.length ∧ ∀ (k : Nat) (x : α), xs[k]? = some x → ∃ y, ys[k]? = some y ∧ f x = some y
  | [], ys, e => by simp [optL] at e; subst e; simp
  | x :: xs, ys, e => by
    simp only [optL] at e
    split at e
    · rename_i y ys' h1 h2
      obtain rfl := Option.some.inj e
      obtain ⟨e1, e2⟩ := optL_ok h2
      refine ⟨by simp [e1], fun k x' hk => ?_⟩
      cases k with
      | zero => simp at hk; subst hk; exact ⟨y, by simp, h1⟩
      | succ k => simpa using e2 k x' (by simpa using hk)
    · simp at e

/-- A list of operands. -/
theorem opds_ok (hc : Ops a w G c ev) {xs : List Operand} {ys : List Opd} (e : optL c xs = some ys) : xs.length = ys.length ∧ ∀ (k : Nat) (v : Value) (y : AVal), (xs.map a.eval)[k]? = some v → (ys.map ev)[k]? = some y → VRel w G v y := by
  obtain ⟨e1, e2⟩ := optL_ok e
  refine ⟨e1, fun k v y hv hy => ?_⟩
  simp only [List.getElem?_map, Option.map_eq_some_iff] at hv hy
  obtain ⟨x, hx, rfl⟩ := hv
  obtain ⟨y', hy', rfl⟩ := hy
  obtain ⟨y2, hy2, hcx⟩ := e2 k x hx
  rw [hy'] at hy2; obtain rfl := Option.some.inj hy2
  exact hc _ _ hcx

theorem op_clo (H : HRel w G h) (hc : Ops a w G c ev) {f : FuncId} {cap : Array Operand} {cap' : List Opd} (hx : optL c cap.toList = some cap') (hop : o.op = .makeFunc (.func f) #[] cap)
    (e : evalA (.clo f cap') ev h = some (r, h')) : OpRes P o a w G h r h' := by
  simp only [evalA, Option.some.injEq, Prod.mk.injEq] at e
  obtain ⟨rfl, rfl⟩ := e
  obtain ⟨e1, e2⟩ := opds_ok hc hx
  refine OpRes.same H (v := .func (.func f) #[] (cap.map a.eval)) (by simp [execOp, hop, Instr.makeFunc]) (.fn _ _ _ (by simpa using e1) (fun k v y hv hy => e2 k v y ?_ hy))
  simpa using hv
end
end Go.Abs
