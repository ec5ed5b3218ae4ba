/-
  One operation of the model does what the abstract machine says: the operations that leave the memory alone, or only read it.
-/
import Derived.Test.YtcammfdljiingaaAbsMem
namespace Go.Abs

/-- The operation's run in the model, and what its result stands for. -/
def OpRes (P : Program) (o : Oper) (a : Act) (w : World) (G : Ghost) (h : Heap) (r : AVal) (h' : Heap) : Prop :=
  ∃ v w' G', ((execOp a.eval o).run P w = .ok (.value v) w' ∨ ((execOp a.eval o).run P w = .ok .skip w' ∧ v = undef)) ∧ Ext w G h w' G' h' ∧ HRel w' G' h' ∧ VRel w' G' v r

section
variable {P : Program} {o : Oper} {a : Act} {w : World} {G : Ghost} {h : Heap}

theorem OpRes.same (H : HRel w G h) {v : Value} {r : AVal} (e : (execOp a.eval o).run P w = .ok (.value v) w) (hv : VRel w G v r) : OpRes P o a w G h r h :=
  ⟨v, w, G, .inl e, Ext.refl _ _ _, H, hv⟩

/-- What is known of the operands. -/
def Ops (a : Act) (w : World) (G : Ghost) (c : Operand → Option Opd) (ev : Opd → AVal) : Prop := ∀ x y, c x = some y → VRel w G (a.eval x) (ev y)

theorem constCell_ok {v : Value} {x : AVal} (e : constCell v = some x) : VRel w G v x ∧ x.one = true := by
  unfold constCell at e
  split at e <;> first
    | (simp at e; done)
    | (obtain rfl := Option.some.inj e; exact ⟨by constructor; first | done | simp, rfl⟩)

theorem constCells_ok : ∀ {vs : List Value} {xs : List AVal}, constCells vs = some xs → vs.length = xs.length ∧ (∀ x ∈ xs, x.one = true) ∧ ∀ (k : Nat) (v : Value) (x : AVal), vs[k]? = some v → xs[k]? = some x → VRel w G v x
  | [], xs, e => by simp [constCells] at e; subst e; simp
  | v :: vs, xs, e => by
    simp only [constCells] at e
    split at e
    · rename_i x xs' h1 h2
      obtain rfl := Option.some.inj e
      obtain ⟨e1, e2, e3⟩ := constCells_ok h2
      have hx := constCell_ok (w := w) (G := G) h1
      refine ⟨by simp [e1], fun y hy => ?_, fun k u y hu hy => ?_⟩
      · rcases List.mem_cons.1 hy with rfl | hy
        · exact hx.2
        · exact e2 y hy
      · cases k with
        | zero => simp at hu hy; subst hu; subst hy; exact hx.1
        | succ k => exact e3 k u y (by simpa using hu) (by simpa using hy)
    · simp at e

theorem constA_ok {v : Value} {x : AVal} (e : constA v = some x) : VRel w G v x := by
  unfold constA at e
  split at e
  · rename_i cs
    simp at e
    obtain ⟨xs, hx, rfl⟩ := e
    obtain ⟨e1, e2, e3⟩ := constCells_ok (w := w) (G := G) hx
    exact .agg cs xs (by simpa using e1) (fun k c a hc ha => e3 k c a (by simpa using hc) ha) e2
  · exact (constCell_ok e).1

/-- The zero value of a type. -/
theorem tZero_ok {t : TypeId} {z : List AVal} (e : tZero P t = some z) : ∃ i v, P.info? t = some i ∧ i.zero = some v ∧ v.cells.size = z.length ∧ (∀ x ∈ z, x.one = true) ∧
    ∀ (w : World) (G : Ghost) (k : Nat) (u : Value) (x : AVal), v.cells[k]? = some u → z[k]? = some x → VRel w G u x := by
  unfold tZero at e
  split at e
  · rename_i i hi
    split at e
    · rename_i v hv
      obtain ⟨e1, e2, _⟩ := constCells_ok (w := default) (G := ⟨0, fun _ => 0, fun _ => 0, fun _ => none⟩) e
      refine ⟨i, v, hi, hv, by simpa using e1, e2, fun w G k u x hu hx => ?_⟩
      exact (constCells_ok (w := w) (G := G) e).2.2 k u x (by simpa using hu) hx
    · simp at e
  · simp at e

variable {c : Operand → Option Opd} {ev : Opd → AVal} {r : AVal} {h' : Heap}

theorem op_pick (H : HRel w G h) (hc : Ops a w G c ev) {x y z : Operand} {x' y' z' : Opd} (hx : c x = some x') (hy : c y = some y') (hz : c z = some z') (hop : o.op = .pick x y z)
    (e : evalA (.pick x' y' z') ev h = some (r, h')) : OpRes P o a w G h r h' := by
  have rx := hc _ _ hx
  simp only [evalA] at e
  split at e
  · rename_i b hb
    rw [hb] at rx
    generalize hv : a.eval x = v at rx
    cases rx
    simp at e
    obtain ⟨rfl, rfl⟩ := e
    refine OpRes.same H (v := if b then a.eval y else a.eval z) ?_ ?_
    · simp [execOp, hop, hv, asBool]
    · cases b
      · simpa using hc _ _ hz
      · simpa using hc _ _ hy
  · simp at e

theorem op_mov (H : HRel w G h) (hc : Ops a w G c ev) {x : Operand} {x' : Opd} (hx : c x = some x') (hop : o.op = .move x ∨ o.op = .assign x)
    (e : evalA (.mov x') ev h = some (r, h')) : OpRes P o a w G h r h' := by
  simp only [evalA, Option.some.injEq, Prod.mk.injEq] at e
  obtain ⟨rfl, rfl⟩ := e
  refine OpRes.same H (v := a.eval x) ?_ (hc _ _ hx)
  rcases hop with hop | hop <;> simp [execOp, hop]

theorem op_load (H : HRel w G h) (hc : Ops a w G c ev) {x : Operand} {x' : Opd} {t : TypeId} {n : Nat} {ag : Bool} (hx : c x = some x') (hs : tSize P t = some n) (ha : tAgg P t = some ag) (hop : o.op = .load t x)
    (e : evalA (.load n ag x') ev h = some (r, h')) : OpRes P o a w G h r h' := by
  have rx := hc _ _ hx
  simp only [evalA, Option.map_eq_some_iff, Prod.mk.injEq] at e
  obtain ⟨r', e, rfl, rfl⟩ := e
  unfold loadA at e
  split at e
  · rename_i id off hb
    rw [hb] at rx
    generalize hv : a.eval x = v at rx
    cases rx with
    | ptr _ _ hid =>
      split at e
      · rename_i mu sz ag' cs hg
        split at e
        · rename_i hn
          obtain ⟨_, h2, h3, _, _⟩ := H.obj id _ hg
          have hC : CellsAt w G (G.loc id) 0 cs := fun k c hk => by simpa using h2 k c hk
          have hC' := hC.drop off
          rw [Nat.zero_add] at hC'
          obtain ⟨v, hr, hv'⟩ := load_cells (P := P) (t := t) hC' (fun c hc' => h3 c (List.mem_of_mem_drop hc')) (by simp; omega) hs ha e
          exact OpRes.same H (by simp [execOp, hop, hv, Instr.loadAt, Instr.sureAddr, hr]) hv'
        · simp at e
      · simp at e
  · rename_i cs hb
    rw [hb] at rx
    generalize hv : a.eval x = v at rx
    cases rx with
    | rp b off _ u h1 h2 h3 h4 =>
      split at e
      · rename_i hn
        have hC : CellsAt w G b off cs := fun k c hk => ⟨u k, h1 k c hk, h2 k c hk⟩
        obtain ⟨v, hr, hv'⟩ := load_cells (P := P) (t := t) hC h4 hn hs ha e
        exact OpRes.same H (by simp [execOp, hop, hv, Instr.loadAt, Instr.sureAddr, hr]) hv'
      · simp at e
  · simp at e

theorem op_nilc (H : HRel w G h) (hc : Ops a w G c ev) {x : Operand} {x' : Opd} (hx : c x = some x') (hop : o.op = .nilCheck x)
    (e : evalA (.nilc x') ev h = some (r, h')) : OpRes P o a w G h r h' := by
  have rx := hc _ _ hx
  simp only [evalA] at e
  split at e
  · rename_i i f hb
    rw [hb] at rx; generalize hv : a.eval x = v at rx
    simp at e; obtain ⟨rfl, rfl⟩ := e
    have rx' := rx
    cases rx
    exact OpRes.same H (by simp [execOp, hop, hv]) rx'
  · rename_i cs hb
    rw [hb] at rx; generalize hv : a.eval x = v at rx
    simp at e; obtain ⟨rfl, rfl⟩ := e
    have rx' := rx
    cases rx
    exact OpRes.same H (by simp [execOp, hop, hv]) rx'
  · rename_i f cs hb
    rw [hb] at rx; generalize hv : a.eval x = v at rx
    simp at e; obtain ⟨rfl, rfl⟩ := e
    have rx' := rx
    cases rx
    exact OpRes.same H (by simp [execOp, hop, hv]) rx'
  · simp at e

theorem op_toInt (H : HRel w G h) (hc : Ops a w G c ev) {x : Operand} {x' : Opd} {s d : TypeId} {k0 k : IntKind} (hx : c x = some x') (hs : P.underlying s = some (.int k0)) (hd : P.underlying d = some (.int k)) (hop : o.op = .convert s d x)
    (e : evalA (.toInt k x') ev h = some (r, h')) : OpRes P o a w G h r h' := by
  have rx := hc _ _ hx
  simp only [evalA] at e
  split at e
  · rename_i k1 n hb
    rw [hb] at rx; generalize hv : a.eval x = v at rx
    simp at e; obtain ⟨rfl, rfl⟩ := e
    cases rx
    exact OpRes.same H (by simp [execOp, hop, hv, convert, run_underlying hs, run_underlying hd, Conv.intToInt]) (.int _ _)
  · simp at e

theorem op_idstr (H : HRel w G h) (hc : Ops a w G c ev) {x : Operand} {x' : Opd} {s d : TypeId} (hx : c x = some x') (hs : P.underlying s = some .string) (hd : P.underlying d = some .string) (hop : o.op = .convert s d x)
    (e : evalA (.idstr x') ev h = some (r, h')) : OpRes P o a w G h r h' := by
  have rx := hc _ _ hx
  simp only [evalA] at e
  split at e
  · rename_i l hl
    simp at e; obtain ⟨rfl, rfl⟩ := e
    have rx' := rx
    rw [hl] at rx rx'
    generalize hv : a.eval x = v at rx rx'
    cases rx
    exact OpRes.same H (by simp [execOp, hop, hv, convert, run_underlying hs, run_underlying hd]) rx'
  · simp at e

theorem op_ext (H : HRel w G h) (hc : Ops a w G c ev) {x : Operand} {x' : Opd} {i : Nat} (hx : c x = some x') (hop : o.op = .extract x i)
    (e : evalA (.ext x' i) ev h = some (r, h')) : OpRes P o a w G h r h' := by
  have rx := hc _ _ hx
  simp only [evalA] at e
  split at e
  · rename_i vs hb
    rw [hb] at rx; generalize hv : a.eval x = v at rx
    simp at e; obtain ⟨_, hi, rfl, rfl⟩ := e
    cases rx with
    | tup cs _ hl hh =>
      obtain ⟨u, hu⟩ : ∃ u, cs[i]? = some u := ⟨_, Array.getElem?_eq_getElem (by rw [hl]; exact (List.getElem?_eq_some_iff.1 hi).1)⟩
      exact OpRes.same H (by simp [execOp, hop, hv, Instr.extract, hu]) (hh i u _ hu hi)
  · simp at e

theorem op_faddr (H : HRel w G h) (hc : Ops a w G c ev) {x : Operand} {x' : Opd} {t : TypeId} {fs : Array Field} {i n : Nat} {f : Field} (hx : c x = some x') (ht : P.underlying t = some (.struct fs)) (hf : fs[i]? = some f)
    (hs : tSize P f.type = some n) (hn : n ≠ 0) (hop : o.op = .fieldAddr t x i) (e : evalA (.faddr f.offset x') ev h = some (r, h')) : OpRes P o a w G h r h' := by
  have rx := hc _ _ hx
  simp only [evalA] at e
  split at e
  · rename_i j off hb
    rw [hb] at rx; generalize hv : a.eval x = v at rx
    simp at e; obtain ⟨rfl, rfl⟩ := e
    cases rx with
    | ptr _ _ hid => exact OpRes.same H (by simp [execOp, hop, hv, Instr.fieldAt, run_underlying ht, hf, Instr.sureAddr, fieldPlace, run_sizeOf' hs, hn, Addr.add_lit]) (.ptr _ _ hid)
  · rename_i cs hb
    rw [hb] at rx; generalize hv : a.eval x = v at rx
    simp at e; obtain ⟨rfl, rfl⟩ := e
    cases rx with
    | rp b off _ u h1 h2 h3 h4 =>
      refine OpRes.same H (by simp [execOp, hop, hv, Instr.fieldAt, run_underlying ht, hf, Instr.sureAddr, fieldPlace, run_sizeOf' hs, hn, Addr.add_lit]) (.rp b (off + f.offset) (cs.drop f.offset) (fun k => u (f.offset + k)) (fun k c hk => ?_) (fun k c hk => ?_) (fun k hk => ?_) (fun c hc' => h4 c (List.mem_of_mem_drop hc')))
      · rw [List.getElem?_drop] at hk; rw [Nat.add_assoc]; exact h1 _ c hk
      · rw [List.getElem?_drop] at hk; exact h2 _ c hk
      · simp at hk; rw [Nat.add_assoc]; exact h3 _ (by omega)
  · simp at e
end
end Go.Abs
