/-
  One operation of the model does what the abstract machine says: arithmetic, comparisons, parts of values.
-/
import Derived.Test.YtcammfdljiingaaAbsOp1
namespace Go.Abs
set_option linter.unusedSimpArgs false
set_option linter.unusedVariables false
section
variable {P : Program} {o : Oper} {a : Act} {w : World} {G : Ghost} {h : Heap} {c : Operand → Option Opd} {ev : Opd → AVal} {r : AVal} {h' : Heap}

theorem bytesLt_eq : ∀ (a b : List UInt8), bytesLt a b = Op.bytesLess a b
  | _, [] => by simp [bytesLt, Op.bytesLess]
  | [], _ :: _ => by simp [bytesLt, Op.bytesLess]
  | a :: x, b :: y => by simp [bytesLt, Op.bytesLess, bytesLt_eq x y]

theorem intBin_ok {op : BinOp} {k : IntKind} {x y : Int} {r : AVal} (t : TypeId) (e : (match op with
      | .shl | .shr => shiftA op k x y
      | _ => intBin op k x y) = some r) : ∃ v, (binOp op t (.int k x) (.int k y)).run P w = .ok v w ∧ VRel w G v r := by
  cases op <;> simp only [shiftA, intBin] at e <;> first
    | (split at e
       · simp at e
       · rename_i hy
         obtain rfl := Option.some.inj e
         refine ⟨_, ?_, VRel.int _ _⟩
         simp [binOp, Op.shift, Op.intDiv, hy])
    | (obtain rfl := Option.some.inj e
       first
         | exact ⟨_, by simp [binOp, Op.intArith, Op.intBits, Op.intCmp], VRel.int _ _⟩
         | exact ⟨_, by simp [binOp, Op.intArith, Op.intBits, Op.intCmp], VRel.bool _⟩)

theorem shift_ok {op : BinOp} {k k' : IntKind} {x y : Int} {r : AVal} (t : TypeId) (ho : op = .shl ∨ op = .shr) (e : shiftA op k x y = some r) : ∃ v, (binOp op t (.int k x) (.int k' y)).run P w = .ok v w ∧ VRel w G v r := by
  rcases ho with rfl | rfl <;> (
    simp only [shiftA] at e
    split at e
    · simp at e
    · rename_i hy
      obtain rfl := Option.some.inj e
      exact ⟨_, by simp [binOp, Op.shift, hy], VRel.int _ _⟩)

theorem strBin_ok {op : BinOp} {x y : ByteArray} {r : AVal} (t : TypeId) (e : strBin op x.data.toList y.data.toList = some r) : ∃ v, (binOp op t (.string x) (.string y)).run P w = .ok v w ∧ VRel w G v r := by
  have hb : ∀ s : ByteArray, s.toList = s.data.toList := ByteArray.toList_eq
  cases op <;> simp only [strBin] at e
  case add =>
    split at e
    · rename_i hl
      obtain rfl := Option.some.inj e
      have hl' : x.size + y.size ≤ 9223372036854775807 := hl
      refine ⟨.string (x ++ y), ?_, ?_⟩
      · have : ¬ (IntKind.i64.max < ((x.size + y.size : Nat) : Int)) := by
          have : IntKind.i64.max = 9223372036854775807 := by decide
          omega
        simp only [binOp, Op.stringOp, gt_iff_lt, if_neg this]; rfl
      · have hv := VRel.str (w := w) (G := G) (x ++ y)
        rwa [show (x ++ y).data.toList = x.data.toList ++ y.data.toList by simp [ByteArray.data_append]] at hv
    · simp at e
  all_goals first
    | (simp at e; done)
    | (obtain rfl := Option.some.inj e
       exact ⟨_, by simp only [binOp, Op.stringOp, hb, bytesLt_eq]; rfl, VRel.bool _⟩)

theorem op_un (H : HRel w G h) (hc : Ops a w G c ev) {op : UnOp} {t : TypeId} {x : Operand} {x' : Opd} (hx : c x = some x') (hop : o.op = .unOp op t x)
    (e : evalA (.un op x') ev h = some (r, h')) : OpRes P o a w G h r h' := by
  have rx := hc _ _ hx
  simp only [evalA, Option.map_eq_some_iff, Prod.mk.injEq] at e
  obtain ⟨r', e, rfl, rfl⟩ := e
  unfold unA at e
  split at e <;> first
    | (simp at e; done)
    | (rename_i hb
       rw [hb] at rx; generalize hv : a.eval x = v at rx
       obtain rfl := Option.some.inj e
       cases rx
       first
         | exact OpRes.same H (by simp [execOp, hop, hv, Op.unary, Op.intArith, Op.intBits]) (VRel.int _ _)
         | exact OpRes.same H (by simp [execOp, hop, hv, Op.unary, Op.intArith, Op.intBits]) (VRel.bool _))

theorem op_mnx (H : HRel w G h) (hc : Ops a w G c ev) {mx : Bool} {x y : Operand} {x' y' : Opd} {ts : Array TypeId} (hx : c x = some x') (hy : c y = some y') (hop : o.op = .call { callee := .builtin (if mx then .max else .min), args := #[x, y], argTypes := ts })
    (e : evalA (.mnx mx x' y') ev h = some (r, h')) : OpRes P o a w G h r h' := by
  have rx := hc _ _ hx
  have ry := hc _ _ hy
  simp only [evalA] at e
  split at e
  · rename_i k n k' m hb hb'
    rw [hb] at rx; generalize hv : a.eval x = v at rx
    rw [hb'] at ry; generalize hv' : a.eval y = v' at ry
    simp at e; obtain ⟨rfl, rfl⟩ := e
    cases rx
    cases ry
    cases mx
    · exact OpRes.same H (by simp [execOp, hop, hv, hv', resolve, invoke, builtin, run_min_int2]) (.int _ _)
    · exact OpRes.same H (by simp [execOp, hop, hv, hv', resolve, invoke, builtin, run_max_int2]) (.int _ _)
  · simp at e

theorem op_len (H : HRel w G h) (hc : Ops a w G c ev) {x : Operand} {x' : Opd} {t el : TypeId} (hx : c x = some x') (ht : P.underlying t = some (.slice el))
    (hop : o.op = .call { callee := .builtin .len, args := #[x], argTypes := #[t] })
    (e : evalA (.len x') ev h = some (r, h')) : OpRes P o a w G h r h' := by
  have rx := hc _ _ hx
  simp only [evalA] at e
  split at e
  · rename_i xs tk hb
    rw [hb] at rx; generalize hv : a.eval x = v at rx
    simp at e; obtain ⟨rfl, rfl⟩ := e
    cases rx <;> exact OpRes.same H (by simp [execOp, hop, hv, resolve, invoke, builtin, Builtin.len_, run_underlying ht, goInt]; try rfl) (.int _ _)
  · rename_i id off n sz hb
    rw [hb] at rx; generalize hv : a.eval x = v at rx
    simp at e; obtain ⟨rfl, rfl⟩ := e
    cases rx <;> exact OpRes.same H (by simp [execOp, hop, hv, resolve, invoke, builtin, Builtin.len_, run_underlying ht, goInt]; try rfl) (.int _ _)
  · simp at e

theorem op_slen (H : HRel w G h) (hc : Ops a w G c ev) {x : Operand} {x' : Opd} {t : TypeId} (hx : c x = some x') (ht : P.underlying t = some .string)
    (hop : o.op = .call { callee := .builtin .len, args := #[x], argTypes := #[t] })
    (e : evalA (.slen x') ev h = some (r, h')) : OpRes P o a w G h r h' := by
  have rx := hc _ _ hx
  simp only [evalA] at e
  split at e
  · rename_i s hb
    rw [hb] at rx; generalize hv : a.eval x = v at rx
    simp at e; obtain ⟨rfl, rfl⟩ := e
    cases rx; exact OpRes.same H (by simp [execOp, hop, hv, resolve, invoke, builtin, Builtin.len_, run_underlying ht, goInt]; try rfl) (.int _ _)
  · simp at e

/-! ### comparisons -/

theorem run_part {t : TypeId} {xs : Array Value} {off : Nat} {v : Value} (ha : tAgg P t = some false) (hv : xs[off]? = some v) (w : World) : (part t xs off).run P w = .ok v w := by
  simp [part, run_isAgg' ha, hv]

theorem bytes_beq (a b : ByteArray) : (a.data.toList == b.data.toList) = (a == b) := by
  rw [beq_toListBytes, ByteArray.toList_eq, ByteArray.toList_eq]

theorem cellEq_ok {t : TypeId} {x y : AVal} {u v : Value} {k : CK} {q : Bool} (hk : match k with
      | .int => ∃ kk, P.underlying t = some (.int kk)
      | .bool => P.underlying t = some .bool
      | .str => P.underlying t = some .string) (hu : VRel w G u x) (hv : VRel w G v y) (e : cellEq k x y = some q) (d : Nat) : (Op.equalIn (d + 1) t u v).run P w = .ok q w := by
  unfold cellEq at e
  split at e
  · obtain rfl := Option.some.inj e
    cases hu; cases hv
    exact run_equalIn_bool' w d _ _ _ hk
  · obtain ⟨kk, hk⟩ := hk
    split at e
    · rename_i hkk
      obtain rfl := Option.some.inj e
      subst hkk
      cases hu; cases hv
      exact run_equalIn_int w d t _ _ _ _ hk
    · simp at e
  · obtain rfl := Option.some.inj e
    cases hu; cases hv
    rw [run_equalIn_string w d _ _ _ hk, ByteArray.toList_eq, ByteArray.toList_eq]
  · simp at e

theorem eqFields_ok : ∀ {fs : List Field} {i : Nat} {ks : List CK} {as bs : List AVal} {xs ys : Array Value} {b : Bool}, fieldKs P fs i = some ks → cellsEq ks as bs = some b →
    (∀ (k : Nat) (x : AVal), as[k]? = some x → ∃ v, xs[i + k]? = some v ∧ VRel w G v x) → (∀ (k : Nat) (x : AVal), bs[k]? = some x → ∃ v, ys[i + k]? = some v ∧ VRel w G v x) →
    (Op.eqFields 9999 xs ys fs).run P w = .ok b w
  | [], i, ks, as, bs, xs, ys, b, hf, h3, _, _ => by
    simp [fieldKs] at hf; subst hf
    unfold cellsEq at h3
    split at h3
    · simp at h3; subst h3; simp [Op.eqFields]
    · simp_all
    · simp at h3
  | f :: fs, i, ks, as, bs, xs, ys, b, hf, h3, hx, hy => by
    simp only [fieldKs] at hf
    split at hf
    · rename_i hn
      obtain ⟨n1, n2⟩ := hn
      have key : ∃ k ks', ks = k :: ks' ∧ fieldKs P fs (i + 1) = some ks' ∧ tAgg P f.type = some false ∧ (match k with
          | .int => ∃ kk, P.underlying f.type = some (.int kk)
          | .bool => P.underlying f.type = some .bool
          | .str => P.underlying f.type = some .string) := by
        split at hf
        · rename_i h1 h2; obtain rfl := Option.some.inj hf; exact ⟨_, _, rfl, h2, by simp [tAgg, h1, isAggD], _, h1⟩
        · rename_i h1 h2; obtain rfl := Option.some.inj hf; exact ⟨_, _, rfl, h2, by simp [tAgg, h1, isAggD], h1⟩
        · rename_i h1 h2; obtain rfl := Option.some.inj hf; exact ⟨_, _, rfl, h2, by simp [tAgg, h1, isAggD], h1⟩
        · simp at hf
      obtain ⟨k, ks', rfl, hks, hag, hkind⟩ := key
      match as, bs with
      | [], _ => simp [cellsEq] at h3
      | _ :: _, [] => simp [cellsEq] at h3
      | x :: as, y :: bs =>
        obtain ⟨u, hu1, hu2⟩ := hx 0 x rfl
        obtain ⟨v, hv1, hv2⟩ := hy 0 y rfl
        have ih : ∀ {b}, cellsEq ks' as bs = some b → (Op.eqFields 9999 xs ys fs).run P w = .ok b w := fun hb =>
          eqFields_ok (i := i + 1) hks hb
            (fun k z hz => by have := hx (k + 1) z (by simpa using hz); rwa [show i + (k + 1) = i + 1 + k by omega] at this)
            (fun k z hz => by have := hy (k + 1) z (by simpa using hz); rwa [show i + (k + 1) = i + 1 + k by omega] at this)
        have hoff : f.offset = i + 0 := n2
        simp only [Op.eqFields, Sem.run_bind, Sem.run_ite, n1, ne_eq, not_false_eq_true, if_true, hoff, run_part hag hu1, run_part hag hv1, Result.andThen_ok]
        simp only [cellsEq] at h3
        split at h3
        · rename_i hq; rw [cellEq_ok hkind hu2 hv2 hq 9998]; simpa using ih h3
        · rename_i hq; rw [cellEq_ok hkind hu2 hv2 hq 9998]; simp at h3; subst h3; simp
        · simp at h3
    · simp at hf

theorem fieldsOf_struct {t : TypeId} {fs : Array Field} (ht : P.underlying t = some (.struct fs)) : P.underlying t = some (.struct (P.fieldsOf t)) ∧ P.fieldsOf t = fs := by
  have : P.fieldsOf t = fs := by simp [Program.fieldsOf, ht]
  exact ⟨by rw [this]; exact ht, this⟩

/-- '==' and '!=' by 'Op.equal'. -/
theorem run_cmp {op : BinOp} {t : TypeId} {u v : Value} {q : Bool} {r : AVal} (hne : ∀ (q : Bool), (binOp .eql t u v).run P w = ((Op.equalIn 10000 t u v).run P w).andThen (fun b w' => .ok (.bool b) w') ∧
      (binOp .neq t u v).run P w = ((Op.equalIn 10000 t u v).run P w).andThen (fun b w' => .ok (.bool (!b)) w'))
    (he : (Op.equalIn 10000 t u v).run P w = .ok q w) (e : cmpA op (some q) = some r) : (op = .eql ∨ op = .neq) ∧ ∃ b, r = .bool b ∧ (binOp op t u v).run P w = .ok (.bool b) w := by
  cases op <;> simp [cmpA] at e
  · subst e; exact ⟨.inl rfl, q, rfl, by rw [(hne q).1, he]; rfl⟩
  · subst e; exact ⟨.inr rfl, !q, rfl, by rw [(hne q).2, he]; rfl⟩

theorem eqGuard_arith (op : BinOp) (t : TypeId) (x y : Operand) (u v : Value) (h1 : u.oneCell' = true) (h2 : u ≠ .nilIface) : (eqGuard op t x y u v).run P w = .ok () w := by
  cases u <;> first
    | (simp [Value.oneCell'] at h1; done)
    | exact absurd rfl h2
    | (cases op <;> simp [eqGuard])

def plainV : Value → Bool
  | .pointer _ | .slice _ _ _ | .func _ _ _ | .nilFunc | .bool _ => true
  | _ => false

theorem nil_fin {op : BinOp} {t : TypeId} {x y : Operand} {u v : Value} {q : Bool} {r' : AVal} (hp : plainV u = true) (he : (Op.equalIn 10000 t u v).run P w = .ok q w) (e : cmpA op (some q) = some r') :
    ∃ z, (eqGuard op t x y u v).run P w = .ok () w ∧ (binOp op t u v).run P w = .ok z w ∧ VRel w G z r' := by
  obtain ⟨_, b, rfl, h2⟩ := run_cmp (P := P) (w := w) (t := t) (u := u) (v := v) (fun _ => by
    cases u <;> first
      | (simp [plainV] at hp; done)
      | exact ⟨by simp [binOp, Op.equal, Op.maxDepth], by simp [binOp, Op.equal, Op.maxDepth]⟩) he e
  refine ⟨_, eqGuard_arith op t x y u v ?_ ?_, h2, .bool b⟩
  · cases u <;> first
      | rfl
      | (simp [plainV] at hp; done)
  · intro hn; subst hn; simp [plainV] at hp

theorem eqIn_ptr {t el : TypeId} (hbk : P.underlying t = some (.pointer el)) (d : Nat) {u v : Option Addr} (h : u = none ∨ v = none) : (Op.equalIn (d + 1) t (.pointer u) (.pointer v)).run P w = .ok (u.isNone && v.isNone) w := by
  cases u <;> cases v <;> simp [Op.equalIn, run_underlying hbk] at * 

theorem eqIn_sl {t el : TypeId} (hbk : P.underlying t = some (.slice el)) (d : Nat) (u : Option Addr) (l k : Nat) : (Op.equalIn (d + 1) t (.slice u l k) (.slice none 0 0)).run P w = .ok u.isNone w := by
  cases u <;> simp [Op.equalIn, run_underlying hbk]

theorem eqIn_fn {t : TypeId} {a b : Array TypeId} {vr : Bool} (hbk : P.underlying t = some (.func a b vr)) (d : Nat) : (Op.equalIn (d + 1) t .nilFunc .nilFunc).run P w = .ok true w ∧
    (∀ f x y, (Op.equalIn (d + 1) t .nilFunc (.func f x y)).run P w = .ok false w) ∧ (∀ f x y, (Op.equalIn (d + 1) t (.func f x y) .nilFunc).run P w = .ok false w) := by
  refine ⟨?_, fun f x y => ?_, fun f x y => ?_⟩ <;> simp [Op.equalIn, run_underlying hbk]

theorem op_bin (H : HRel w G h) (hc : Ops a w G c ev) {op : BinOp} {t yt : TypeId} {x y : Operand} {x' y' : Opd} {bk : BK} (hx : c x = some x') (hy : c y = some y')
    (hbk : match bk with
      | .arith => True
      | .bool => P.underlying t = some .bool
      | .struct ks => structKs P t = some ks
      | .ptr => ∃ e, P.underlying t = some (.pointer e)
      | .sl => ∃ e, P.underlying t = some (.slice e)
      | .fn => ∃ a b v, P.underlying t = some (.func a b v)) (hop : o.op = .binOp op t x y yt)
    (e : evalA (.bin op bk x' y') ev h = some (r, h')) : OpRes P o a w G h r h' := by
  have rx := hc _ _ hx
  have ry := hc _ _ hy
  simp only [evalA, Option.map_eq_some_iff, Prod.mk.injEq] at e
  obtain ⟨r', e, rfl, rfl⟩ := e
  generalize hv : a.eval x = u at rx
  generalize hv' : a.eval y = v at ry
  suffices hs : ∃ z, (eqGuard op t x y u v).run P w = .ok () w ∧ (binOp op t u v).run P w = .ok z w ∧ VRel w G z r' by
    obtain ⟨z, h1, h2, h3⟩ := hs
    exact OpRes.same H (by simp [execOp, hop, hv, hv', h1, h2]) h3
  unfold binA at e
  split at e
  · rename_i k n k' m hb hb'
    rw [hb] at rx; rw [hb'] at ry
    cases rx; cases ry
    split at e
    · rename_i ho
      obtain ⟨z, h1, h2⟩ := shift_ok (P := P) (w := w) (G := G) (k' := k') t ho e
      exact ⟨z, eqGuard_arith _ _ _ _ _ _ rfl (by simp), h1, h2⟩
    · rename_i ho
      split at e
      · rename_i hk
        subst hk
        obtain ⟨z, h1, h2⟩ := intBin_ok (P := P) (w := w) (G := G) (op := op) (k := k) (x := n) (y := m) (r := r') t (by
          cases op <;> first
            | exact e
            | simp at ho)
        exact ⟨z, eqGuard_arith _ _ _ _ _ _ rfl (by simp), h1, h2⟩
      · simp at e
  · rename_i l m hb hb'
    rw [hb] at rx; rw [hb'] at ry
    cases rx; cases ry
    obtain ⟨z, h1, h2⟩ := strBin_ok (P := P) (w := w) (G := G) t e
    exact ⟨z, eqGuard_arith _ _ _ _ _ _ rfl (by simp), h1, h2⟩
  · rename_i l m hb hb'
    rw [hb] at rx; rw [hb'] at ry
    cases rx; cases ry
    exact nil_fin rfl (run_equalIn_bool' w 9999 t l m hbk) e
  · rename_i ks xs ys hb hb'
    rw [hb] at rx; rw [hb'] at ry
    cases hq : cellsEq ks xs ys with
    | none => rw [hq] at e; cases op <;> simp [cmpA] at e
    | some q =>
      rw [hq] at e
      simp only [structKs] at hbk
      split at hbk
      · rename_i fs hfs
        split at hbk
        · rename_i hh
          obtain ⟨e1, e2⟩ := fieldsOf_struct hfs
          cases rx with
          | agg as _ hl hr h4 =>
            cases ry with
            | agg bs _ hl' hr' h4' =>
              have hE := eqFields_ok (P := P) (w := w) (G := G) (xs := as) (ys := bs) hbk hq (fun k z hz => by
                  obtain ⟨u, hu⟩ : ∃ u, as[k]? = some u := ⟨_, Array.getElem?_eq_getElem (by rw [hl]; exact (List.getElem?_eq_some_iff.1 hz).1)⟩
                  exact ⟨u, by simpa using hu, hr k u z hu hz⟩) (fun k z hz => by
                  obtain ⟨u, hu⟩ : ∃ u, bs[k]? = some u := ⟨_, Array.getElem?_eq_getElem (by rw [hl']; exact (List.getElem?_eq_some_iff.1 hz).1)⟩
                  exact ⟨u, by simpa using hu, hr' k u z hu hz⟩)
              have hE' : (Op.equalIn 10000 t (.agg as) (.agg bs)).run P w = .ok q w := by
                rw [run_equalIn_struct w 9999 t as bs e1 hh.1, e2]; exact hE
              obtain ⟨ho, b, rfl, h2⟩ := run_cmp (P := P) (w := w) (t := t) (u := .agg as) (v := .agg bs) (fun _ => ⟨run_eql_struct w t as bs, run_neq_struct w t as bs⟩) hE' e
              exact ⟨_, run_eqGuard_agg w op t x y as bs hh.2, h2, .bool b⟩
        · simp at hbk
      · simp at hbk
  · obtain ⟨el, hbk⟩ := hbk
    unfold ptrEq at e
    split at e <;> first
      | (rename_i hb hb'
         rw [hb] at rx; rw [hb'] at ry
         cases rx <;> cases ry <;> exact nil_fin rfl (eqIn_ptr hbk 9999 (by simp)) e)
      | (cases op <;> simp [cmpA] at e; done)
  · obtain ⟨el, hbk⟩ := hbk
    unfold slEq at e
    split at e <;> first
      | (rename_i hb hb'
         rw [hb] at rx; rw [hb'] at ry
         cases rx <;> cases ry <;> first
           | exact nil_fin rfl (eqIn_sl hbk 9999 _ _ _) e
           | (simp at *; done))
      | (cases op <;> simp [cmpA] at e; done)
  · obtain ⟨el, el2, el3, hbk⟩ := hbk
    unfold fnEq at e
    split at e <;> first
      | (rename_i hb hb'
         rw [hb] at rx; rw [hb'] at ry
         cases rx <;> cases ry <;> first
           | exact nil_fin rfl (eqIn_fn hbk 9999).1 e
           | exact nil_fin rfl ((eqIn_fn hbk 9999).2.1 _ _ _) e
           | exact nil_fin rfl ((eqIn_fn hbk 9999).2.2 _ _ _) e)
      | (cases op <;> simp [cmpA] at e; done)
  · simp at e
end
end Go.Abs
