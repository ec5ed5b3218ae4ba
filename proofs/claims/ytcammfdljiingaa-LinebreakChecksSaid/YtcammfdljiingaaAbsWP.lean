/-
  Rules by which the abstract machine's code is walked with values that are not known: fuel is hidden.
-/
import Derived.Test.YtcammfdljiingaaAbsCore
set_option linter.unusedSimpArgs false
set_option linter.unusedVariables false
namespace Go.Abs

variable {F : Nat → Option AEnt}

/-! ### more fuel changes nothing -/

def cfOf (F : Nat → Option AEnt) (n : Nat) : CallF := fun f args h => (run F n (.call f args h)).bind Res.asVal

def Le (a b : CallF) : Prop := ∀ f args h r, a f args h = some r → b f args h = some r

theorem execA_mono {a b : CallF} (hle : Le a b) {op : AOp} {ev : Opd → AVal} {h : Heap} {r : AVal × Heap} (e : execA a op ev h = some r) : execA b op ev h = some r := by
  cases op with
  | call f args =>
    simp only [execA] at e ⊢
    split at e
    · exact hle _ _ _ _ e
    · simp at e
  | pcall f args =>
    simp only [execA] at e ⊢
    split at e
    · split at e
      · rename_i hc
        rw [hle _ _ _ _ hc]
        exact e
      · simp at e
    · split at e
      · split at e
        · rename_i hc
          rw [hle _ _ _ _ hc]
          exact e
        · simp at e
      · simp at e
  | _ => exact e

theorem stepA_mono {a b : CallF} (hle : Le a b) {o : AOper} {k : Nat} {s s' : St} (e : stepA a o k s = some s') : stepA b o k s = some s' := by
  simp only [stepA] at e ⊢
  split at e
  · simp at e
  · exact e
  · split at e
    · rename_i hx
      rw [execA_mono hle hx]
      exact e
    · simp at e

theorem foldA_mono {a b : CallF} (hle : Le a b) : ∀ {l : List AOper} {k : Nat} {s s' : St}, foldA a l k s = some s' → foldA b l k s = some s'
  | [], _, _, _, e => e
  | o :: l, k, s, s', e => by
    simp only [foldA] at e ⊢
    split at e
    · rename_i hs
      rw [stepA_mono hle hs]
      exact foldA_mono hle e
    · simp at e

theorem cfOf_le {n m : Nat} (ih : ∀ t r, run F n t = some r → run F m t = some r) : Le (cfOf F n) (cfOf F m) := by
  intro f args h r e
  simp only [cfOf, Option.bind_eq_some_iff] at e ⊢
  obtain ⟨x, h1, h2⟩ := e
  exact ⟨x, ih _ _ h1, h2⟩

theorem run_call (n : Nat) (f : Nat) (args : List AVal) (h : Heap) : run F (n + 1) (.call f args h) = match F f with
    | none => none
    | some (.hand s) => (s args h).map fun p => .val p.1 p.2
    | some (.comp fn) =>
      match run F n (.code fn.body (fn.slots.map fun s => (args[s]?).getD (.tup [])) h) with
      | some (.code .normal vs h') => some (.val (resultsA fn.results vs) h')
      | some (.code .ret vs h') => some (.val (resultsA fn.results vs) h')
      | _ => none := rfl

theorem run_ops (n : Nat) (l : List AOper) (vs : List AVal) (h : Heap) : run F (n + 1) (.code (.ops l) vs h) = match foldA (cfOf F n) l 0 ⟨vs, List.replicate l.length .bad, h⟩ with
    | some s => some (.code .normal s.vs s.h)
    | none => none := rfl

theorem run_seq (n : Nat) (a b : ACode) (vs : List AVal) (h : Heap) : run F (n + 1) (.code (.seq a b) vs h) = match run F n (.code a vs h) with
    | some (.code .normal vs h) => run F n (.code b vs h)
    | r => r := rfl

theorem run_cond (n : Nat) (x : Opd) (a b : ACode) (vs : List AVal) (h : Heap) : run F (n + 1) (.code (.cond x a b) vs h) = match evOpd vs [] x with
    | .bool true => run F n (.code a vs h)
    | .bool false => run F n (.code b vs h)
    | _ => none := rfl

theorem run_block (n id : Nat) (c : ACode) (vs : List AVal) (h : Heap) : run F (n + 1) (.code (.block id c) vs h) = match run F n (.code c vs h) with
    | some (.code (.exit i) vs h) => if i = id then some (.code .normal vs h) else some (.code (.exit i) vs h)
    | r => r := rfl

theorem run_loop (n : Nat) (c : ACode) (vs : List AVal) (h : Heap) : run F (n + 1) (.code (.loop c) vs h) = match run F n (.code c vs h) with
    | some (.code .normal vs h) => run F n (.code (.loop c) vs h)
    | r => r := rfl

theorem run_succ : ∀ (n : Nat) (t : Task) (r : Res), run F n t = some r → run F (n + 1) t = some r := by
  intro n
  induction n with
  | zero => intro t r e; cases e
  | succ n ih =>
    intro t r e
    cases t with
    | call f args h =>
      rw [run_call] at e ⊢
      split at e
      · cases e
      · rename_i s hs; exact e
      · rename_i fn hf
        cases hx : run F n (.code fn.body (fn.slots.map fun s => (args[s]?).getD (.tup [])) h) with
        | none => rw [hx] at e; cases e
        | some x => rw [hx] at e; rw [ih _ _ hx]; exact e
    | code c vs h =>
      cases c with
      | skip => exact e
      | exit id => exact e
      | ret => exact e
      | refuse => cases e
      | ops l =>
        rw [run_ops] at e ⊢
        cases hx : foldA (cfOf F n) l 0 ⟨vs, List.replicate l.length .bad, h⟩ with
        | none => rw [hx] at e; cases e
        | some x =>
          rw [hx] at e
          rw [foldA_mono (cfOf_le ih) hx]
          exact e
      | seq a b =>
        rw [run_seq] at e ⊢
        cases hx : run F n (.code a vs h) with
        | none => rw [hx] at e; cases e
        | some x =>
          rw [hx] at e
          rw [ih _ _ hx]
          revert e
          split
          · intro e; exact ih _ _ e
          · intro e; exact e
      | cond x a b =>
        rw [run_cond] at e ⊢
        revert e
        split
        · intro e; exact ih _ _ e
        · intro e; exact ih _ _ e
        · intro e; exact e
      | block id c =>
        rw [run_block] at e ⊢
        cases hx : run F n (.code c vs h) with
        | none => rw [hx] at e; cases e
        | some x => rw [hx] at e; rw [ih _ _ hx]; exact e
      | loop c =>
        rw [run_loop] at e ⊢
        cases hx : run F n (.code c vs h) with
        | none => rw [hx] at e; cases e
        | some x =>
          rw [hx] at e
          rw [ih _ _ hx]
          revert e
          split
          · intro e; exact ih _ _ e
          · intro e; exact e

theorem run_mono {n m : Nat} (hle : n ≤ m) {t : Task} {r : Res} (e : run F n t = some r) : run F m t = some r := by
  induction hle with
  | refl => exact e
  | step _ ih => exact run_succ _ _ _ ih

/-! ### the rules -/

/-- A call ends. -/
def Gives (F : Nat → Option AEnt) (g : Nat) (args : List AVal) (h : Heap) (r : AVal) (h' : Heap) : Prop := ∃ n, run F n (.call g args h) = some (.val r h')

/-- A piece of code ends, and what it leaves meets Q. -/
def WP (F : Nat → Option AEnt) (c : ACode) (vs : List AVal) (h : Heap) (Q : AExit → List AVal → Heap → Prop) : Prop :=
  ∃ n e vs' h', run F n (.code c vs h) = some (.code e vs' h') ∧ Q e vs' h'

/-- A region ends. -/
def OW (F : Nat → Option AEnt) (l : List AOper) (k : Nat) (vs ts : List AVal) (h : Heap) (K : List AVal → Heap → Prop) : Prop :=
  ts.length = k → ∃ n s', foldA (cfOf F n) l k ⟨vs, ts ++ List.replicate l.length .bad, h⟩ = some s' ∧ K s'.vs s'.h

/-- An operation ends. -/
def XW (F : Nat → Option AEnt) (op : AOp) (ev : Opd → AVal) (h : Heap) (K : AVal → Heap → Prop) : Prop :=
  ∃ n r h', execA (cfOf F n) op ev h = some (r, h') ∧ K r h'

theorem WP.mono {c : ACode} {vs : List AVal} {h : Heap} {Q R : AExit → List AVal → Heap → Prop} (w : WP F c vs h Q) (hi : ∀ e vs h, Q e vs h → R e vs h) : WP F c vs h R := by
  obtain ⟨n, e, vs', h', h1, h2⟩ := w
  exact ⟨n, e, vs', h', h1, hi _ _ _ h2⟩

theorem w_skip {vs : List AVal} {h : Heap} {Q : AExit → List AVal → Heap → Prop} (q : Q .normal vs h) : WP F .skip vs h Q := ⟨1, _, _, _, rfl, q⟩
theorem w_ret {vs : List AVal} {h : Heap} {Q : AExit → List AVal → Heap → Prop} (q : Q .ret vs h) : WP F .ret vs h Q := ⟨1, _, _, _, rfl, q⟩
theorem w_exit {id : Nat} {vs : List AVal} {h : Heap} {Q : AExit → List AVal → Heap → Prop} (q : Q (.exit id) vs h) : WP F (.exit id) vs h Q := ⟨1, _, _, _, rfl, q⟩

/-- What goes on behind the first part. -/
def sq (F : Nat → Option AEnt) (b : ACode) (Q : AExit → List AVal → Heap → Prop) : AExit → List AVal → Heap → Prop
  | .normal, vs, h => WP F b vs h Q
  | e, vs, h => Q e vs h

theorem w_seq {a b : ACode} {vs : List AVal} {h : Heap} {Q : AExit → List AVal → Heap → Prop} (w : WP F a vs h (sq F b Q)) : WP F (.seq a b) vs h Q := by
  obtain ⟨n, e, vs1, h1, hr, hq⟩ := w
  cases e with
  | normal =>
    obtain ⟨m, e2, vs2, h2, hr2, hq2⟩ := hq
    refine ⟨max n m + 1, e2, vs2, h2, ?_, hq2⟩
    rw [run_seq, run_mono (Nat.le_max_left n m) hr]
    exact run_mono (Nat.le_max_right n m) hr2
  | exit id => exact ⟨n + 1, _, _, _, by rw [run_seq, hr], hq⟩
  | ret => exact ⟨n + 1, _, _, _, by rw [run_seq, hr], hq⟩

theorem w_cond {x : Opd} {a b : ACode} {vs : List AVal} {h : Heap} {Q : AExit → List AVal → Heap → Prop} (t : Bool) (hx : evOpd vs [] x = .bool t) (w1 : t = true → WP F a vs h Q) (w2 : t = false → WP F b vs h Q) : WP F (.cond x a b) vs h Q := by
  cases t with
  | true =>
    obtain ⟨n, e, vs', h', hr, hq⟩ := w1 rfl
    exact ⟨n + 1, e, vs', h', by rw [run_cond, hx]; exact hr, hq⟩
  | false =>
    obtain ⟨n, e, vs', h', hr, hq⟩ := w2 rfl
    exact ⟨n + 1, e, vs', h', by rw [run_cond, hx]; exact hr, hq⟩

/-- Behind a block. -/
def bk (id : Nat) (Q : AExit → List AVal → Heap → Prop) : AExit → List AVal → Heap → Prop
  | .exit i, vs, h => if i = id then Q .normal vs h else Q (.exit i) vs h
  | e, vs, h => Q e vs h

theorem w_block {id : Nat} {c : ACode} {vs : List AVal} {h : Heap} {Q : AExit → List AVal → Heap → Prop} (w : WP F c vs h (bk id Q)) : WP F (.block id c) vs h Q := by
  obtain ⟨n, e, vs1, h1, hr, hq⟩ := w
  cases e with
  | normal => exact ⟨n + 1, _, _, _, by rw [run_block, hr], hq⟩
  | ret => exact ⟨n + 1, _, _, _, by rw [run_block, hr], hq⟩
  | exit i =>
    simp only [bk] at hq
    by_cases hi : i = id
    · rw [if_pos hi] at hq
      exact ⟨n + 1, _, _, _, by rw [run_block, hr]; simp only [hi, if_true], hq⟩
    · rw [if_neg hi] at hq
      exact ⟨n + 1, _, _, _, by rw [run_block, hr]; simp only [hi, if_false], hq⟩

/-- One round of a loop, and what follows. -/
def lp (J : List AVal → Heap → Prop) (Q : AExit → List AVal → Heap → Prop) : AExit → List AVal → Heap → Prop
  | .normal, vs, h => J vs h
  | e, vs, h => Q e vs h

theorem w_loop_once {c : ACode} {vs : List AVal} {h : Heap} {Q : AExit → List AVal → Heap → Prop} (w : WP F c vs h (lp (fun vs h => WP F (.loop c) vs h Q) Q)) : WP F (.loop c) vs h Q := by
  obtain ⟨n, e, vs1, h1, hr, hq⟩ := w
  cases e with
  | normal =>
    obtain ⟨m, e2, vs2, h2, hr2, hq2⟩ := hq
    refine ⟨max n m + 1, e2, vs2, h2, ?_, hq2⟩
    rw [run_loop, run_mono (Nat.le_max_left n m) hr]
    exact run_mono (Nat.le_max_right n m) hr2
  | exit id => exact ⟨n + 1, _, _, _, by rw [run_loop, hr], hq⟩
  | ret => exact ⟨n + 1, _, _, _, by rw [run_loop, hr], hq⟩

/-- A loop by a measure. -/
theorem w_loop {c : ACode} {vs : List AVal} {h : Heap} {Q : AExit → List AVal → Heap → Prop} (J : Nat → List AVal → Heap → Prop) (m : Nat) (h0 : J m vs h)
    (round : ∀ m vs h, J m vs h → WP F c vs h (lp (fun vs h => ∃ m', m' < m ∧ J m' vs h) Q)) : WP F (.loop c) vs h Q := by
  induction m using Nat.strongRecOn generalizing vs h with
  | _ m ih =>
    refine w_loop_once ((round m vs h h0).mono fun e vs1 h1 hq => ?_)
    cases e with
    | normal => obtain ⟨m', hlt, hJ⟩ := hq; exact ih m' hlt hJ
    | exit id => exact hq
    | ret => exact hq

theorem w_ops {l : List AOper} {vs : List AVal} {h : Heap} {Q : AExit → List AVal → Heap → Prop} (w : OW F l 0 vs [] h (Q .normal)) : WP F (.ops l) vs h Q := by
  obtain ⟨n, s', hr, hq⟩ := w rfl
  rw [List.nil_append] at hr
  refine ⟨n + 1, .normal, s'.vs, s'.h, ?_, hq⟩
  rw [run_ops, hr]

theorem evOpd_pad (vs ts : List AVal) (n : Nat) : evOpd vs (ts ++ List.replicate n .bad) = evOpd vs ts := by
  funext x
  cases x with
  | v i => rfl
  | c x => rfl
  | t k =>
    simp only [evOpd]
    by_cases hk : k < ts.length
    · rw [List.getElem?_append_left hk]
    · rw [List.getElem?_append_right (by omega), List.getElem?_replicate, List.getElem?_eq_none (by omega)]
      split <;> rfl

theorem pad_set (ts : List AVal) (n k : Nat) (r : AVal) (h : ts.length = k) : (ts ++ List.replicate (n + 1) AVal.bad).set k r = (ts ++ [r]) ++ List.replicate n .bad := by
  subst h
  rw [List.set_append_right _ _ (Nat.le_refl _), Nat.sub_self, List.replicate_succ]
  simp

theorem pad_keep (ts : List AVal) (n : Nat) : ts ++ List.replicate (n + 1) AVal.bad = (ts ++ [.bad]) ++ List.replicate n .bad := by
  rw [List.replicate_succ]; simp

theorem o_nil {k : Nat} {vs ts : List AVal} {h : Heap} {K : List AVal → Heap → Prop} (q : K vs h) : OW F [] k vs ts h K := fun _ => ⟨0, _, rfl, q⟩

theorem o_tmp {op : AOp} {l : List AOper} {k : Nat} {vs ts : List AVal} {h : Heap} {K : List AVal → Heap → Prop} (w : XW F op (evOpd vs ts) h (fun r h' => OW F l (k + 1) vs (ts ++ [r]) h' K)) : OW F (⟨.tmp, op, none⟩ :: l) k vs ts h K := by
  intro hl
  obtain ⟨n, r, h1, hx, w1⟩ := w
  obtain ⟨m, s', hf, hq⟩ := w1 (by simp [hl])
  refine ⟨max n m, s', ?_, hq⟩
  simp only [foldA, stepA, wantA, evOpd_pad]
  rw [execA_mono (cfOf_le fun _ _ e => run_mono (Nat.le_max_left n m) e) hx]
  simp only [St.put, List.length_cons]
  rw [pad_set _ _ _ _ hl]
  exact foldA_mono (cfOf_le fun _ _ e => run_mono (Nat.le_max_right n m) e) hf

theorem o_var {op : AOp} {i : Nat} {l : List AOper} {k : Nat} {vs ts : List AVal} {h : Heap} {K : List AVal → Heap → Prop} (w : XW F op (evOpd vs ts) h (fun r h' => OW F l (k + 1) (vs.set i r) (ts ++ [.bad]) h' K)) : OW F (⟨.var i, op, none⟩ :: l) k vs ts h K := by
  intro hl
  obtain ⟨n, r, h1, hx, w1⟩ := w
  obtain ⟨m, s', hf, hq⟩ := w1 (by simp [hl])
  refine ⟨max n m, s', ?_, hq⟩
  simp only [foldA, stepA, wantA, evOpd_pad]
  rw [execA_mono (cfOf_le fun _ _ e => run_mono (Nat.le_max_left n m) e) hx]
  simp only [St.put, List.length_cons]
  rw [pad_keep]
  exact foldA_mono (cfOf_le fun _ _ e => run_mono (Nat.le_max_right n m) e) hf

theorem o_no {op : AOp} {l : List AOper} {k : Nat} {vs ts : List AVal} {h : Heap} {K : List AVal → Heap → Prop} (w : XW F op (evOpd vs ts) h (fun r h' => OW F l (k + 1) vs (ts ++ [.bad]) h' K)) : OW F (⟨.no, op, none⟩ :: l) k vs ts h K := by
  intro hl
  obtain ⟨n, r, h1, hx, w1⟩ := w
  obtain ⟨m, s', hf, hq⟩ := w1 (by simp [hl])
  refine ⟨max n m, s', ?_, hq⟩
  simp only [foldA, stepA, wantA, evOpd_pad]
  rw [execA_mono (cfOf_le fun _ _ e => run_mono (Nat.le_max_left n m) e) hx]
  simp only [St.put, List.length_cons]
  rw [pad_keep]
  exact foldA_mono (cfOf_le fun _ _ e => run_mono (Nat.le_max_right n m) e) hf

/-- A guarded operation. -/
theorem o_guard {d : ADst} {op : AOp} {g : Opd × Bool} {l : List AOper} {k : Nat} {vs ts : List AVal} {h : Heap} {K : List AVal → Heap → Prop} (b : Bool) (hb : wantA (evOpd vs ts) (some g) = some b)
    (w1 : b = true → OW F (⟨d, op, none⟩ :: l) k vs ts h K) (w2 : b = false → OW F (⟨d, .mov (.c (.tup [])), none⟩ :: l) k vs ts h K) : OW F (⟨d, op, some g⟩ :: l) k vs ts h K := by
  intro hl
  cases b with
  | true =>
    obtain ⟨n, s', hf, hq⟩ := w1 rfl hl
    refine ⟨n, s', ?_, hq⟩
    simp only [foldA, stepA, evOpd_pad, hb]
    simp only [foldA, stepA, wantA, evOpd_pad] at hf
    exact hf
  | false =>
    obtain ⟨n, s', hf, hq⟩ := w2 rfl hl
    refine ⟨n, s', ?_, hq⟩
    simp only [foldA, stepA, evOpd_pad, hb]
    simp only [foldA, stepA, wantA, execA, evalA, evOpd, evOpd_pad, List.length_cons] at hf
    simp only [List.length_cons]
    exact hf

theorem x_eval {op : AOp} {ev : Opd → AVal} {h : Heap} {K : AVal → Heap → Prop} (r : AVal) (h' : Heap) (e : evalA op ev h = some (r, h')) (q : K r h') : XW F op ev h K := by
  refine ⟨0, r, h', ?_, q⟩
  cases op <;> first | exact e | simp [evalA] at e

theorem x_call {f : Opd} {args : List Opd} {ev : Opd → AVal} {h : Heap} {K : AVal → Heap → Prop} (g : Nat) (cap : List AVal) (hf : ev f = .fn g cap) (r : AVal) (h' : Heap) (c : Gives F g (args.map ev ++ cap) h r h') (q : K r h') : XW F (.call f args) ev h K := by
  obtain ⟨n, hn⟩ := c
  refine ⟨n, r, h', ?_, q⟩
  simp only [execA, hf, cfOf, hn]; rfl

theorem x_pcall {f : Nat} {args : List Opd} {ev : Opd → AVal} {h : Heap} {K : AVal → Heap → Prop} (as : List AVal) (hs : stripL (args.map ev) = some as) (r r' : AVal) (h' : Heap) (c : Gives F f as Heap.empty r h') (hp : purify h' r = some r') (q : K r' h) : XW F (.pcall f args) ev h K := by
  obtain ⟨n, hn⟩ := c
  refine ⟨n, r', h, ?_, q⟩
  simp only [execA, hs, cfOf, hn]
  simp [Res.asVal, hp]

/-- A call on rows that it borrows. -/
theorem x_pcall_borrow {f : Nat} {args : List Opd} {ev : Opd → AVal} {h : Heap} {K : AVal → Heap → Prop} (hn0 : stripL (args.map ev) = none) (as : List AVal) (hs : purifyL h (args.map ev) = some as) (r : AVal) (h' : Heap) (c : Gives F f as Heap.empty r h') (hp : scal r = true) (q : K r h) : XW F (.pcall f args) ev h K := by
  obtain ⟨n, hn⟩ := c
  refine ⟨n, r, h, ?_, q⟩
  simp only [execA, hs, hn0, cfOf, hn]
  simp [Res.asVal, hp]

theorem gives_of {g : Nat} {fn : AFunc} (hf : F g = some (.comp fn)) {args : List AVal} {h : Heap} {r : AVal} {h' : Heap}
    (w : WP F fn.body (fn.slots.map fun s => (args[s]?).getD (.tup [])) h (fun e vs h1 => (e = .normal ∨ e = .ret) ∧ resultsA fn.results vs = r ∧ h1 = h')) : Gives F g args h r h' := by
  obtain ⟨n, e, vs, h1, hr, he, rfl, rfl⟩ := w
  refine ⟨n + 1, ?_⟩
  rw [run_call, hf]
  simp only [hr]
  rcases he with rfl | rfl <;> rfl

theorem gives_wp {g : Nat} {fn : AFunc} (hf : F g = some (.comp fn)) {args : List AVal} {h : Heap} {p : AVal → Heap → Prop}
    (w : WP F fn.body (fn.slots.map fun s => (args[s]?).getD (.tup [])) h (fun e vs h1 => (e = .normal ∨ e = .ret) ∧ p (resultsA fn.results vs) h1)) : ∃ r, ∃ h', Gives F g args h r h' ∧ p r h' := by
  obtain ⟨n, e, vs, h1, hr, he, hp⟩ := w
  refine ⟨_, h1, ⟨n + 1, ?_⟩, hp⟩
  rw [run_call, hf]
  simp only [hr]
  rcases he with rfl | rfl <;> rfl

theorem gives_hand {g : Nat} {s : List AVal → Heap → Option (AVal × Heap)} (hf : F g = some (.hand s)) {args : List AVal} {h : Heap} {r : AVal} {h' : Heap} (e : s args h = some (r, h')) : Gives F g args h r h' :=
  ⟨1, by rw [run_call, hf]; simp only [e]; rfl⟩

/-! ### where the control goes -/
section
variable {h : Heap} {b : ACode} {Q : AExit → List AVal → Heap → Prop} {vs : List AVal} {J : List AVal → Heap → Prop} {id i : Nat}
theorem sq_n (q : WP F b vs h Q) : sq F b Q .normal vs h := q
theorem sq_r (q : Q .ret vs h) : sq F b Q .ret vs h := q
theorem sq_e (q : Q (.exit i) vs h) : sq F b Q (.exit i) vs h := q
theorem bk_n (q : Q .normal vs h) : bk id Q .normal vs h := q
theorem bk_r (q : Q .ret vs h) : bk id Q .ret vs h := q
theorem bk_e (q : Q .normal vs h) : bk id Q (.exit id) vs h := by simp only [bk, if_true]; exact q
theorem bk_o (hne : i ≠ id) (q : Q (.exit i) vs h) : bk id Q (.exit i) vs h := by simp only [bk, hne, if_false]; exact q
theorem lp_n (q : J vs h) : lp J Q .normal vs h := q
theorem lp_r (q : Q .ret vs h) : lp J Q .ret vs h := q
theorem lp_e (q : Q (.exit i) vs h) : lp J Q (.exit i) vs h := q

theorem w_true {x : Opd} {a b : ACode} (hx : evOpd vs [] x = .bool true) (w : WP F a vs h Q) : WP F (.cond x a b) vs h Q := w_cond true hx (fun _ => w) (fun e => by simp at e)
theorem w_false {x : Opd} {a b : ACode} (hx : evOpd vs [] x = .bool false) (w : WP F b vs h Q) : WP F (.cond x a b) vs h Q := w_cond false hx (fun e => by simp at e) (fun _ => w)
/-- A branch on a decision. -/
theorem w_if {x : Opd} {a b : ACode} (p : Prop) [d : Decidable p] (hx : evOpd vs [] x = .bool (decide p)) (w1 : p → WP F a vs h Q) (w2 : ¬ p → WP F b vs h Q) : WP F (.cond x a b) vs h Q :=
  w_cond (decide p) hx (fun e => w1 (of_decide_eq_true e)) (fun e => w2 (of_decide_eq_false e))

theorem o_gt {d : ADst} {op : AOp} {g : Opd × Bool} {l : List AOper} {k : Nat} {ts : List AVal} {K : List AVal → Heap → Prop} (hb : wantA (evOpd vs ts) (some g) = some true)
    (w : OW F (⟨d, op, none⟩ :: l) k vs ts h K) : OW F (⟨d, op, some g⟩ :: l) k vs ts h K := o_guard true hb (fun _ => w) (fun e => by simp at e)
theorem o_gf {d : ADst} {op : AOp} {g : Opd × Bool} {l : List AOper} {k : Nat} {ts : List AVal} {K : List AVal → Heap → Prop} (hb : wantA (evOpd vs ts) (some g) = some false)
    (w : OW F (⟨d, .mov (.c (.tup [])), none⟩ :: l) k vs ts h K) : OW F (⟨d, op, some g⟩ :: l) k vs ts h K := o_guard false hb (fun e => by simp at e) (fun _ => w)
end

theorem gives_run {g : Nat} {args : List AVal} {h : Heap} {r : AVal} {h' : Heap} (c : Gives F g args h r h') : ∃ n, run F n (.call g args h) = some (.val r h') := c
theorem gives_mk {g : Nat} {args : List AVal} {h : Heap} {r : AVal} {h' : Heap} {n : Nat} (c : run F n (.call g args h) = some (.val r h')) : Gives F g args h r h' := ⟨n, c⟩

/-! ### continuations that the simplifier enters only when the value is known -/
def bindK (o : Option AVal) (K : AVal → Heap → Prop) (h : Heap) : Prop := ∃ r, o = some r ∧ K r h
def bindH (o : Option (AVal × Heap)) (K : AVal → Heap → Prop) : Prop := ∃ r h, o = some (r, h) ∧ K r h
def bindB (o : Option Bool) (K : Bool → Prop) : Prop := ∃ b, o = some b ∧ K b
def condB (v : AVal) (K : Bool → Prop) : Prop := ∃ t, v = .bool t ∧ K t
@[congr] theorem bindK_congr {o o' : Option AVal} {K : AVal → Heap → Prop} {h : Heap} (e : o = o') : bindK o K h = bindK o' K h := by rw [e]
@[congr] theorem bindH_congr {o o' : Option (AVal × Heap)} {K : AVal → Heap → Prop} (e : o = o') : bindH o K = bindH o' K := by rw [e]
@[congr] theorem bindB_congr {o o' : Option Bool} {K : Bool → Prop} (e : o = o') : bindB o K = bindB o' K := by rw [e]
@[congr] theorem condB_congr {v v' : AVal} {K : Bool → Prop} (e : v = v') : condB v K = condB v' K := by rw [e]
theorem bindK_some (r : AVal) (K : AVal → Heap → Prop) (h : Heap) : bindK (some r) K h = K r h := by
  apply propext
  constructor
  · rintro ⟨r', e, q⟩; cases e; exact q
  · intro q; exact ⟨r, rfl, q⟩
theorem bindH_some (r : AVal) (h : Heap) (K : AVal → Heap → Prop) : bindH (some (r, h)) K = K r h := by
  apply propext
  constructor
  · rintro ⟨r', h', e, q⟩; cases e; exact q
  · intro q; exact ⟨r, h, rfl, q⟩
theorem bindB_some (b : Bool) (K : Bool → Prop) : bindB (some b) K = K b := by
  apply propext
  constructor
  · rintro ⟨r', e, q⟩; cases e; exact q
  · intro q; exact ⟨b, rfl, q⟩
theorem condB_bool (b : Bool) (K : Bool → Prop) : condB (.bool b) K = K b := by
  apply propext
  constructor
  · rintro ⟨r', e, q⟩; cases e; exact q
  · intro q; exact ⟨b, rfl, q⟩

/-! ### the rules as equivalences -/
/-- A region from the place where the temporaries end. -/
def RW (F : Nat → Option AEnt) (l : List AOper) (vs ts : List AVal) (h : Heap) (K : List AVal → Heap → Prop) : Prop :=
  ∃ n s', foldA (cfOf F n) l ts.length ⟨vs, ts ++ List.replicate l.length .bad, h⟩ = some s' ∧ K s'.vs s'.h

def putV (d : ADst) (vs : List AVal) (r : AVal) : List AVal := match d with
  | .var i => vs.set i r
  | _ => vs
def putT (d : ADst) (r : AVal) : AVal := match d with
  | .tmp => r
  | _ => .bad

theorem WP_ops {l : List AOper} {vs : List AVal} {h : Heap} {Q : AExit → List AVal → Heap → Prop} : WP F (.ops l) vs h Q ↔ RW F l vs [] h (Q .normal) := by
  constructor
  · rintro ⟨n, e, vs', h', hr, hq⟩
    cases n with
    | zero => cases hr
    | succ n =>
      rw [run_ops] at hr
      split at hr
      · rename_i s hs
        simp only [Option.some.injEq, Res.code.injEq] at hr
        obtain ⟨rfl, rfl, rfl⟩ := hr
        exact ⟨n, s, by simpa using hs, hq⟩
      · simp at hr
  · rintro ⟨n, s', hr, hq⟩
    refine ⟨n + 1, .normal, s'.vs, s'.h, ?_, hq⟩
    simp only [List.length_nil, List.nil_append] at hr
    rw [run_ops, hr]

theorem RW_nil {vs ts : List AVal} {h : Heap} {K : List AVal → Heap → Prop} : RW F [] vs ts h K ↔ K vs h := by
  constructor
  · rintro ⟨n, s', hr, hq⟩
    simp only [foldA, Option.some.injEq] at hr
    subst hr; exact hq
  · intro q; exact ⟨0, _, rfl, q⟩

theorem put_pad (d : ADst) (vs ts : List AVal) (n : Nat) (h h' : Heap) (r : AVal) : (⟨vs, ts ++ List.replicate (n + 1) .bad, h⟩ : St).put ts.length d r h' = ⟨putV d vs r, (ts ++ [putT d r]) ++ List.replicate n .bad, h'⟩ := by
  cases d with
  | no => simp only [St.put, putV, putT, pad_keep]
  | tmp => simp only [St.put, putV, putT]; rw [pad_set _ _ _ _ rfl]
  | var i => simp only [St.put, putV, putT, pad_keep]

theorem RW_exec {d : ADst} {op : AOp} {l : List AOper} {vs ts : List AVal} {h : Heap} {K : List AVal → Heap → Prop} :
    RW F (⟨d, op, none⟩ :: l) vs ts h K ↔ XW F op (evOpd vs ts) h (fun r h' => RW F l (putV d vs r) (ts ++ [putT d r]) h' K) := by
  constructor
  · rintro ⟨n, s', hr, hq⟩
    simp only [foldA, stepA, wantA, evOpd_pad, List.length_cons] at hr
    split at hr
    · rename_i s1 hs1
      split at hs1
      · rename_i r h1 hx
        simp only [Option.some.injEq] at hs1
        rw [put_pad] at hs1
        subst hs1
        exact ⟨n, r, h1, hx, n, s', by simpa using hr, hq⟩
      · simp at hs1
    · simp at hr
  · rintro ⟨n, r, h1, hx, m, s', hf, hq⟩
    refine ⟨max n m, s', ?_, hq⟩
    simp only [foldA, stepA, wantA, evOpd_pad, List.length_cons]
    rw [execA_mono (cfOf_le fun _ _ e => run_mono (Nat.le_max_left n m) e) hx]
    simp only
    rw [put_pad]
    simp only [List.length_append, List.length_cons, List.length_nil] at hf
    exact foldA_mono (cfOf_le fun _ _ e => run_mono (Nat.le_max_right n m) e) hf

theorem RW_guard {d : ADst} {op : AOp} {g : Opd × Bool} {l : List AOper} {vs ts : List AVal} {h : Heap} {K : List AVal → Heap → Prop} :
    RW F (⟨d, op, some g⟩ :: l) vs ts h K ↔ bindB (wantA (evOpd vs ts) (some g)) (fun b => RW F (⟨d, if b then op else .mov (.c (.tup [])), none⟩ :: l) vs ts h K) := by
  constructor
  · rintro ⟨n, s', hr, hq⟩
    cases hw : wantA (evOpd vs ts) (some g) with
    | none => simp only [foldA, stepA, evOpd_pad, hw] at hr; simp at hr
    | some b =>
      refine ⟨b, rfl, n, s', ?_, hq⟩
      cases b with
      | true =>
        simp only [foldA, stepA, evOpd_pad, hw] at hr
        simp only [foldA, stepA, evOpd_pad, wantA, if_true]
        exact hr
      | false =>
        simp only [foldA, stepA, evOpd_pad, hw] at hr
        simp only [foldA, stepA, evOpd_pad, wantA, if_false, execA, evalA, evOpd, Bool.false_eq_true]
        exact hr
  · rintro ⟨b, hw, n, s', hr, hq⟩
    refine ⟨n, s', ?_, hq⟩
    cases b with
    | true =>
      simp only [foldA, stepA, evOpd_pad, hw]
      simp only [foldA, stepA, evOpd_pad, wantA, if_true] at hr
      exact hr
    | false =>
      simp only [foldA, stepA, evOpd_pad, hw]
      simp only [foldA, stepA, evOpd_pad, wantA, if_false, execA, evalA, evOpd, Bool.false_eq_true] at hr
      exact hr

theorem XW_eval {op : AOp} {ev : Opd → AVal} {h : Heap} {K : AVal → Heap → Prop} (hop : ∀ cf, execA cf op ev h = evalA op ev h) : XW F op ev h K ↔ ∃ r h', evalA op ev h = some (r, h') ∧ K r h' := by
  constructor
  · rintro ⟨n, r, h', hx, hq⟩
    rw [hop] at hx
    exact ⟨r, h', hx, hq⟩
  · rintro ⟨r, h', hx, hq⟩
    exact ⟨0, r, h', by rw [hop]; exact hx, hq⟩

theorem WP_seq {a b : ACode} {vs : List AVal} {h : Heap} {Q : AExit → List AVal → Heap → Prop} : WP F (.seq a b) vs h Q ↔ WP F a vs h (sq F b Q) := by
  constructor
  · rintro ⟨n, e, vs', h', hr, hq⟩
    cases n with
    | zero => cases hr
    | succ n =>
      rw [run_seq] at hr
      cases ha : run F n (.code a vs h) with
      | none => rw [ha] at hr; simp at hr
      | some x =>
        rw [ha] at hr
        cases x with
        | val r h1 => simp at hr
        | code e1 vs1 h1 =>
          refine ⟨n, e1, vs1, h1, ha, ?_⟩
          cases e1 with
          | normal => exact ⟨n, e, vs', h', hr, hq⟩
          | exit i => simp at hr; obtain ⟨rfl, rfl, rfl⟩ := hr; exact hq
          | ret => simp at hr; obtain ⟨rfl, rfl, rfl⟩ := hr; exact hq
  · exact w_seq

theorem WP_skip {vs : List AVal} {h : Heap} {Q : AExit → List AVal → Heap → Prop} : WP F .skip vs h Q ↔ Q .normal vs h := by
  constructor
  · rintro ⟨n, e, vs', h', hr, hq⟩
    cases n with
    | zero => cases hr
    | succ n => cases hr; exact hq
  · exact w_skip
theorem WP_ret {vs : List AVal} {h : Heap} {Q : AExit → List AVal → Heap → Prop} : WP F .ret vs h Q ↔ Q .ret vs h := by
  constructor
  · rintro ⟨n, e, vs', h', hr, hq⟩
    cases n with
    | zero => cases hr
    | succ n => cases hr; exact hq
  · exact w_ret
theorem WP_exit {id : Nat} {vs : List AVal} {h : Heap} {Q : AExit → List AVal → Heap → Prop} : WP F (.exit id) vs h Q ↔ Q (.exit id) vs h := by
  constructor
  · rintro ⟨n, e, vs', h', hr, hq⟩
    cases n with
    | zero => cases hr
    | succ n => cases hr; exact hq
  · exact w_exit

theorem WP_cond {x : Opd} {a b : ACode} {vs : List AVal} {h : Heap} {Q : AExit → List AVal → Heap → Prop} : WP F (.cond x a b) vs h Q ↔ condB (evOpd vs [] x) (fun t => WP F (if t then a else b) vs h Q) := by
  constructor
  · rintro ⟨n, e, vs', h', hr, hq⟩
    cases n with
    | zero => cases hr
    | succ n =>
      rw [run_cond] at hr
      split at hr
      · rename_i hx; exact ⟨true, hx, n, e, vs', h', hr, hq⟩
      · rename_i hx; exact ⟨false, hx, n, e, vs', h', hr, hq⟩
      · simp at hr
  · rintro ⟨t, hx, w⟩
    exact w_cond t hx (fun ht => by subst ht; exact w) (fun ht => by subst ht; exact w)

theorem sq_normal {b : ACode} {Q : AExit → List AVal → Heap → Prop} {vs : List AVal} {h : Heap} : sq F b Q .normal vs h ↔ WP F b vs h Q := Iff.rfl
theorem sq_ret {b : ACode} {Q : AExit → List AVal → Heap → Prop} {vs : List AVal} {h : Heap} : sq F b Q .ret vs h ↔ Q .ret vs h := Iff.rfl
theorem sq_exit {b : ACode} {i : Nat} {Q : AExit → List AVal → Heap → Prop} {vs : List AVal} {h : Heap} : sq F b Q (.exit i) vs h ↔ Q (.exit i) vs h := Iff.rfl
theorem bk_normal {id : Nat} {Q : AExit → List AVal → Heap → Prop} {vs : List AVal} {h : Heap} : bk id Q .normal vs h ↔ Q .normal vs h := Iff.rfl
theorem bk_ret {id : Nat} {Q : AExit → List AVal → Heap → Prop} {vs : List AVal} {h : Heap} : bk id Q .ret vs h ↔ Q .ret vs h := Iff.rfl
theorem bk_exit {id i : Nat} {Q : AExit → List AVal → Heap → Prop} {vs : List AVal} {h : Heap} : bk id Q (.exit i) vs h ↔ if i = id then Q .normal vs h else Q (.exit i) vs h := Iff.rfl
theorem lp_normal {J : List AVal → Heap → Prop} {Q : AExit → List AVal → Heap → Prop} {vs : List AVal} {h : Heap} : lp J Q .normal vs h ↔ J vs h := Iff.rfl
theorem lp_ret {J : List AVal → Heap → Prop} {Q : AExit → List AVal → Heap → Prop} {vs : List AVal} {h : Heap} : lp J Q .ret vs h ↔ Q .ret vs h := Iff.rfl
theorem lp_exit {J : List AVal → Heap → Prop} {i : Nat} {Q : AExit → List AVal → Heap → Prop} {vs : List AVal} {h : Heap} : lp J Q (.exit i) vs h ↔ Q (.exit i) vs h := Iff.rfl

theorem WP_block {id : Nat} {c : ACode} {vs : List AVal} {h : Heap} {Q : AExit → List AVal → Heap → Prop} : WP F (.block id c) vs h Q ↔ WP F c vs h (bk id Q) := by
  constructor
  · rintro ⟨n, e, vs', h', hr, hq⟩
    cases n with
    | zero => cases hr
    | succ n =>
      rw [run_block] at hr
      cases ha : run F n (.code c vs h) with
      | none => rw [ha] at hr; simp at hr
      | some x =>
        rw [ha] at hr
        cases x with
        | val r h1 => simp at hr
        | code e1 vs1 h1 =>
          refine ⟨n, e1, vs1, h1, ha, ?_⟩
          cases e1 with
          | normal => simp at hr; obtain ⟨rfl, rfl, rfl⟩ := hr; exact hq
          | ret => simp at hr; obtain ⟨rfl, rfl, rfl⟩ := hr; exact hq
          | exit i =>
            simp only [bk]
            simp only at hr
            split at hr
            · rename_i hi; rw [if_pos hi]; simp at hr; obtain ⟨rfl, rfl, rfl⟩ := hr; exact hq
            · rename_i hi; rw [if_neg hi]; simp at hr; obtain ⟨rfl, rfl, rfl⟩ := hr; exact hq
  · exact w_block

/-! ### what calls give, as functions -/
theorem gives_det {g : Nat} {args : List AVal} {h : Heap} {r1 r2 : AVal} {h1 h2 : Heap} (a : Gives F g args h r1 h1) (b : Gives F g args h r2 h2) : r1 = r2 ∧ h1 = h2 := by
  obtain ⟨n, hn⟩ := a
  obtain ⟨m, hm⟩ := b
  have e1 := run_mono (Nat.le_max_left n m) hn
  have e2 := run_mono (Nat.le_max_right n m) hm
  rw [e1] at e2
  simpa using e2

open Classical in
/-- What a call gives. -/
noncomputable def GV (F : Nat → Option AEnt) (g : Nat) (args : List AVal) (h : Heap) : Option (AVal × Heap) :=
  if e : ∃ p : AVal × Heap, Gives F g args h p.1 p.2 then some e.choose else none

theorem GV_of {g : Nat} {args : List AVal} {h : Heap} {r : AVal} {h' : Heap} (c : Gives F g args h r h') : GV F g args h = some (r, h') := by
  have e : ∃ p : AVal × Heap, Gives F g args h p.1 p.2 := ⟨(r, h'), c⟩
  unfold GV
  rw [dif_pos e]
  obtain ⟨h1, h2⟩ := gives_det e.choose_spec c
  rw [← h1, ← h2]

theorem of_GV {g : Nat} {args : List AVal} {h : Heap} {r : AVal} {h' : Heap} (c : GV F g args h = some (r, h')) : Gives F g args h r h' := by
  unfold GV at c
  split at c
  · rename_i e
    have := e.choose_spec
    simp only [Option.some.injEq] at c
    rw [c] at this
    exact this
  · simp at c

/-- What a call on a heap of its own gives, as a plain value. -/
noncomputable def PV (F : Nat → Option AEnt) (g : Nat) (as : List AVal) : Option AVal := match GV F g as Heap.empty with
  | some (r, h') => purify h' r
  | none => none

theorem XW_call {f : Opd} {args : List Opd} {ev : Opd → AVal} {h : Heap} {K : AVal → Heap → Prop} : XW F (.call f args) ev h K ↔ ∃ g cap, ev f = .fn g cap ∧ ∃ r h', GV F g (args.map ev ++ cap) h = some (r, h') ∧ K r h' := by
  constructor
  · rintro ⟨n, r, h', hx, hq⟩
    simp only [execA] at hx
    split at hx
    · rename_i g cap hf
      refine ⟨g, cap, hf, r, h', GV_of ⟨n, ?_⟩, hq⟩
      simp only [cfOf, Option.bind_eq_some_iff] at hx
      obtain ⟨x, h1, h2⟩ := hx
      cases x with
      | val r1 h1' => simp only [Res.asVal, Option.some.injEq, Prod.mk.injEq] at h2; rw [← h2.1, ← h2.2]; exact h1
      | code => simp [Res.asVal] at h2
    · simp at hx
  · rintro ⟨g, cap, hf, r, h', c, hq⟩
    exact x_call g cap hf r h' (of_GV c) hq

theorem XW_pcall {f : Nat} {args : List Opd} {ev : Opd → AVal} {h : Heap} {K : AVal → Heap → Prop} {as : List AVal} (hs : stripL (args.map ev) = some as) : XW F (.pcall f args) ev h K ↔ ∃ r, PV F f as = some r ∧ K r h := by
  constructor
  · rintro ⟨n, r, h', hx, hq⟩
    simp only [execA, hs] at hx
    split at hx
    · rename_i r0 h0 hc
      simp only [Option.map_eq_some_iff, Prod.mk.injEq] at hx
      obtain ⟨r1, hp, rfl, rfl⟩ := hx
      refine ⟨r1, ?_, hq⟩
      have : Gives F f as Heap.empty r0 h0 := by
        simp only [cfOf, Option.bind_eq_some_iff] at hc
        obtain ⟨x, h1, h2⟩ := hc
        cases x with
        | val r1 h1' => simp only [Res.asVal, Option.some.injEq, Prod.mk.injEq] at h2; rw [← h2.1, ← h2.2]; exact ⟨n, h1⟩
        | code => simp [Res.asVal] at h2
      unfold PV
      rw [GV_of this]
      exact hp
    · simp at hx
  · rintro ⟨r, hp, hq⟩
    unfold PV at hp
    split at hp
    · rename_i r0 h0 hc
      exact x_pcall as hs r0 r h0 (of_GV hc) hp hq
    · simp at hp

theorem PV_of {g : Nat} {as : List AVal} {r : AVal} {h' : Heap} {r' : AVal} (c : Gives F g as Heap.empty r h') (hp : purify h' r = some r') : PV F g as = some r' := by
  unfold PV
  rw [GV_of c]
  exact hp

theorem PV_wp {g : Nat} {fn : AFunc} (hf : F g = some (.comp fn)) {args : List AVal} {r : AVal}
    (w : WP F fn.body (fn.slots.map fun s => (args[s]?).getD (.tup [])) Heap.empty (fun e vs h1 => (e = .normal ∨ e = .ret) ∧ purify h1 (resultsA fn.results vs) = some r)) : PV F g args = some r := by
  obtain ⟨r0, h', c, hp⟩ := gives_wp (p := fun v h1 => purify h1 v = some r) hf w
  exact PV_of c hp

theorem GV_wp {g : Nat} {fn : AFunc} (hf : F g = some (.comp fn)) {args : List AVal} {h : Heap} {r : AVal} {h' : Heap}
    (w : WP F fn.body (fn.slots.map fun s => (args[s]?).getD (.tup [])) h (fun e vs h1 => (e = .normal ∨ e = .ret) ∧ resultsA fn.results vs = r ∧ h1 = h')) : GV F g args h = some (r, h') := GV_of (gives_of hf w)

/-- A call on plain values, or on rows that it borrows. -/
def PC (F : Nat → Option AEnt) (f : Nat) (o : Option (List AVal)) (args : List AVal) (h : Heap) (K : AVal → Heap → Prop) : Prop :=
  match o with
  | some as => ∃ r, PV F f as = some r ∧ K r h
  | none => ∃ as, purifyL h args = some as ∧ ∃ r h', GV F f as Heap.empty = some (r, h') ∧ scal r = true ∧ K r h

theorem PC_some {f : Nat} {as args : List AVal} {h : Heap} {K : AVal → Heap → Prop} : PC F f (some as) args h K ↔ bindK (PV F f as) K h := Iff.rfl
theorem PC_none {f : Nat} {args : List AVal} {h : Heap} {K : AVal → Heap → Prop} : PC F f none args h K ↔ ∃ as, purifyL h args = some as ∧ ∃ r h', GV F f as Heap.empty = some (r, h') ∧ scal r = true ∧ K r h := Iff.rfl

theorem XW_pc {f : Nat} {args : List Opd} {ev : Opd → AVal} {h : Heap} {K : AVal → Heap → Prop} : XW F (.pcall f args) ev h K ↔ PC F f (stripL (args.map ev)) (args.map ev) h K := by
  cases hs : stripL (args.map ev) with
  | some as => rw [XW_pcall hs, PC_some]; exact Iff.rfl
  | none =>
    rw [PC_none]
    constructor
    · rintro ⟨n, r, h', hx, hq⟩
      simp only [execA, hs] at hx
      split at hx
      · rename_i as has
        split at hx
        · rename_i r0 h0 hc
          split at hx
          · rename_i hsc
            simp only [Option.some.injEq, Prod.mk.injEq] at hx
            obtain ⟨rfl, rfl⟩ := hx
            refine ⟨as, has, r0, h0, GV_of ?_, hsc, hq⟩
            simp only [cfOf, Option.bind_eq_some_iff] at hc
            obtain ⟨x, h1, h2⟩ := hc
            cases x with
            | val r1 h1' => simp only [Res.asVal, Option.some.injEq, Prod.mk.injEq] at h2; rw [← h2.1, ← h2.2]; exact ⟨n, h1⟩
            | code => simp [Res.asVal] at h2
          · simp at hx
        · simp at hx
      · simp at hx
    · rintro ⟨as, has, r, h', hc, hsc, hq⟩
      exact x_pcall_borrow hs as has r h' (of_GV hc) hsc hq

attribute [irreducible] WP OW XW Gives sq bk lp RW GV PV PC

end Go.Abs
