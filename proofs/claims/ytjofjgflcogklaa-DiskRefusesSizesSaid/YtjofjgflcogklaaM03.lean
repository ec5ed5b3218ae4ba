/-
  Merged from AbsWP AbsRules AbsSim AbsAuto AbsFlat AbsBundle DkClone DkHand DkLays DkF DkBase: Rules by which the abstract machine's code is walked with values that are not known: fuel is hidden.
-/
import Derived.Test.YtjofjgflcogklaaM00
import Derived.IntWalk
import Derived.Test.YtjofjgflcogklaaM02
import Derived.Test.YtjofjgflcogklaaM01
import Derived.Shelf.SlIterI.Nil
import Derived.Shelf.SortM.Plain
import Derived.Shelf.SortM.SortNone
import Derived.Shelf.SlMaps.Clone
import Derived.Test.YtjofjgflcogklaaProg
import Derived.KernelRfl
/-
  Rules by which the abstract machine's code is walked with values that are not known: fuel is hidden.
-/
set_option linter.unusedSimpArgs false
set_option linter.unusedVariables false
namespace Go.Abs

variable {F : Nat → Option AEnt}

/-! ### more fuel changes nothing -/

def cfOf (F : Nat → Option AEnt) (n : Nat) : CallF := fun f args h => (run F n (.call f args h)).bind Res.asVal

def Le (a b : CallF) : Prop := ∀ f args h r, a f args h = some r → b f args h = some r

theorem execA_mono {a b : CallF} (hle : Le a b) {op : AOp} {ev : Opd → AVal} {h : Heap} {r : AVal × Heap} (e : execA a op ev h = some r) : execA b op ev h = some r := by
  cases op with
  | call f args =>
    simp only [execA] at e ⊢
    split at e
    · exact hle _ _ _ _ e
    · simp at e
  | pcall f args =>
    simp only [execA] at e ⊢
    split at e
    · split at e
      · rename_i hc
        rw [hle _ _ _ _ hc]
        exact e
      · simp at e
    · split at e
      · split at e
        · rename_i hc
          rw [hle _ _ _ _ hc]
          exact e
        · simp at e
      · simp at e
  | _ => exact e

theorem stepA_mono {a b : CallF} (hle : Le a b) {o : AOper} {k : Nat} {s s' : St} (e : stepA a o k s = some s') : stepA b o k s = some s' := by
  simp only [stepA] at e ⊢
  split at e
  · simp at e
  · exact e
  · split at e
    · rename_i hx
      rw [execA_mono hle hx]
      exact e
    · simp at e

theorem foldA_mono {a b : CallF} (hle : Le a b) : ∀ {l : List AOper} {k : Nat} {s s' : St}, foldA a l k s = some s' → foldA b l k s = some s'
  | [], _, _, _, e => e
  | o :: l, k, s, s', e => by
    simp only [foldA] at e ⊢
    split at e
    · rename_i hs
      rw [stepA_mono hle hs]
      exact foldA_mono hle e
    · simp at e

theorem cfOf_le {n m : Nat} (ih : ∀ t r, run F n t = some r → run F m t = some r) : Le (cfOf F n) (cfOf F m) := by
  intro f args h r e
  simp only [cfOf, Option.bind_eq_some_iff] at e ⊢
  obtain ⟨x, h1, h2⟩ := e
  exact ⟨x, ih _ _ h1, h2⟩

theorem run_call (n : Nat) (f : Nat) (args : List AVal) (h : Heap) : run F (n + 1) (.call f args h) = match F f with
    | none => none
    | some (.hand s) => (s args h).map fun p => .val p.1 p.2
    | some (.comp fn) =>
      match run F n (.code fn.body (fn.slots.map fun s => (args[s]?).getD (.tup [])) h) with
      | some (.code .normal vs h') => some (.val (resultsA fn.results vs) h')
      | some (.code .ret vs h') => some (.val (resultsA fn.results vs) h')
      | _ => none := rfl

theorem run_ops (n : Nat) (l : List AOper) (vs : List AVal) (h : Heap) : run F (n + 1) (.code (.ops l) vs h) = match foldA (cfOf F n) l 0 ⟨vs, List.replicate l.length .bad, h⟩ with
    | some s => some (.code .normal s.vs s.h)
    | none => none := rfl

theorem run_seq (n : Nat) (a b : ACode) (vs : List AVal) (h : Heap) : run F (n + 1) (.code (.seq a b) vs h) = match run F n (.code a vs h) with
    | some (.code .normal vs h) => run F n (.code b vs h)
    | r => r := rfl

theorem run_cond (n : Nat) (x : Opd) (a b : ACode) (vs : List AVal) (h : Heap) : run F (n + 1) (.code (.cond x a b) vs h) = match evOpd vs [] x with
    | .bool true => run F n (.code a vs h)
    | .bool false => run F n (.code b vs h)
    | _ => none := rfl

theorem run_block (n id : Nat) (c : ACode) (vs : List AVal) (h : Heap) : run F (n + 1) (.code (.block id c) vs h) = match run F n (.code c vs h) with
    | some (.code (.exit i) vs h) => if i = id then some (.code .normal vs h) else some (.code (.exit i) vs h)
    | r => r := rfl

theorem run_loop (n : Nat) (c : ACode) (vs : List AVal) (h : Heap) : run F (n + 1) (.code (.loop c) vs h) = match run F n (.code c vs h) with
    | some (.code .normal vs h) => run F n (.code (.loop c) vs h)
    | r => r := rfl

theorem run_succ : ∀ (n : Nat) (t : Task) (r : Res), run F n t = some r → run F (n + 1) t = some r := by
  intro n
  induction n with
  | zero => intro t r e; cases e
  | succ n ih =>
    intro t r e
    cases t with
    | call f args h =>
      rw [run_call] at e ⊢
      split at e
      · cases e
      · rename_i s hs; exact e
      · rename_i fn hf
        cases hx : run F n (.code fn.body (fn.slots.map fun s => (args[s]?).getD (.tup [])) h) with
        | none => rw [hx] at e; cases e
        | some x => rw [hx] at e; rw [ih _ _ hx]; exact e
    | code c vs h =>
      cases c with
      | skip => exact e
      | exit id => exact e
      | ret => exact e
      | refuse => cases e
      | ops l =>
        rw [run_ops] at e ⊢
        cases hx : foldA (cfOf F n) l 0 ⟨vs, List.replicate l.length .bad, h⟩ with
        | none => rw [hx] at e; cases e
        | some x =>
          rw [hx] at e
          rw [foldA_mono (cfOf_le ih) hx]
          exact e
      | seq a b =>
        rw [run_seq] at e ⊢
        cases hx : run F n (.code a vs h) with
        | none => rw [hx] at e; cases e
        | some x =>
          rw [hx] at e
          rw [ih _ _ hx]
          revert e
          split
          · intro e; exact ih _ _ e
          · intro e; exact e
      | cond x a b =>
        rw [run_cond] at e ⊢
        revert e
        split
        · intro e; exact ih _ _ e
        · intro e; exact ih _ _ e
        · intro e; exact e
      | block id c =>
        rw [run_block] at e ⊢
        cases hx : run F n (.code c vs h) with
        | none => rw [hx] at e; cases e
        | some x => rw [hx] at e; rw [ih _ _ hx]; exact e
      | loop c =>
        rw [run_loop] at e ⊢
        cases hx : run F n (.code c vs h) with
        | none => rw [hx] at e; cases e
        | some x =>
          rw [hx] at e
          rw [ih _ _ hx]
          revert e
          split
          · intro e; exact ih _ _ e
          · intro e; exact e

theorem run_mono {n m : Nat} (hle : n ≤ m) {t : Task} {r : Res} (e : run F n t = some r) : run F m t = some r := by
  induction hle with
  | refl => exact e
  | step _ ih => exact run_succ _ _ _ ih

/-! ### the rules -/

/-- A call ends. -/
def Gives (F : Nat → Option AEnt) (g : Nat) (args : List AVal) (h : Heap) (r : AVal) (h' : Heap) : Prop := ∃ n, run F n (.call g args h) = some (.val r h')

/-- A piece of code ends, and what it leaves meets Q. -/
def WP (F : Nat → Option AEnt) (c : ACode) (vs : List AVal) (h : Heap) (Q : AExit → List AVal → Heap → Prop) : Prop :=
  ∃ n e vs' h', run F n (.code c vs h) = some (.code e vs' h') ∧ Q e vs' h'

/-- A region ends. -/
def OW (F : Nat → Option AEnt) (l : List AOper) (k : Nat) (vs ts : List AVal) (h : Heap) (K : List AVal → Heap → Prop) : Prop :=
  ts.length = k → ∃ n s', foldA (cfOf F n) l k ⟨vs, ts ++ List.replicate l.length .bad, h⟩ = some s' ∧ K s'.vs s'.h

/-- An operation ends. -/
def XW (F : Nat → Option AEnt) (op : AOp) (ev : Opd → AVal) (h : Heap) (K : AVal → Heap → Prop) : Prop :=
  ∃ n r h', execA (cfOf F n) op ev h = some (r, h') ∧ K r h'

theorem WP.mono {c : ACode} {vs : List AVal} {h : Heap} {Q R : AExit → List AVal → Heap → Prop} (w : WP F c vs h Q) (hi : ∀ e vs h, Q e vs h → R e vs h) : WP F c vs h R := by
  obtain ⟨n, e, vs', h', h1, h2⟩ := w
  exact ⟨n, e, vs', h', h1, hi _ _ _ h2⟩

theorem w_skip {vs : List AVal} {h : Heap} {Q : AExit → List AVal → Heap → Prop} (q : Q .normal vs h) : WP F .skip vs h Q := ⟨1, _, _, _, rfl, q⟩
theorem w_ret {vs : List AVal} {h : Heap} {Q : AExit → List AVal → Heap → Prop} (q : Q .ret vs h) : WP F .ret vs h Q := ⟨1, _, _, _, rfl, q⟩
theorem w_exit {id : Nat} {vs : List AVal} {h : Heap} {Q : AExit → List AVal → Heap → Prop} (q : Q (.exit id) vs h) : WP F (.exit id) vs h Q := ⟨1, _, _, _, rfl, q⟩

/-- What goes on behind the first part. -/
def sq (F : Nat → Option AEnt) (b : ACode) (Q : AExit → List AVal → Heap → Prop) : AExit → List AVal → Heap → Prop
  | .normal, vs, h => WP F b vs h Q
  | e, vs, h => Q e vs h

theorem w_seq {a b : ACode} {vs : List AVal} {h : Heap} {Q : AExit → List AVal → Heap → Prop} (w : WP F a vs h (sq F b Q)) : WP F (.seq a b) vs h Q := by
  obtain ⟨n, e, vs1, h1, hr, hq⟩ := w
  cases e with
  | normal =>
    obtain ⟨m, e2, vs2, h2, hr2, hq2⟩ := hq
    refine ⟨max n m + 1, e2, vs2, h2, ?_, hq2⟩
    rw [run_seq, run_mono (Nat.le_max_left n m) hr]
    exact run_mono (Nat.le_max_right n m) hr2
  | exit id => exact ⟨n + 1, _, _, _, by rw [run_seq, hr], hq⟩
  | ret => exact ⟨n + 1, _, _, _, by rw [run_seq, hr], hq⟩

theorem w_cond {x : Opd} {a b : ACode} {vs : List AVal} {h : Heap} {Q : AExit → List AVal → Heap → Prop} (t : Bool) (hx : evOpd vs [] x = .bool t) (w1 : t = true → WP F a vs h Q) (w2 : t = false → WP F b vs h Q) : WP F (.cond x a b) vs h Q := by
  cases t with
  | true =>
    obtain ⟨n, e, vs', h', hr, hq⟩ := w1 rfl
    exact ⟨n + 1, e, vs', h', by rw [run_cond, hx]; exact hr, hq⟩
  | false =>
    obtain ⟨n, e, vs', h', hr, hq⟩ := w2 rfl
    exact ⟨n + 1, e, vs', h', by rw [run_cond, hx]; exact hr, hq⟩

/-- Behind a block. -/
def bk (id : Nat) (Q : AExit → List AVal → Heap → Prop) : AExit → List AVal → Heap → Prop
  | .exit i, vs, h => if i = id then Q .normal vs h else Q (.exit i) vs h
  | e, vs, h => Q e vs h

theorem w_block {id : Nat} {c : ACode} {vs : List AVal} {h : Heap} {Q : AExit → List AVal → Heap → Prop} (w : WP F c vs h (bk id Q)) : WP F (.block id c) vs h Q := by
  obtain ⟨n, e, vs1, h1, hr, hq⟩ := w
  cases e with
  | normal => exact ⟨n + 1, _, _, _, by rw [run_block, hr], hq⟩
  | ret => exact ⟨n + 1, _, _, _, by rw [run_block, hr], hq⟩
  | exit i =>
    simp only [bk] at hq
    by_cases hi : i = id
    · rw [if_pos hi] at hq
      exact ⟨n + 1, _, _, _, by rw [run_block, hr]; simp only [hi, if_true], hq⟩
    · rw [if_neg hi] at hq
      exact ⟨n + 1, _, _, _, by rw [run_block, hr]; simp only [hi, if_false], hq⟩

/-- One round of a loop, and what follows. -/
def lp (J : List AVal → Heap → Prop) (Q : AExit → List AVal → Heap → Prop) : AExit → List AVal → Heap → Prop
  | .normal, vs, h => J vs h
  | e, vs, h => Q e vs h

theorem w_loop_once {c : ACode} {vs : List AVal} {h : Heap} {Q : AExit → List AVal → Heap → Prop} (w : WP F c vs h (lp (fun vs h => WP F (.loop c) vs h Q) Q)) : WP F (.loop c) vs h Q := by
  obtain ⟨n, e, vs1, h1, hr, hq⟩ := w
  cases e with
  | normal =>
    obtain ⟨m, e2, vs2, h2, hr2, hq2⟩ := hq
    refine ⟨max n m + 1, e2, vs2, h2, ?_, hq2⟩
    rw [run_loop, run_mono (Nat.le_max_left n m) hr]
    exact run_mono (Nat.le_max_right n m) hr2
  | exit id => exact ⟨n + 1, _, _, _, by rw [run_loop, hr], hq⟩
  | ret => exact ⟨n + 1, _, _, _, by rw [run_loop, hr], hq⟩

/-- A loop by a measure. -/
theorem w_loop {c : ACode} {vs : List AVal} {h : Heap} {Q : AExit → List AVal → Heap → Prop} (J : Nat → List AVal → Heap → Prop) (m : Nat) (h0 : J m vs h)
    (round : ∀ m vs h, J m vs h → WP F c vs h (lp (fun vs h => ∃ m', m' < m ∧ J m' vs h) Q)) : WP F (.loop c) vs h Q := by
  induction m using Nat.strongRecOn generalizing vs h with
  | _ m ih =>
    refine w_loop_once ((round m vs h h0).mono fun e vs1 h1 hq => ?_)
    cases e with
    | normal => obtain ⟨m', hlt, hJ⟩ := hq; exact ih m' hlt hJ
    | exit id => exact hq
    | ret => exact hq

theorem w_ops {l : List AOper} {vs : List AVal} {h : Heap} {Q : AExit → List AVal → Heap → Prop} (w : OW F l 0 vs [] h (Q .normal)) : WP F (.ops l) vs h Q := by
  obtain ⟨n, s', hr, hq⟩ := w rfl
  rw [List.nil_append] at hr
  refine ⟨n + 1, .normal, s'.vs, s'.h, ?_, hq⟩
  rw [run_ops, hr]

theorem evOpd_pad (vs ts : List AVal) (n : Nat) : evOpd vs (ts ++ List.replicate n .bad) = evOpd vs ts := by
  funext x
  cases x with
  | v i => rfl
  | c x => rfl
  | t k =>
    simp only [evOpd]
    by_cases hk : k < ts.length
    · rw [List.getElem?_append_left hk]
    · rw [List.getElem?_append_right (by omega), List.getElem?_replicate, List.getElem?_eq_none (by omega)]
      split <;> rfl

theorem pad_set (ts : List AVal) (n k : Nat) (r : AVal) (h : ts.length = k) : (ts ++ List.replicate (n + 1) AVal.bad).set k r = (ts ++ [r]) ++ List.replicate n .bad := by
  subst h
  rw [List.set_append_right _ _ (Nat.le_refl _), Nat.sub_self, List.replicate_succ]
  simp

theorem pad_keep (ts : List AVal) (n : Nat) : ts ++ List.replicate (n + 1) AVal.bad = (ts ++ [.bad]) ++ List.replicate n .bad := by
  rw [List.replicate_succ]; simp

theorem o_nil {k : Nat} {vs ts : List AVal} {h : Heap} {K : List AVal → Heap → Prop} (q : K vs h) : OW F [] k vs ts h K := fun _ => ⟨0, _, rfl, q⟩

theorem o_tmp {op : AOp} {l : List AOper} {k : Nat} {vs ts : List AVal} {h : Heap} {K : List AVal → Heap → Prop} (w : XW F op (evOpd vs ts) h (fun r h' => OW F l (k + 1) vs (ts ++ [r]) h' K)) : OW F (⟨.tmp, op, none⟩ :: l) k vs ts h K := by
  intro hl
  obtain ⟨n, r, h1, hx, w1⟩ := w
  obtain ⟨m, s', hf, hq⟩ := w1 (by simp [hl])
  refine ⟨max n m, s', ?_, hq⟩
  simp only [foldA, stepA, wantA, evOpd_pad]
  rw [execA_mono (cfOf_le fun _ _ e => run_mono (Nat.le_max_left n m) e) hx]
  simp only [St.put, List.length_cons]
  rw [pad_set _ _ _ _ hl]
  exact foldA_mono (cfOf_le fun _ _ e => run_mono (Nat.le_max_right n m) e) hf

theorem o_var {op : AOp} {i : Nat} {l : List AOper} {k : Nat} {vs ts : List AVal} {h : Heap} {K : List AVal → Heap → Prop} (w : XW F op (evOpd vs ts) h (fun r h' => OW F l (k + 1) (vs.set i r) (ts ++ [.bad]) h' K)) : OW F (⟨.var i, op, none⟩ :: l) k vs ts h K := by
  intro hl
  obtain ⟨n, r, h1, hx, w1⟩ := w
  obtain ⟨m, s', hf, hq⟩ := w1 (by simp [hl])
  refine ⟨max n m, s', ?_, hq⟩
  simp only [foldA, stepA, wantA, evOpd_pad]
  rw [execA_mono (cfOf_le fun _ _ e => run_mono (Nat.le_max_left n m) e) hx]
  simp only [St.put, List.length_cons]
  rw [pad_keep]
  exact foldA_mono (cfOf_le fun _ _ e => run_mono (Nat.le_max_right n m) e) hf

theorem o_no {op : AOp} {l : List AOper} {k : Nat} {vs ts : List AVal} {h : Heap} {K : List AVal → Heap → Prop} (w : XW F op (evOpd vs ts) h (fun r h' => OW F l (k + 1) vs (ts ++ [.bad]) h' K)) : OW F (⟨.no, op, none⟩ :: l) k vs ts h K := by
  intro hl
  obtain ⟨n, r, h1, hx, w1⟩ := w
  obtain ⟨m, s', hf, hq⟩ := w1 (by simp [hl])
  refine ⟨max n m, s', ?_, hq⟩
  simp only [foldA, stepA, wantA, evOpd_pad]
  rw [execA_mono (cfOf_le fun _ _ e => run_mono (Nat.le_max_left n m) e) hx]
  simp only [St.put, List.length_cons]
  rw [pad_keep]
  exact foldA_mono (cfOf_le fun _ _ e => run_mono (Nat.le_max_right n m) e) hf

/-- A guarded operation. -/
theorem o_guard {d : ADst} {op : AOp} {g : Opd × Bool} {l : List AOper} {k : Nat} {vs ts : List AVal} {h : Heap} {K : List AVal → Heap → Prop} (b : Bool) (hb : wantA (evOpd vs ts) (some g) = some b)
    (w1 : b = true → OW F (⟨d, op, none⟩ :: l) k vs ts h K) (w2 : b = false → OW F (⟨d, .mov (.c (.tup [])), none⟩ :: l) k vs ts h K) : OW F (⟨d, op, some g⟩ :: l) k vs ts h K := by
  intro hl
  cases b with
  | true =>
    obtain ⟨n, s', hf, hq⟩ := w1 rfl hl
    refine ⟨n, s', ?_, hq⟩
    simp only [foldA, stepA, evOpd_pad, hb]
    simp only [foldA, stepA, wantA, evOpd_pad] at hf
    exact hf
  | false =>
    obtain ⟨n, s', hf, hq⟩ := w2 rfl hl
    refine ⟨n, s', ?_, hq⟩
    simp only [foldA, stepA, evOpd_pad, hb]
    simp only [foldA, stepA, wantA, execA, evalA, evOpd, evOpd_pad, List.length_cons] at hf
    simp only [List.length_cons]
    exact hf

theorem x_eval {op : AOp} {ev : Opd → AVal} {h : Heap} {K : AVal → Heap → Prop} (r : AVal) (h' : Heap) (e : evalA op ev h = some (r, h')) (q : K r h') : XW F op ev h K := by
  refine ⟨0, r, h', ?_, q⟩
  cases op <;> first | exact e | simp [evalA] at e

theorem x_call {f : Opd} {args : List Opd} {ev : Opd → AVal} {h : Heap} {K : AVal → Heap → Prop} (g : Nat) (cap : List AVal) (hf : ev f = .fn g cap) (r : AVal) (h' : Heap) (c : Gives F g (args.map ev ++ cap) h r h') (q : K r h') : XW F (.call f args) ev h K := by
  obtain ⟨n, hn⟩ := c
  refine ⟨n, r, h', ?_, q⟩
  simp only [execA, hf, cfOf, hn]; rfl

theorem x_pcall {f : Nat} {args : List Opd} {ev : Opd → AVal} {h : Heap} {K : AVal → Heap → Prop} (asx : List AVal) (hs : stripL (args.map ev) = some asx) (r r' : AVal) (h' : Heap) (c : Gives F f asx Heap.empty r h') (hp : purify h' r = some r') (q : K r' h) : XW F (.pcall f args) ev h K := by
  obtain ⟨n, hn⟩ := c
  refine ⟨n, r', h, ?_, q⟩
  simp only [execA, hs, cfOf, hn]
  simp [Res.asVal, hp]

/-- A call on rows that it borrows. -/
theorem x_pcall_borrow {f : Nat} {args : List Opd} {ev : Opd → AVal} {h : Heap} {K : AVal → Heap → Prop} (hn0 : stripL (args.map ev) = none) (asx : List AVal) (hs : purifyL h (args.map ev) = some asx) (r : AVal) (h' : Heap) (c : Gives F f asx Heap.empty r h') (hp : scal r = true) (q : K r h) : XW F (.pcall f args) ev h K := by
  obtain ⟨n, hn⟩ := c
  refine ⟨n, r, h, ?_, q⟩
  simp only [execA, hs, hn0, cfOf, hn]
  simp [Res.asVal, hp]

theorem gives_of {g : Nat} {fn : AFunc} (hf : F g = some (.comp fn)) {args : List AVal} {h : Heap} {r : AVal} {h' : Heap}
    (w : WP F fn.body (fn.slots.map fun s => (args[s]?).getD (.tup [])) h (fun e vs h1 => (e = .normal ∨ e = .ret) ∧ resultsA fn.results vs = r ∧ h1 = h')) : Gives F g args h r h' := by
  obtain ⟨n, e, vs, h1, hr, he, rfl, rfl⟩ := w
  refine ⟨n + 1, ?_⟩
  rw [run_call, hf]
  simp only [hr]
  rcases he with rfl | rfl <;> rfl

theorem gives_wp {g : Nat} {fn : AFunc} (hf : F g = some (.comp fn)) {args : List AVal} {h : Heap} {p : AVal → Heap → Prop}
    (w : WP F fn.body (fn.slots.map fun s => (args[s]?).getD (.tup [])) h (fun e vs h1 => (e = .normal ∨ e = .ret) ∧ p (resultsA fn.results vs) h1)) : ∃ r, ∃ h', Gives F g args h r h' ∧ p r h' := by
  obtain ⟨n, e, vs, h1, hr, he, hp⟩ := w
  refine ⟨_, h1, ⟨n + 1, ?_⟩, hp⟩
  rw [run_call, hf]
  simp only [hr]
  rcases he with rfl | rfl <;> rfl

theorem gives_hand {g : Nat} {s : List AVal → Heap → Option (AVal × Heap)} (hf : F g = some (.hand s)) {args : List AVal} {h : Heap} {r : AVal} {h' : Heap} (e : s args h = some (r, h')) : Gives F g args h r h' :=
  ⟨1, by rw [run_call, hf]; simp only [e]; rfl⟩

/-! ### where the control goes -/
section
variable {h : Heap} {b : ACode} {Q : AExit → List AVal → Heap → Prop} {vs : List AVal} {J : List AVal → Heap → Prop} {id i : Nat}
theorem sq_n (q : WP F b vs h Q) : sq F b Q .normal vs h := q
theorem sq_r (q : Q .ret vs h) : sq F b Q .ret vs h := q
theorem sq_e (q : Q (.exit i) vs h) : sq F b Q (.exit i) vs h := q
theorem bk_n (q : Q .normal vs h) : bk id Q .normal vs h := q
theorem bk_r (q : Q .ret vs h) : bk id Q .ret vs h := q
theorem bk_e (q : Q .normal vs h) : bk id Q (.exit id) vs h := by simp only [bk, if_true]; exact q
theorem bk_o (hne : i ≠ id) (q : Q (.exit i) vs h) : bk id Q (.exit i) vs h := by simp only [bk, hne, if_false]; exact q
theorem lp_n (q : J vs h) : lp J Q .normal vs h := q
theorem lp_r (q : Q .ret vs h) : lp J Q .ret vs h := q
theorem lp_e (q : Q (.exit i) vs h) : lp J Q (.exit i) vs h := q

theorem w_true {x : Opd} {a b : ACode} (hx : evOpd vs [] x = .bool true) (w : WP F a vs h Q) : WP F (.cond x a b) vs h Q := w_cond true hx (fun _ => w) (fun e => by simp at e)
theorem w_false {x : Opd} {a b : ACode} (hx : evOpd vs [] x = .bool false) (w : WP F b vs h Q) : WP F (.cond x a b) vs h Q := w_cond false hx (fun e => by simp at e) (fun _ => w)
/-- A branch on a decision. -/
theorem w_if {x : Opd} {a b : ACode} (p : Prop) [d : Decidable p] (hx : evOpd vs [] x = .bool (decide p)) (w1 : p → WP F a vs h Q) (w2 : ¬ p → WP F b vs h Q) : WP F (.cond x a b) vs h Q :=
  w_cond (decide p) hx (fun e => w1 (of_decide_eq_true e)) (fun e => w2 (of_decide_eq_false e))

theorem o_gt {d : ADst} {op : AOp} {g : Opd × Bool} {l : List AOper} {k : Nat} {ts : List AVal} {K : List AVal → Heap → Prop} (hb : wantA (evOpd vs ts) (some g) = some true)
    (w : OW F (⟨d, op, none⟩ :: l) k vs ts h K) : OW F (⟨d, op, some g⟩ :: l) k vs ts h K := o_guard true hb (fun _ => w) (fun e => by simp at e)
theorem o_gf {d : ADst} {op : AOp} {g : Opd × Bool} {l : List AOper} {k : Nat} {ts : List AVal} {K : List AVal → Heap → Prop} (hb : wantA (evOpd vs ts) (some g) = some false)
    (w : OW F (⟨d, .mov (.c (.tup [])), none⟩ :: l) k vs ts h K) : OW F (⟨d, op, some g⟩ :: l) k vs ts h K := o_guard false hb (fun e => by simp at e) (fun _ => w)
end

theorem gives_run {g : Nat} {args : List AVal} {h : Heap} {r : AVal} {h' : Heap} (c : Gives F g args h r h') : ∃ n, run F n (.call g args h) = some (.val r h') := c
theorem gives_mk {g : Nat} {args : List AVal} {h : Heap} {r : AVal} {h' : Heap} {n : Nat} (c : run F n (.call g args h) = some (.val r h')) : Gives F g args h r h' := ⟨n, c⟩

/-! ### continuations that the simplifier enters only when the value is known -/
def bindK (o : Option AVal) (K : AVal → Heap → Prop) (h : Heap) : Prop := ∃ r, o = some r ∧ K r h
def bindH (o : Option (AVal × Heap)) (K : AVal → Heap → Prop) : Prop := ∃ r h, o = some (r, h) ∧ K r h
def bindB (o : Option Bool) (K : Bool → Prop) : Prop := ∃ b, o = some b ∧ K b
def condB (v : AVal) (K : Bool → Prop) : Prop := ∃ t, v = .bool t ∧ K t
@[congr] theorem bindK_congr {o o' : Option AVal} {K : AVal → Heap → Prop} {h : Heap} (e : o = o') : bindK o K h = bindK o' K h := by rw [e]
@[congr] theorem bindH_congr {o o' : Option (AVal × Heap)} {K : AVal → Heap → Prop} (e : o = o') : bindH o K = bindH o' K := by rw [e]
@[congr] theorem bindB_congr {o o' : Option Bool} {K : Bool → Prop} (e : o = o') : bindB o K = bindB o' K := by rw [e]
@[congr] theorem condB_congr {v v' : AVal} {K : Bool → Prop} (e : v = v') : condB v K = condB v' K := by rw [e]
theorem bindK_some (r : AVal) (K : AVal → Heap → Prop) (h : Heap) : bindK (some r) K h = K r h := by
  apply propext
  constructor
  · rintro ⟨r', e, q⟩; cases e; exact q
  · intro q; exact ⟨r, rfl, q⟩
theorem bindH_some (r : AVal) (h : Heap) (K : AVal → Heap → Prop) : bindH (some (r, h)) K = K r h := by
  apply propext
  constructor
  · rintro ⟨r', h', e, q⟩; cases e; exact q
  · intro q; exact ⟨r, h, rfl, q⟩
theorem bindB_some (b : Bool) (K : Bool → Prop) : bindB (some b) K = K b := by
  apply propext
  constructor
  · rintro ⟨r', e, q⟩; cases e; exact q
  · intro q; exact ⟨b, rfl, q⟩
theorem condB_bool (b : Bool) (K : Bool → Prop) : condB (.bool b) K = K b := by
  apply propext
  constructor
  · rintro ⟨r', e, q⟩; cases e; exact q
  · intro q; exact ⟨b, rfl, q⟩

/-! ### the rules as equivalences -/
/-- A region from the place where the temporaries end. -/
def RW (F : Nat → Option AEnt) (l : List AOper) (vs ts : List AVal) (h : Heap) (K : List AVal → Heap → Prop) : Prop :=
  ∃ n s', foldA (cfOf F n) l ts.length ⟨vs, ts ++ List.replicate l.length .bad, h⟩ = some s' ∧ K s'.vs s'.h

def putV (d : ADst) (vs : List AVal) (r : AVal) : List AVal := match d with
  | .var i => vs.set i r
  | _ => vs
def putT (d : ADst) (r : AVal) : AVal := match d with
  | .tmp => r
  | _ => .bad

theorem WP_ops {l : List AOper} {vs : List AVal} {h : Heap} {Q : AExit → List AVal → Heap → Prop} : WP F (.ops l) vs h Q ↔ RW F l vs [] h (Q .normal) := by
  constructor
  · rintro ⟨n, e, vs', h', hr, hq⟩
    cases n with
    | zero => cases hr
    | succ n =>
      rw [run_ops] at hr
      split at hr
      · rename_i s hs
        simp only [Option.some.injEq, Res.code.injEq] at hr
        obtain ⟨rfl, rfl, rfl⟩ := hr
        exact ⟨n, s, by simpa using hs, hq⟩
      · simp at hr
  · rintro ⟨n, s', hr, hq⟩
    refine ⟨n + 1, .normal, s'.vs, s'.h, ?_, hq⟩
    simp only [List.length_nil, List.nil_append] at hr
    rw [run_ops, hr]

theorem RW_nil {vs ts : List AVal} {h : Heap} {K : List AVal → Heap → Prop} : RW F [] vs ts h K ↔ K vs h := by
  constructor
  · rintro ⟨n, s', hr, hq⟩
    simp only [foldA, Option.some.injEq] at hr
    subst hr; exact hq
  · intro q; exact ⟨0, _, rfl, q⟩

theorem put_pad (d : ADst) (vs ts : List AVal) (n : Nat) (h h' : Heap) (r : AVal) : (⟨vs, ts ++ List.replicate (n + 1) .bad, h⟩ : St).put ts.length d r h' = ⟨putV d vs r, (ts ++ [putT d r]) ++ List.replicate n .bad, h'⟩ := by
  cases d with
  | no => simp only [St.put, putV, putT, pad_keep]
  | tmp => simp only [St.put, putV, putT]; rw [pad_set _ _ _ _ rfl]
  | var i => simp only [St.put, putV, putT, pad_keep]

theorem RW_exec {d : ADst} {op : AOp} {l : List AOper} {vs ts : List AVal} {h : Heap} {K : List AVal → Heap → Prop} :
    RW F (⟨d, op, none⟩ :: l) vs ts h K ↔ XW F op (evOpd vs ts) h (fun r h' => RW F l (putV d vs r) (ts ++ [putT d r]) h' K) := by
  constructor
  · rintro ⟨n, s', hr, hq⟩
    simp only [foldA, stepA, wantA, evOpd_pad, List.length_cons] at hr
    split at hr
    · rename_i s1 hs1
      split at hs1
      · rename_i r h1 hx
        simp only [Option.some.injEq] at hs1
        rw [put_pad] at hs1
        subst hs1
        exact ⟨n, r, h1, hx, n, s', by simpa using hr, hq⟩
      · simp at hs1
    · simp at hr
  · rintro ⟨n, r, h1, hx, m, s', hf, hq⟩
    refine ⟨max n m, s', ?_, hq⟩
    simp only [foldA, stepA, wantA, evOpd_pad, List.length_cons]
    rw [execA_mono (cfOf_le fun _ _ e => run_mono (Nat.le_max_left n m) e) hx]
    simp only
    rw [put_pad]
    simp only [List.length_append, List.length_cons, List.length_nil] at hf
    exact foldA_mono (cfOf_le fun _ _ e => run_mono (Nat.le_max_right n m) e) hf

theorem RW_guard {d : ADst} {op : AOp} {g : Opd × Bool} {l : List AOper} {vs ts : List AVal} {h : Heap} {K : List AVal → Heap → Prop} :
    RW F (⟨d, op, some g⟩ :: l) vs ts h K ↔ bindB (wantA (evOpd vs ts) (some g)) (fun b => RW F (⟨d, if b then op else .mov (.c (.tup [])), none⟩ :: l) vs ts h K) := by
  constructor
  · rintro ⟨n, s', hr, hq⟩
    cases hw : wantA (evOpd vs ts) (some g) with
    | none => simp only [foldA, stepA, evOpd_pad, hw] at hr; simp at hr
    | some b =>
      refine ⟨b, rfl, n, s', ?_, hq⟩
      cases b with
      | true =>
        simp only [foldA, stepA, evOpd_pad, hw] at hr
        simp only [foldA, stepA, evOpd_pad, wantA, if_true]
        exact hr
      | false =>
        simp only [foldA, stepA, evOpd_pad, hw] at hr
        simp only [foldA, stepA, evOpd_pad, wantA, if_false, execA, evalA, evOpd, Bool.false_eq_true]
        exact hr
  · rintro ⟨b, hw, n, s', hr, hq⟩
    refine ⟨n, s', ?_, hq⟩
    cases b with
    | true =>
      simp only [foldA, stepA, evOpd_pad, hw]
      simp only [foldA, stepA, evOpd_pad, wantA, if_true] at hr
      exact hr
    | false =>
      simp only [foldA, stepA, evOpd_pad, hw]
      simp only [foldA, stepA, evOpd_pad, wantA, if_false, execA, evalA, evOpd, Bool.false_eq_true] at hr
      exact hr

theorem XW_eval {op : AOp} {ev : Opd → AVal} {h : Heap} {K : AVal → Heap → Prop} (hop : ∀ cf, execA cf op ev h = evalA op ev h) : XW F op ev h K ↔ ∃ r h', evalA op ev h = some (r, h') ∧ K r h' := by
  constructor
  · rintro ⟨n, r, h', hx, hq⟩
    rw [hop] at hx
    exact ⟨r, h', hx, hq⟩
  · rintro ⟨r, h', hx, hq⟩
    exact ⟨0, r, h', by rw [hop]; exact hx, hq⟩

theorem WP_seq {a b : ACode} {vs : List AVal} {h : Heap} {Q : AExit → List AVal → Heap → Prop} : WP F (.seq a b) vs h Q ↔ WP F a vs h (sq F b Q) := by
  constructor
  · rintro ⟨n, e, vs', h', hr, hq⟩
    cases n with
    | zero => cases hr
    | succ n =>
      rw [run_seq] at hr
      cases ha : run F n (.code a vs h) with
      | none => rw [ha] at hr; simp at hr
      | some x =>
        rw [ha] at hr
        cases x with
        | val r h1 => simp at hr
        | code e1 vs1 h1 =>
          refine ⟨n, e1, vs1, h1, ha, ?_⟩
          cases e1 with
          | normal => exact ⟨n, e, vs', h', hr, hq⟩
          | exit i => simp at hr; obtain ⟨rfl, rfl, rfl⟩ := hr; exact hq
          | ret => simp at hr; obtain ⟨rfl, rfl, rfl⟩ := hr; exact hq
  · exact w_seq

theorem WP_skip {vs : List AVal} {h : Heap} {Q : AExit → List AVal → Heap → Prop} : WP F .skip vs h Q ↔ Q .normal vs h := by
  constructor
  · rintro ⟨n, e, vs', h', hr, hq⟩
    cases n with
    | zero => cases hr
    | succ n => cases hr; exact hq
  · exact w_skip
theorem WP_ret {vs : List AVal} {h : Heap} {Q : AExit → List AVal → Heap → Prop} : WP F .ret vs h Q ↔ Q .ret vs h := by
  constructor
  · rintro ⟨n, e, vs', h', hr, hq⟩
    cases n with
    | zero => cases hr
    | succ n => cases hr; exact hq
  · exact w_ret
theorem WP_exit {id : Nat} {vs : List AVal} {h : Heap} {Q : AExit → List AVal → Heap → Prop} : WP F (.exit id) vs h Q ↔ Q (.exit id) vs h := by
  constructor
  · rintro ⟨n, e, vs', h', hr, hq⟩
    cases n with
    | zero => cases hr
    | succ n => cases hr; exact hq
  · exact w_exit

theorem WP_cond {x : Opd} {a b : ACode} {vs : List AVal} {h : Heap} {Q : AExit → List AVal → Heap → Prop} : WP F (.cond x a b) vs h Q ↔ condB (evOpd vs [] x) (fun t => WP F (if t then a else b) vs h Q) := by
  constructor
  · rintro ⟨n, e, vs', h', hr, hq⟩
    cases n with
    | zero => cases hr
    | succ n =>
      rw [run_cond] at hr
      split at hr
      · rename_i hx; exact ⟨true, hx, n, e, vs', h', hr, hq⟩
      · rename_i hx; exact ⟨false, hx, n, e, vs', h', hr, hq⟩
      · simp at hr
  · rintro ⟨t, hx, w⟩
    exact w_cond t hx (fun ht => by subst ht; exact w) (fun ht => by subst ht; exact w)

theorem sq_normal {b : ACode} {Q : AExit → List AVal → Heap → Prop} {vs : List AVal} {h : Heap} : sq F b Q .normal vs h ↔ WP F b vs h Q := Iff.rfl
theorem sq_ret {b : ACode} {Q : AExit → List AVal → Heap → Prop} {vs : List AVal} {h : Heap} : sq F b Q .ret vs h ↔ Q .ret vs h := Iff.rfl
theorem sq_exit {b : ACode} {i : Nat} {Q : AExit → List AVal → Heap → Prop} {vs : List AVal} {h : Heap} : sq F b Q (.exit i) vs h ↔ Q (.exit i) vs h := Iff.rfl
theorem bk_normal {id : Nat} {Q : AExit → List AVal → Heap → Prop} {vs : List AVal} {h : Heap} : bk id Q .normal vs h ↔ Q .normal vs h := Iff.rfl
theorem bk_ret {id : Nat} {Q : AExit → List AVal → Heap → Prop} {vs : List AVal} {h : Heap} : bk id Q .ret vs h ↔ Q .ret vs h := Iff.rfl
theorem bk_exit {id i : Nat} {Q : AExit → List AVal → Heap → Prop} {vs : List AVal} {h : Heap} : bk id Q (.exit i) vs h ↔ if i = id then Q .normal vs h else Q (.exit i) vs h := Iff.rfl
theorem lp_normal {J : List AVal → Heap → Prop} {Q : AExit → List AVal → Heap → Prop} {vs : List AVal} {h : Heap} : lp J Q .normal vs h ↔ J vs h := Iff.rfl
theorem lp_ret {J : List AVal → Heap → Prop} {Q : AExit → List AVal → Heap → Prop} {vs : List AVal} {h : Heap} : lp J Q .ret vs h ↔ Q .ret vs h := Iff.rfl
theorem lp_exit {J : List AVal → Heap → Prop} {i : Nat} {Q : AExit → List AVal → Heap → Prop} {vs : List AVal} {h : Heap} : lp J Q (.exit i) vs h ↔ Q (.exit i) vs h := Iff.rfl

theorem WP_block {id : Nat} {c : ACode} {vs : List AVal} {h : Heap} {Q : AExit → List AVal → Heap → Prop} : WP F (.block id c) vs h Q ↔ WP F c vs h (bk id Q) := by
  constructor
  · rintro ⟨n, e, vs', h', hr, hq⟩
    cases n with
    | zero => cases hr
    | succ n =>
      rw [run_block] at hr
      cases ha : run F n (.code c vs h) with
      | none => rw [ha] at hr; simp at hr
      | some x =>
        rw [ha] at hr
        cases x with
        | val r h1 => simp at hr
        | code e1 vs1 h1 =>
          refine ⟨n, e1, vs1, h1, ha, ?_⟩
          cases e1 with
          | normal => simp at hr; obtain ⟨rfl, rfl, rfl⟩ := hr; exact hq
          | ret => simp at hr; obtain ⟨rfl, rfl, rfl⟩ := hr; exact hq
          | exit i =>
            simp only [bk]
            simp only at hr
            split at hr
            · rename_i hi; rw [if_pos hi]; simp at hr; obtain ⟨rfl, rfl, rfl⟩ := hr; exact hq
            · rename_i hi; rw [if_neg hi]; simp at hr; obtain ⟨rfl, rfl, rfl⟩ := hr; exact hq
  · exact w_block

/-! ### what calls give, as functions -/
theorem gives_det {g : Nat} {args : List AVal} {h : Heap} {r1 r2 : AVal} {h1 h2 : Heap} (a : Gives F g args h r1 h1) (b : Gives F g args h r2 h2) : r1 = r2 ∧ h1 = h2 := by
  obtain ⟨n, hn⟩ := a
  obtain ⟨m, hm⟩ := b
  have e1 := run_mono (Nat.le_max_left n m) hn
  have e2 := run_mono (Nat.le_max_right n m) hm
  rw [e1] at e2
  simpa using e2

open Classical in
/-- What a call gives. -/
noncomputable def GV (F : Nat → Option AEnt) (g : Nat) (args : List AVal) (h : Heap) : Option (AVal × Heap) :=
  if e : ∃ p : AVal × Heap, Gives F g args h p.1 p.2 then some e.choose else none

theorem GV_of {g : Nat} {args : List AVal} {h : Heap} {r : AVal} {h' : Heap} (c : Gives F g args h r h') : GV F g args h = some (r, h') := by
  have e : ∃ p : AVal × Heap, Gives F g args h p.1 p.2 := ⟨(r, h'), c⟩
  unfold GV
  rw [dif_pos e]
  obtain ⟨h1, h2⟩ := gives_det e.choose_spec c
  rw [← h1, ← h2]

theorem of_GV {g : Nat} {args : List AVal} {h : Heap} {r : AVal} {h' : Heap} (c : GV F g args h = some (r, h')) : Gives F g args h r h' := by
  unfold GV at c
  split at c
  · rename_i e
    have := e.choose_spec
    simp only [Option.some.injEq] at c
    rw [c] at this
    exact this
  · simp at c

/-- What a call on a heap of its own gives, as a plain value. -/
noncomputable def PV (F : Nat → Option AEnt) (g : Nat) (asx : List AVal) : Option AVal := match GV F g asx Heap.empty with
  | some (r, h') => purify h' r
  | none => none

theorem XW_call {f : Opd} {args : List Opd} {ev : Opd → AVal} {h : Heap} {K : AVal → Heap → Prop} : XW F (.call f args) ev h K ↔ ∃ g cap, ev f = .fn g cap ∧ ∃ r h', GV F g (args.map ev ++ cap) h = some (r, h') ∧ K r h' := by
  constructor
  · rintro ⟨n, r, h', hx, hq⟩
    simp only [execA] at hx
    split at hx
    · rename_i g cap hf
      refine ⟨g, cap, hf, r, h', GV_of ⟨n, ?_⟩, hq⟩
      simp only [cfOf, Option.bind_eq_some_iff] at hx
      obtain ⟨x, h1, h2⟩ := hx
      cases x with
      | val r1 h1' => simp only [Res.asVal, Option.some.injEq, Prod.mk.injEq] at h2; rw [← h2.1, ← h2.2]; exact h1
      | code => simp [Res.asVal] at h2
    · simp at hx
  · rintro ⟨g, cap, hf, r, h', c, hq⟩
    exact x_call g cap hf r h' (of_GV c) hq

theorem XW_pcall {f : Nat} {args : List Opd} {ev : Opd → AVal} {h : Heap} {K : AVal → Heap → Prop} {asx : List AVal} (hs : stripL (args.map ev) = some asx) : XW F (.pcall f args) ev h K ↔ ∃ r, PV F f asx = some r ∧ K r h := by
  constructor
  · rintro ⟨n, r, h', hx, hq⟩
    simp only [execA, hs] at hx
    split at hx
    · rename_i r0 h0 hc
      simp only [Option.map_eq_some_iff, Prod.mk.injEq] at hx
      obtain ⟨r1, hp, rfl, rfl⟩ := hx
      refine ⟨r1, ?_, hq⟩
      have : Gives F f asx Heap.empty r0 h0 := by
        simp only [cfOf, Option.bind_eq_some_iff] at hc
        obtain ⟨x, h1, h2⟩ := hc
        cases x with
        | val r1 h1' => simp only [Res.asVal, Option.some.injEq, Prod.mk.injEq] at h2; rw [← h2.1, ← h2.2]; exact ⟨n, h1⟩
        | code => simp [Res.asVal] at h2
      unfold PV
      rw [GV_of this]
      exact hp
    · simp at hx
  · rintro ⟨r, hp, hq⟩
    unfold PV at hp
    split at hp
    · rename_i r0 h0 hc
      exact x_pcall asx hs r0 r h0 (of_GV hc) hp hq
    · simp at hp

theorem PV_of {g : Nat} {asx : List AVal} {r : AVal} {h' : Heap} {r' : AVal} (c : Gives F g asx Heap.empty r h') (hp : purify h' r = some r') : PV F g asx = some r' := by
  unfold PV
  rw [GV_of c]
  exact hp

theorem PV_wp {g : Nat} {fn : AFunc} (hf : F g = some (.comp fn)) {args : List AVal} {r : AVal}
    (w : WP F fn.body (fn.slots.map fun s => (args[s]?).getD (.tup [])) Heap.empty (fun e vs h1 => (e = .normal ∨ e = .ret) ∧ purify h1 (resultsA fn.results vs) = some r)) : PV F g args = some r := by
  obtain ⟨r0, h', c, hp⟩ := gives_wp (p := fun v h1 => purify h1 v = some r) hf w
  exact PV_of c hp

theorem GV_wp {g : Nat} {fn : AFunc} (hf : F g = some (.comp fn)) {args : List AVal} {h : Heap} {r : AVal} {h' : Heap}
    (w : WP F fn.body (fn.slots.map fun s => (args[s]?).getD (.tup [])) h (fun e vs h1 => (e = .normal ∨ e = .ret) ∧ resultsA fn.results vs = r ∧ h1 = h')) : GV F g args h = some (r, h') := GV_of (gives_of hf w)

/-- A call on plain values, or on rows that it borrows. -/
def PC (F : Nat → Option AEnt) (f : Nat) (o : Option (List AVal)) (args : List AVal) (h : Heap) (K : AVal → Heap → Prop) : Prop :=
  match o with
  | some asx => ∃ r, PV F f asx = some r ∧ K r h
  | none => ∃ asx, purifyL h args = some asx ∧ ∃ r h', GV F f asx Heap.empty = some (r, h') ∧ scal r = true ∧ K r h

theorem PC_some {f : Nat} {asx args : List AVal} {h : Heap} {K : AVal → Heap → Prop} : PC F f (some asx) args h K ↔ bindK (PV F f asx) K h := Iff.rfl
theorem PC_none {f : Nat} {args : List AVal} {h : Heap} {K : AVal → Heap → Prop} : PC F f none args h K ↔ ∃ asx, purifyL h args = some asx ∧ ∃ r h', GV F f asx Heap.empty = some (r, h') ∧ scal r = true ∧ K r h := Iff.rfl

theorem XW_pc {f : Nat} {args : List Opd} {ev : Opd → AVal} {h : Heap} {K : AVal → Heap → Prop} : XW F (.pcall f args) ev h K ↔ PC F f (stripL (args.map ev)) (args.map ev) h K := by
  cases hs : stripL (args.map ev) with
  | some asx => rw [XW_pcall hs, PC_some]; exact Iff.rfl
  | none =>
    rw [PC_none]
    constructor
    · rintro ⟨n, r, h', hx, hq⟩
      simp only [execA, hs] at hx
      split at hx
      · rename_i asx has
        split at hx
        · rename_i r0 h0 hc
          split at hx
          · rename_i hsc
            simp only [Option.some.injEq, Prod.mk.injEq] at hx
            obtain ⟨rfl, rfl⟩ := hx
            refine ⟨asx, has, r0, h0, GV_of ?_, hsc, hq⟩
            simp only [cfOf, Option.bind_eq_some_iff] at hc
            obtain ⟨x, h1, h2⟩ := hc
            cases x with
            | val r1 h1' => simp only [Res.asVal, Option.some.injEq, Prod.mk.injEq] at h2; rw [← h2.1, ← h2.2]; exact ⟨n, h1⟩
            | code => simp [Res.asVal] at h2
          · simp at hx
        · simp at hx
      · simp at hx
    · rintro ⟨asx, has, r, h', hc, hsc, hq⟩
      exact x_pcall_borrow hs asx has r h' (of_GV hc) hsc hq

attribute [irreducible] WP OW XW Gives sq bk lp RW GV PV PC

end Go.Abs

/-
  Rules for single operations on values that are not known.
-/
set_option linter.unusedSimpArgs false
set_option linter.unusedVariables false
namespace Go.Abs

variable {F : Nat → Option AEnt} {ev : Opd → AVal} {h : Heap} {K : AVal → Heap → Prop}

theorem wrap_in64 {x : Int} (h1 : -9223372036854775808 ≤ x) (h2 : x < 9223372036854775808) : IntKind.i64.wrap x = x := IntWalk.i64_in x ⟨h1, by omega⟩

/-! ### moves and numbers -/
theorem x_mov {x : Opd} (q : K (ev x) h) : XW F (.mov x) ev h K := x_eval _ _ rfl q
theorem x_len {x : Opd} {xs : List AVal} {t : Tok} (hx : ev x = .sl xs t) (q : K (.int .i64 xs.length) h) : XW F (.len x) ev h K := x_eval _ _ (by simp only [evalA, hx]) q
theorem x_len_ref {x : Opd} {id off n sz : Nat} (hx : ev x = .ref id off n sz) (q : K (.int .i64 n) h) : XW F (.len x) ev h K := x_eval _ _ (by simp only [evalA, hx]) q
theorem x_slen {x : Opd} {s : List UInt8} (hx : ev x = .str s) (q : K (.int .i64 s.length) h) : XW F (.slen x) ev h K := x_eval _ _ (by simp only [evalA, hx]) q
theorem x_ext {x : Opd} {vs : List AVal} {i : Nat} {r : AVal} (hx : ev x = .tup vs) (hi : vs[i]? = some r) (q : K r h) : XW F (.ext x i) ev h K := x_eval _ _ (by simp only [evalA, hx, hi]; rfl) q
theorem x_add {x y : Opd} {a b : Int} (hx : ev x = .int .i64 a) (hy : ev y = .int .i64 b) (h1 : -9223372036854775808 ≤ a + b) (h2 : a + b < 9223372036854775808) (q : K (.int .i64 (a + b)) h) : XW F (.bin .add .arith x y) ev h K :=
  x_eval _ _ (by simp [evalA, hx, hy, binA, intBin, wrap_in64 h1 h2]) q
theorem x_sub {x y : Opd} {a b : Int} (hx : ev x = .int .i64 a) (hy : ev y = .int .i64 b) (h1 : -9223372036854775808 ≤ a - b) (h2 : a - b < 9223372036854775808) (q : K (.int .i64 (a - b)) h) : XW F (.bin .sub .arith x y) ev h K :=
  x_eval _ _ (by simp [evalA, hx, hy, binA, intBin, wrap_in64 h1 h2]) q
theorem x_mul {x y : Opd} {a b : Int} (hx : ev x = .int .i64 a) (hy : ev y = .int .i64 b) (h1 : -9223372036854775808 ≤ a * b) (h2 : a * b < 9223372036854775808) (q : K (.int .i64 (a * b)) h) : XW F (.bin .mul .arith x y) ev h K :=
  x_eval _ _ (by simp [evalA, hx, hy, binA, intBin, wrap_in64 h1 h2]) q
theorem x_quo {x y : Opd} {a b : Int} (hx : ev x = .int .i64 a) (hy : ev y = .int .i64 b) (h0 : b ≠ 0) (h1 : -9223372036854775808 ≤ a.tdiv b) (h2 : a.tdiv b < 9223372036854775808) (q : K (.int .i64 (a.tdiv b)) h) : XW F (.bin .quo .arith x y) ev h K :=
  x_eval _ _ (by simp [evalA, hx, hy, binA, intBin, wrap_in64 h1 h2, h0]) q
theorem x_rem {x y : Opd} {a b : Int} (hx : ev x = .int .i64 a) (hy : ev y = .int .i64 b) (h0 : b ≠ 0) (q : K (.int .i64 (a.tmod b)) h) : XW F (.bin .rem .arith x y) ev h K :=
  x_eval _ _ (by simp [evalA, hx, hy, binA, intBin, h0]) q
theorem x_neg {x : Opd} {a : Int} (hx : ev x = .int .i64 a) (h1 : -9223372036854775808 ≤ -a) (h2 : -a < 9223372036854775808) (q : K (.int .i64 (-a)) h) : XW F (.un .neg x) ev h K :=
  x_eval _ _ (by simp [evalA, hx, unA, wrap_in64 h1 h2]) q
theorem x_lss {x y : Opd} {k : IntKind} {a b : Int} (hx : ev x = .int k a) (hy : ev y = .int k b) (q : K (.bool (decide (a < b))) h) : XW F (.bin .lss .arith x y) ev h K := x_eval _ _ (by simp [evalA, hx, hy, binA, intBin]) q
theorem x_leq {x y : Opd} {k : IntKind} {a b : Int} (hx : ev x = .int k a) (hy : ev y = .int k b) (q : K (.bool (decide (a ≤ b))) h) : XW F (.bin .leq .arith x y) ev h K := x_eval _ _ (by simp [evalA, hx, hy, binA, intBin]) q
theorem x_gtr {x y : Opd} {k : IntKind} {a b : Int} (hx : ev x = .int k a) (hy : ev y = .int k b) (q : K (.bool (decide (b < a))) h) : XW F (.bin .gtr .arith x y) ev h K := x_eval _ _ (by simp [evalA, hx, hy, binA, intBin]) q
theorem x_geq {x y : Opd} {k : IntKind} {a b : Int} (hx : ev x = .int k a) (hy : ev y = .int k b) (q : K (.bool (decide (b ≤ a))) h) : XW F (.bin .geq .arith x y) ev h K := x_eval _ _ (by simp [evalA, hx, hy, binA, intBin]) q
theorem x_eql {x y : Opd} {k : IntKind} {a b : Int} (hx : ev x = .int k a) (hy : ev y = .int k b) (q : K (.bool (decide (a = b))) h) : XW F (.bin .eql .arith x y) ev h K := x_eval (.bool (decide (a = b))) h (by simp [evalA, hx, hy, binA, intBin]; by_cases e : a = b <;> simp [e]) q
theorem x_neq {x y : Opd} {k : IntKind} {a b : Int} (hx : ev x = .int k a) (hy : ev y = .int k b) (q : K (.bool (decide (a ≠ b))) h) : XW F (.bin .neq .arith x y) ev h K := x_eval (.bool (decide (a ≠ b))) h (by simp [evalA, hx, hy, binA, intBin]; by_cases e : a = b <;> simp [e]) q
theorem x_lss_t {x y : Opd} {k : IntKind} {a b : Int} (hx : ev x = .int k a) (hy : ev y = .int k b) (hc : a < b) (q : K (.bool true) h) : XW F (.bin .lss .arith x y) ev h K := x_lss hx hy (by rw [decide_eq_true hc]; exact q)
theorem x_lss_f {x y : Opd} {k : IntKind} {a b : Int} (hx : ev x = .int k a) (hy : ev y = .int k b) (hc : b ≤ a) (q : K (.bool false) h) : XW F (.bin .lss .arith x y) ev h K := x_lss hx hy (by rw [decide_eq_false (by omega)]; exact q)
theorem x_leq_t {x y : Opd} {k : IntKind} {a b : Int} (hx : ev x = .int k a) (hy : ev y = .int k b) (hc : a ≤ b) (q : K (.bool true) h) : XW F (.bin .leq .arith x y) ev h K := x_leq hx hy (by rw [decide_eq_true hc]; exact q)
theorem x_leq_f {x y : Opd} {k : IntKind} {a b : Int} (hx : ev x = .int k a) (hy : ev y = .int k b) (hc : b < a) (q : K (.bool false) h) : XW F (.bin .leq .arith x y) ev h K := x_leq hx hy (by rw [decide_eq_false (by omega)]; exact q)
theorem x_gtr_t {x y : Opd} {k : IntKind} {a b : Int} (hx : ev x = .int k a) (hy : ev y = .int k b) (hc : b < a) (q : K (.bool true) h) : XW F (.bin .gtr .arith x y) ev h K := x_gtr hx hy (by rw [decide_eq_true hc]; exact q)
theorem x_gtr_f {x y : Opd} {k : IntKind} {a b : Int} (hx : ev x = .int k a) (hy : ev y = .int k b) (hc : a ≤ b) (q : K (.bool false) h) : XW F (.bin .gtr .arith x y) ev h K := x_gtr hx hy (by rw [decide_eq_false (by omega)]; exact q)
theorem x_geq_t {x y : Opd} {k : IntKind} {a b : Int} (hx : ev x = .int k a) (hy : ev y = .int k b) (hc : b ≤ a) (q : K (.bool true) h) : XW F (.bin .geq .arith x y) ev h K := x_geq hx hy (by rw [decide_eq_true hc]; exact q)
theorem x_geq_f {x y : Opd} {k : IntKind} {a b : Int} (hx : ev x = .int k a) (hy : ev y = .int k b) (hc : a < b) (q : K (.bool false) h) : XW F (.bin .geq .arith x y) ev h K := x_geq hx hy (by rw [decide_eq_false (by omega)]; exact q)
theorem x_eql_t {x y : Opd} {k : IntKind} {a b : Int} (hx : ev x = .int k a) (hy : ev y = .int k b) (hc : a = b) (q : K (.bool true) h) : XW F (.bin .eql .arith x y) ev h K := x_eql hx hy (by rw [decide_eq_true hc]; exact q)
theorem x_eql_f {x y : Opd} {k : IntKind} {a b : Int} (hx : ev x = .int k a) (hy : ev y = .int k b) (hc : a ≠ b) (q : K (.bool false) h) : XW F (.bin .eql .arith x y) ev h K := x_eql hx hy (by rw [decide_eq_false (by omega)]; exact q)
theorem x_neq_t {x y : Opd} {k : IntKind} {a b : Int} (hx : ev x = .int k a) (hy : ev y = .int k b) (hc : a ≠ b) (q : K (.bool true) h) : XW F (.bin .neq .arith x y) ev h K := x_neq hx hy (by rw [decide_eq_true hc]; exact q)
theorem x_neq_f {x y : Opd} {k : IntKind} {a b : Int} (hx : ev x = .int k a) (hy : ev y = .int k b) (hc : a = b) (q : K (.bool false) h) : XW F (.bin .neq .arith x y) ev h K := x_neq hx hy (by rw [decide_eq_false (by omega)]; exact q)
theorem x_eql_s {x y : Opd} {a b : List UInt8} (hx : ev x = .str a) (hy : ev y = .str b) (q : K (.bool (decide (a = b))) h) : XW F (.bin .eql .arith x y) ev h K := x_eval (.bool (decide (a = b))) h (by simp [evalA, hx, hy, binA, strBin]; by_cases e : a = b <;> simp [e]) q
theorem x_neq_s {x y : Opd} {a b : List UInt8} (hx : ev x = .str a) (hy : ev y = .str b) (q : K (.bool (decide (a ≠ b))) h) : XW F (.bin .neq .arith x y) ev h K := x_eval (.bool (decide (a ≠ b))) h (by simp [evalA, hx, hy, binA, strBin]; by_cases e : a = b <;> simp [e]) q
theorem x_add_s {x y : Opd} {a b : List UInt8} (hx : ev x = .str a) (hy : ev y = .str b) (hl : a.length + b.length ≤ 9223372036854775807) (q : K (.str (a ++ b)) h) : XW F (.bin .add .arith x y) ev h K := x_eval _ _ (by simp [evalA, hx, hy, binA, strBin, hl]) q
theorem x_not {x : Opd} {a : Bool} (hx : ev x = .bool a) (q : K (.bool (!a)) h) : XW F (.un .not x) ev h K := x_eval _ _ (by simp [evalA, hx, unA]) q
theorem x_pick_t {c a b : Opd} (hc : ev c = .bool true) (q : K (ev a) h) : XW F (.pick c a b) ev h K := x_eval _ _ (by simp [evalA, hc]) q
theorem x_pick_f {c a b : Opd} (hc : ev c = .bool false) (q : K (ev b) h) : XW F (.pick c a b) ev h K := x_eval _ _ (by simp [evalA, hc]) q

/-! ### lists, rows -/
theorem x_iaddr {sz : Nat} {x i : Opd} {xs : List AVal} {t : Tok} {k : IntKind} {n : Int} {y : AVal} (hx : ev x = .sl xs t) (hi : ev i = .int k n) (h0 : 0 ≤ n) (hy : xs[n.toNat]? = some y) (hs : y.cells.length = sz) (q : K (.rp y.cells) h) : XW F (.iaddr sz x i) ev h K := by
  have hlt := (List.getElem?_eq_some_iff.1 hy).1
  exact x_eval _ _ (by simp only [evalA, hx, hi]; rw [if_pos ⟨h0, by omega⟩]; simp only [hy, hs, if_true]) q
theorem x_iaddr_ref {sz : Nat} {x i : Opd} {id off len : Nat} {k : IntKind} {n : Int} (hx : ev x = .ref id off len sz) (hi : ev i = .int k n) (h0 : 0 ≤ n) (h1 : n < len) (q : K (.ptr id (off + n.toNat * sz)) h) : XW F (.iaddr sz x i) ev h K :=
  x_eval _ _ (by simp only [evalA, hx, hi, and_true]; rw [if_pos ⟨h0, h1⟩]) q
theorem x_faddr_rp {off : Nat} {x : Opd} {cs : List AVal} (hx : ev x = .rp cs) (q : K (.rp (cs.drop off)) h) : XW F (.faddr off x) ev h K := x_eval _ _ (by simp [evalA, hx]) q
theorem x_faddr_ptr {off : Nat} {x : Opd} {id o : Nat} (hx : ev x = .ptr id o) (q : K (.ptr id (o + off)) h) : XW F (.faddr off x) ev h K := x_eval _ _ (by simp [evalA, hx]) q
theorem x_load_rp {n : Nat} {ag : Bool} {x : Opd} {cs : List AVal} {r : AVal} (hx : ev x = .rp cs) (hn : n ≤ cs.length) (hr : mk ag (cs.take n) = some r) (q : K r h) : XW F (.load n ag x) ev h K :=
  x_eval _ _ (by simp [evalA, hx, loadA, hn, hr]) q
theorem x_load_ptr {n : Nat} {ag : Bool} {x : Opd} {id off : Nat} {mu : Bool} {s : Nat} {a : Bool} {cs : List AVal} {r : AVal} (hx : ev x = .ptr id off) (hg : h.get id = some (.row mu s a cs)) (hn : off + n ≤ cs.length) (hr : mk ag ((cs.drop off).take n) = some r) (q : K r h) : XW F (.load n ag x) ev h K :=
  x_eval _ _ (by simp [evalA, hx, loadA, hg, hn, hr]) q
theorem x_store {n : Nat} {a x : Opd} {id off : Nat} {s : Nat} {ag : Bool} {cs : List AVal} (ha : ev a = .ptr id off) (hg : h.get id = some (.row true s ag cs)) (hl : (ev x).cells.length = n) (ho : (ev x).cells.all AVal.one = true) (hn : off + n ≤ cs.length)
    (q : K (.tup []) (h.put id (some (.row true s ag (setCells cs off (ev x).cells))))) : XW F (.store n a x) ev h K :=
  x_eval _ _ (by simp [evalA, ha, storeA, hg, hl, hn, ho]) q
theorem x_nilc_ptr {x : Opd} {id o : Nat} (hx : ev x = .ptr id o) (q : K (.ptr id o) h) : XW F (.nilc x) ev h K := x_eval _ _ (by simp [evalA, hx]) q
theorem x_nilc_fn {x : Opd} {f : Nat} {c : List AVal} (hx : ev x = .fn f c) (q : K (.fn f c) h) : XW F (.nilc x) ev h K := x_eval _ _ (by simp [evalA, hx]) q
theorem x_field {off n : Nat} {ag : Bool} {x : Opd} {cs : List AVal} {r : AVal} (hx : ev x = .agg cs) (hn : off + n ≤ cs.length) (hr : mk ag ((cs.drop off).take n) = some r) (q : K r h) : XW F (.field off n ag x) ev h K :=
  x_eval _ _ (by simp [evalA, hx, hn, hr]) q
theorem x_sidx {x i : Opd} {s : List UInt8} {k : IntKind} {n : Int} {b : UInt8} (hx : ev x = .str s) (hi : ev i = .int k n) (h0 : 0 ≤ n) (hb : s[n.toNat]? = some b) (q : K (.int .u8 b.toNat) h) : XW F (.sidx x i) ev h K :=
  x_eval _ _ (by simp [evalA, hx, hi, h0, hb]) q

/-- An element that lies in a slice by value: cells that bear no right, of one size. -/
def Elem (ag : Bool) (sz : Nat) (y : AVal) : Prop := mk ag y.cells = some y ∧ y.cells.length = sz ∧ stripL y.cells = some y.cells

theorem stripL_append : ∀ {a b a' b' : List AVal}, stripL a = some a' → stripL b = some b' → stripL (a ++ b) = some (a' ++ b')
  | [], b, a', b', h1, h2 => by simp [stripL] at h1; subst h1; simpa using h2
  | x :: a, b, a', b', h1, h2 => by
    simp only [stripL] at h1
    split at h1
    · rename_i y ys e1 e2
      simp at h1; subst h1
      simp only [List.cons_append, stripL, e1, stripL_append e2 h2]
    · simp at h1

theorem strip_flat {ag : Bool} {sz : Nat} : ∀ {ys : List AVal}, (∀ y ∈ ys, Elem ag sz y) → stripL (flat ys) = some (flat ys)
  | [], _ => rfl
  | y :: ys, hy => by
    simp only [flat, List.flatMap_cons]
    exact stripL_append (hy y (by simp)).2.2 (strip_flat (fun z hz => hy z (by simp [hz])))

theorem flat_length {ag : Bool} {sz : Nat} : ∀ {ys : List AVal}, (∀ y ∈ ys, Elem ag sz y) → (flat ys).length = ys.length * sz
  | [], _ => by simp [flat]
  | y :: ys, hy => by
    have := flat_length (ys := ys) (fun z hz => hy z (by simp [hz]))
    simp only [flat, List.flatMap_cons, List.length_append, List.length_cons] at this ⊢
    rw [this, (hy y (by simp)).2.1, Nat.add_mul]; omega

theorem chunk_flat {ag : Bool} {sz : Nat} : ∀ {ys : List AVal}, (∀ y ∈ ys, Elem ag sz y) → chunk sz ag ys.length (flat ys) = some ys
  | [], _ => rfl
  | y :: ys, hy => by
    have h1 := hy y (by simp)
    have ht : (flat (y :: ys)).take sz = y.cells := by
      simp only [flat, List.flatMap_cons]
      rw [← h1.2.1, List.take_left']; rfl
    have hd : (flat (y :: ys)).drop sz = flat ys := by
      simp only [flat, List.flatMap_cons]
      rw [← h1.2.1, List.drop_left']; rfl
    have hc := chunk_flat (ys := ys) (fun z hz => hy z (by simp [hz]))
    simp only [List.length_cons, chunk, ht, hd, h1.1, hc, h1.2.1, if_true]

/-- A list that may grow: nil and empty, or with its right. -/
def Lst (h : Heap) (ty sz : Nat) (xs : List AVal) (v : AVal) : Prop := (xs = [] ∧ v = .sl [] .nil) ∨ ∃ id, v = .sl xs (.own id sz) ∧ h.get id = some (.tok ty) ∧ id < h.next

/-- A token that gives no right. -/
def Pt (t : Tok) : Prop := t = .none ∨ t = .nil

theorem strip_pt {t : Tok} (ht : Pt t) {xs : List AVal} : strip (.sl xs t) = some (.sl xs t) := by
  rcases ht with rfl | rfl <;> rfl

theorem purify_pt {t : Tok} (ht : Pt t) {xs : List AVal} {h : Heap} : purify h (.sl xs t) = some (.sl xs t) := by
  rcases ht with rfl | rfl <;> rfl

theorem roomOk_of {n bytes : Nat} (h1 : n ≤ 1000000) (h2 : bytes ≤ 10000) : roomOk n bytes = true := by
  simp only [roomOk, Bool.and_eq_true, decide_eq_true_eq]
  refine ⟨by omega, ?_⟩
  calc (4 * n + 1024) * bytes ≤ (4 * 1000000 + 1024) * 10000 := Nat.mul_le_mul (by omega) h2
    _ ≤ 281474976710656 := by decide

theorem x_append {ty bytes sz : Nat} {ag : Bool} {x y : Opd} {xs ys : List AVal} {t2 : Tok} (hL : Lst h ty sz xs (ev x)) (hy : ev y = .sl ys t2) (he : ∀ e ∈ ys, Elem ag sz e) (room : roomOk (xs.length + ys.length) bytes = true) (hsz : 0 < sz) (hsm : small sz = true)
    (q : ∀ v' h', Lst h' ty sz (xs ++ ys) v' → h.next ≤ h'.next → (∀ j o, h.get j = some o → (∀ xs', ev x ≠ .sl xs' (.own j sz)) → h'.get j = some o) → K v' h') : XW F (.append false ty bytes sz ag x y) ev h K := by
  have hel : elemsA h sz (.sl ys t2) = some (flat ys) := by
    simp only [elemsA]
    rw [if_pos]
    intro e he'
    exact (he e (List.mem_of_head? he')).2.1
  have hst := strip_flat he
  have hch := chunk_flat he
  by_cases hm : ys.length = 0
  · have hys : ys = [] := List.eq_nil_of_length_eq_zero hm
    subst hys
    refine x_eval (ev x) h ?_ (q _ _ (by simpa using hL) (Nat.le_refl _) (fun j o hj _ => hj))
    simp only [evalA, appendA, hy, lenA, hel, List.length_nil]
    rcases hL with ⟨rfl, e⟩ | ⟨id, e, _, _⟩ <;> rw [e] <;> rfl
  · rcases hL with ⟨rfl, e⟩ | ⟨id, e, hg, hid⟩
    · refine x_eval (.sl ys (.own h.next sz)) (h.push (.tok ty)) ?_ (q _ _ (.inr ⟨h.next, rfl, ?_, ?_⟩) ?_ ?_)
      · simp only [evalA, appendA, hy, lenA, hel, e]
        rw [if_neg hm]
        rw [List.length_nil, Nat.zero_add] at room
        simp [room, hsz, hsm, hst, hch]
      · simp [Heap.get, Heap.push]
      · simp [Heap.push]
      · simp [Heap.push]
      · intro j o hj _
        have hlt : j < h.next := by
          unfold Heap.get at hj; split at hj
          · assumption
          · simp at hj
        have e1 : h.next + 1 - 1 - j = (h.next - 1 - j) + 1 := by omega
        simp only [Heap.get, Heap.push, e1, List.getElem?_cons_succ] at hj ⊢
        rw [if_pos hlt] at hj
        rw [if_pos (by omega)]; exact hj
    · refine x_eval (.sl (xs ++ ys) (.own h.next sz)) ((h.put id none).push (.tok ty)) ?_ (q _ _ (.inr ⟨h.next, rfl, ?_, ?_⟩) ?_ ?_)
      · simp only [evalA, appendA, hy, lenA, hel, e]
        rw [if_neg hm]
        simp [room, hsz, hsm, hst, hch, hg]
      · simp [Heap.get, Heap.push, Heap.put, hid]
      · simp [Heap.push, Heap.put, hid]
      · simp only [Heap.push, Heap.put, hid, if_true]; omega
      · intro j o hj hne
        have hji : j ≠ id := fun e' => by subst e'; exact hne xs e
        have hlt : j < h.next := by
          unfold Heap.get at hj; split at hj
          · assumption
          · simp at hj
        have e1 : h.next + 1 - 1 - j = (h.next - 1 - j) + 1 := by omega
        simp only [Heap.get, Heap.push, Heap.put, hid, if_true, e1, List.getElem?_cons_succ] at hj ⊢
        rw [if_pos hlt] at hj
        rw [if_pos (by omega), List.getElem?_set_ne (by omega)]; exact hj

/-! ### calls that see plain values alone -/

/-- A call on a heap of its own gives a plain value. -/
def PF (F : Nat → Option AEnt) (f : Nat) (asx : List AVal) (r : AVal) : Prop := ∃ r0 h', Gives F f asx Heap.empty r0 h' ∧ purify h' r0 = some r

theorem pf_of {f : Nat} {asx : List AVal} {r : AVal} {h' : Heap} (c : Gives F f asx Heap.empty r h') {r' : AVal} (hp : purify h' r = some r') : PF F f asx r' := ⟨r, h', c, hp⟩

theorem x_pf {f : Nat} {args : List Opd} {asx : List AVal} {r : AVal} (hs : stripL (args.map ev) = some asx) (c : PF F f asx r) (q : K r h) : XW F (.pcall f args) ev h K := by
  obtain ⟨r0, h', c1, c2⟩ := c
  exact x_pcall asx hs r0 r h' c1 c2 q

theorem x_pf0 {f : Nat} {r : AVal} (c : PF F f [] r) (q : K r h) : XW F (.pcall f []) ev h K := x_pf rfl c q
theorem x_pf1 {f : Nat} {x1 : Opd} {a1 r : AVal} (h1 : strip (ev x1) = some a1) (c : PF F f [a1] r) (q : K r h) : XW F (.pcall f [x1]) ev h K := x_pf (by simp only [List.map, stripL, h1]) c q
theorem x_pf2 {f : Nat} {x1 x2 : Opd} {a1 a2 r : AVal} (h1 : strip (ev x1) = some a1) (h2 : strip (ev x2) = some a2) (c : PF F f [a1, a2] r) (q : K r h) : XW F (.pcall f [x1, x2]) ev h K := x_pf (by simp only [List.map, stripL, h1, h2]) c q
theorem x_pf3 {f : Nat} {x1 x2 x3 : Opd} {a1 a2 a3 r : AVal} (h1 : strip (ev x1) = some a1) (h2 : strip (ev x2) = some a2) (h3 : strip (ev x3) = some a3) (c : PF F f [a1, a2, a3] r) (q : K r h) : XW F (.pcall f [x1, x2, x3]) ev h K :=
  x_pf (by simp only [List.map, stripL, h1, h2, h3]) c q
theorem x_pf4 {f : Nat} {x1 x2 x3 x4 : Opd} {a1 a2 a3 a4 r : AVal} (h1 : strip (ev x1) = some a1) (h2 : strip (ev x2) = some a2) (h3 : strip (ev x3) = some a3) (h4 : strip (ev x4) = some a4) (c : PF F f [a1, a2, a3, a4] r) (q : K r h) : XW F (.pcall f [x1, x2, x3, x4]) ev h K :=
  x_pf (by simp only [List.map, stripL, h1, h2, h3, h4]) c q

theorem pf_wp {g : Nat} {fn : AFunc} (hf : F g = some (.comp fn)) {args : List AVal} {r : AVal}
    (w : WP F fn.body (fn.slots.map fun s => (args[s]?).getD (.tup [])) Heap.empty (fun e vs h1 => (e = .normal ∨ e = .ret) ∧ purify h1 (resultsA fn.results vs) = some r)) : PF F g args r := by
  obtain ⟨r0, h', c, hp⟩ := gives_wp (p := fun v h1 => purify h1 v = some r) hf w
  exact ⟨r0, h', c, hp⟩

/-! ### variables on the heap -/
theorem get_push (h : Heap) (o : Obj) : (h.push o).get h.next = some o := by simp [Heap.get, Heap.push]
theorem get_push_old {h : Heap} {o o' : Obj} {j : Nat} (hj : h.get j = some o') : (h.push o).get j = some o' := by
  have hlt : j < h.next := by
    unfold Heap.get at hj; split at hj
    · assumption
    · simp at hj
  have e1 : h.next + 1 - 1 - j = (h.next - 1 - j) + 1 := by omega
  simp only [Heap.get, Heap.push, e1, List.getElem?_cons_succ] at hj ⊢
  rw [if_pos hlt] at hj
  rw [if_pos (by omega)]; exact hj
theorem get_lt {h : Heap} {j : Nat} {o : Obj} (hj : h.get j = some o) : j < h.next := by
  unfold Heap.get at hj; split at hj
  · assumption
  · simp at hj
theorem put_push (h : Heap) (o o' : Obj) : (h.push o).put h.next (some o') = h.push o' := by
  simp [Heap.put, Heap.push]
theorem put_push_old {h : Heap} {o : Obj} {j : Nat} (o' : Option Obj) (hj : j < h.next) : (h.push o).put j o' = (h.put j o').push o := by
  have e1 : h.next + 1 - 1 - j = (h.next - 1 - j) + 1 := by omega
  simp only [Heap.put, Heap.push, hj, if_true, e1, List.set_cons_succ]
  rw [if_pos (by omega)]

theorem x_alloc {ty sz : Nat} {ag : Bool} {z : List AVal} (hz : z.length = sz) (ho : z.all AVal.one = true) (q : K (.ptr h.next 0) (h.push (.row true (typed ty) ag z))) : XW F (.alloc ty sz ag z) ev h K :=
  x_eval _ _ (by simp only [evalA]; rw [if_pos ⟨hz, ho⟩]) q
theorem x_box {sz : Nat} {ag : Bool} {x : Opd} (hz : (ev x).cells.length = sz) (ho : (ev x).cells.all AVal.one = true) (q : K (.ptr h.next 0) (h.push (.row true 0 ag (ev x).cells))) : XW F (.box sz ag x) ev h K :=
  x_eval _ _ (by simp only [evalA]; rw [if_pos ⟨hz, ho⟩]) q
/-- A load from the newest row. -/
theorem x_load_top {n : Nat} {ag : Bool} {x : Opd} {off : Nat} {mu : Bool} {s : Nat} {a : Bool} {cs : List AVal} {r : AVal} (hx : ev x = .ptr h.next off) (hn : off + n ≤ cs.length) (hr : mk ag ((cs.drop off).take n) = some r) (q : K r (h.push (.row mu s a cs))) : XW F (.load n ag x) ev (h.push (.row mu s a cs)) K :=
  x_load_ptr hx (get_push _ _) hn hr q
theorem x_store_top {n : Nat} {a x : Opd} {off : Nat} {s : Nat} {ag : Bool} {cs : List AVal} (ha : ev a = .ptr h.next off) (hl : (ev x).cells.length = n) (ho : (ev x).cells.all AVal.one = true) (hn : off + n ≤ cs.length)
    (q : K (.tup []) (h.push (.row true s ag (setCells cs off (ev x).cells)))) : XW F (.store n a x) ev (h.push (.row true s ag cs)) K :=
  x_store ha (get_push _ _) hl ho hn (by rw [put_push]; exact q)

end Go.Abs

/-
  Single operations as equivalences, for the simplifier: a region is walked by one call of it.
-/
set_option linter.unusedSimpArgs false
set_option linter.unusedVariables false
namespace Go.Abs

variable {F : Nat → Option AEnt} {ev : Opd → AVal} {h : Heap} {K : AVal → Heap → Prop}

theorem ev_v (vs ts : List AVal) (i : Nat) : evOpd vs ts (.v i) = (vs[i]?).getD .bad := _root_.id rfl
theorem ev_t (vs ts : List AVal) (i : Nat) : evOpd vs ts (.t i) = (ts[i]?).getD .bad := _root_.id rfl
theorem ev_c (vs ts : List AVal) (x : AVal) : evOpd vs ts (.c x) = x := _root_.id rfl
theorem putV_tmp (vs : List AVal) (r : AVal) : putV .tmp vs r = vs := _root_.id rfl
theorem putV_no (vs : List AVal) (r : AVal) : putV .no vs r = vs := _root_.id rfl
theorem putV_var (vs : List AVal) (r : AVal) (i : Nat) : putV (.var i) vs r = vs.set i r := _root_.id rfl
theorem putT_tmp (r : AVal) : putT .tmp r = r := _root_.id rfl
theorem putT_no (r : AVal) : putT .no r = .bad := _root_.id rfl
theorem putT_var (r : AVal) (i : Nat) : putT (.var i) r = .bad := _root_.id rfl
theorem want_bool (vs ts : List AVal) (x : Opd) (b c : Bool) (hx : evOpd vs ts x = .bool c) : wantA (evOpd vs ts) (some (x, b)) = some (c == b) := by simp [wantA, hx]

/-- The decision of a guard. -/
def wantV : AVal → Bool → Option Bool
  | .bool c, b => some (c == b)
  | .tup [], _ => some false
  | _, _ => none
theorem want_V (vs ts : List AVal) (x : Opd) (b : Bool) : wantA (evOpd vs ts) (some (x, b)) = wantV (evOpd vs ts x) b := by
  simp only [wantA, wantV]
  cases evOpd vs ts x <;> first | rfl | skip
  rename_i l; cases l <;> rfl
theorem wantV_tt : wantV (.bool true) true = some true := rfl
theorem wantV_tf : wantV (.bool true) false = some false := rfl
theorem wantV_ft : wantV (.bool false) true = some false := rfl
theorem wantV_ff : wantV (.bool false) false = some true := rfl
theorem wantV_tup (b : Bool) : wantV (.tup []) b = some false := rfl

theorem XW_val {op : AOp} (hop : ∀ cf, execA cf op ev h = evalA op ev h) {f : Option AVal} (e : evalA op ev h = f.map (·, h)) : XW F op ev h K ↔ bindK f K h := by
  rw [XW_eval hop, e]
  simp only [Option.map_eq_some_iff, Prod.mk.injEq]
  constructor
  · rintro ⟨r, h', ⟨a, h1, rfl, rfl⟩, h2⟩; exact ⟨a, h1, h2⟩
  · rintro ⟨r, h1, h2⟩; exact ⟨r, h, ⟨r, h1, rfl, rfl⟩, h2⟩

theorem XW_heap {op : AOp} (hop : ∀ cf, execA cf op ev h = evalA op ev h) {p : Prop} [Decidable p] {v : AVal} {h1 : Heap} (e : evalA op ev h = if p then some (v, h1) else none) : XW F op ev h K ↔ p ∧ K v h1 := by
  rw [XW_eval hop, e]
  constructor
  · rintro ⟨r, h', he, q⟩
    split at he
    · rename_i hp
      simp only [Option.some.injEq, Prod.mk.injEq] at he
      obtain ⟨rfl, rfl⟩ := he
      exact ⟨hp, q⟩
    · simp at he
  · rintro ⟨hp, q⟩
    exact ⟨v, h1, if_pos hp, q⟩

theorem XW_mov {x : Opd} : XW F (.mov x) ev h K ↔ bindK (some (ev x)) K h := XW_val (fun _ => rfl) rfl
theorem XW_bin {op : BinOp} {bk : BK} {x y : Opd} : XW F (.bin op bk x y) ev h K ↔ bindK (binA op bk (ev x) (ev y)) K h := by
  exact XW_val (fun _ => rfl) rfl
theorem XW_un {op : UnOp} {x : Opd} : XW F (.un op x) ev h K ↔ bindK (unA op (ev x)) K h := by
  exact XW_val (fun _ => rfl) rfl
theorem XW_load {n : Nat} {ag : Bool} {x : Opd} : XW F (.load n ag x) ev h K ↔ bindK (loadA n ag (ev x) h) K h := by
  exact XW_val (fun _ => rfl) rfl
theorem XW_store {n : Nat} {a x : Opd} : XW F (.store n a x) ev h K ↔ bindH ((storeA n (ev a) (ev x) h).map fun h' => (.tup [], h')) K := by
  rw [XW_eval (fun _ => rfl)]
  rfl

/-- What an operation on values alone gives. -/
def valA (op : AOp) (a b : AVal) (h : Heap) : Option AVal :=
  match op with
  | .len _ => (match a with
    | .sl xs _ => some (.int .i64 xs.length)
    | .ref _ _ n _ => some (.int .i64 n)
    | _ => none)
  | .slen _ => (match a with
    | .str s => some (.int .i64 s.length)
    | _ => none)
  | .faddr off _ => (match a with
    | .ptr i o => some (.ptr i (o + off))
    | .rp cs => some (.rp (cs.drop off))
    | _ => none)
  | .nilc _ => (match a with
    | .ptr i o => some (.ptr i o)
    | .rp cs => some (.rp cs)
    | .fn f c => some (.fn f c)
    | _ => none)
  | .iaddr sz _ _ => (match a, b with
    | .sl xs _, .int _ n => if 0 ≤ n ∧ n < xs.length then (match xs[n.toNat]? with
      | some y => if y.cells.length = sz then some (.rp y.cells) else none
      | none => none) else none
    | .ref id off len s, .int _ n => if 0 ≤ n ∧ n < len ∧ s = sz then some (.ptr id (off + n.toNat * sz)) else none
    | _, _ => none)
  | .ext _ i => (match a with
    | .tup vs => vs[i]?
    | _ => none)
  | _ => none

theorem XW_len {x : Opd} : XW F (.len x) ev h K ↔ bindK (valA (.len x) (ev x) .bad h) K h := by
  refine XW_val (fun _ => rfl) ?_
  simp only [evalA, valA]
  cases ev x <;> rfl
theorem XW_slen {x : Opd} : XW F (.slen x) ev h K ↔ bindK (valA (.slen x) (ev x) .bad h) K h := by
  refine XW_val (fun _ => rfl) ?_
  simp only [evalA, valA]
  cases ev x <;> rfl
theorem XW_faddr {x : Opd} {off : Nat} : XW F (.faddr off x) ev h K ↔ bindK (valA (.faddr off x) (ev x) .bad h) K h := by
  refine XW_val (fun _ => rfl) ?_
  simp only [evalA, valA]
  cases ev x <;> rfl
theorem XW_nilc {x : Opd} : XW F (.nilc x) ev h K ↔ bindK (valA (.nilc x) (ev x) .bad h) K h := by
  refine XW_val (fun _ => rfl) ?_
  simp only [evalA, valA]
  cases ev x <;> rfl
theorem XW_ext {x : Opd} {i : Nat} : XW F (.ext x i) ev h K ↔ bindK (valA (.ext x i) (ev x) .bad h) K h := by
  refine XW_val (fun _ => rfl) ?_
  simp only [evalA, valA]
  cases ev x <;> rfl
theorem XW_pick {c a b : Opd} : XW F (.pick c a b) ev h K ↔ condB (ev c) (fun t => K (if t then ev a else ev b) h) := by
  rw [XW_eval (fun _ => rfl)]; simp only [evalA]
  constructor
  · rintro ⟨r, h', e, q⟩
    split at e
    · rename_i t ht
      simp only [Option.some.injEq, Prod.mk.injEq] at e
      obtain ⟨rfl, rfl⟩ := e
      exact ⟨t, ht, q⟩
    · simp at e
  · rintro ⟨t, ht, q⟩
    exact ⟨_, _, by rw [ht], q⟩
theorem XW_alloc {ty sz : Nat} {ag : Bool} {z : List AVal} : XW F (.alloc ty sz ag z) ev h K ↔ (z.length = sz ∧ z.all AVal.one = true) ∧ K (.ptr h.next 0) (h.push (.row true (typed ty) ag z)) := by
  exact XW_heap (fun _ => rfl) rfl
theorem XW_box {sz : Nat} {ag : Bool} {x : Opd} : XW F (.box sz ag x) ev h K ↔ ((ev x).cells.length = sz ∧ (ev x).cells.all AVal.one = true) ∧ K (.ptr h.next 0) (h.push (.row true 0 ag (ev x).cells)) := by
  exact XW_heap (fun _ => rfl) rfl

theorem bin_lss (k : IntKind) (a b : Int) : binA .lss .arith (.int k a) (.int k b) = some (.bool (decide (a < b))) := by simp [binA, intBin]
theorem bin_leq (k : IntKind) (a b : Int) : binA .leq .arith (.int k a) (.int k b) = some (.bool (decide (a ≤ b))) := by simp [binA, intBin]
theorem bin_gtr (k : IntKind) (a b : Int) : binA .gtr .arith (.int k a) (.int k b) = some (.bool (decide (b < a))) := by simp [binA, intBin]
theorem bin_geq (k : IntKind) (a b : Int) : binA .geq .arith (.int k a) (.int k b) = some (.bool (decide (b ≤ a))) := by simp [binA, intBin]
theorem bin_eql (k : IntKind) (a b : Int) : binA .eql .arith (.int k a) (.int k b) = some (.bool (decide (a = b))) := by simp [binA, intBin]; by_cases e : a = b <;> simp [e]
theorem bin_neq (k : IntKind) (a b : Int) : binA .neq .arith (.int k a) (.int k b) = some (.bool (decide (a ≠ b))) := by simp [binA, intBin]; by_cases e : a = b <;> simp [e]
theorem bin_add (a b : Int) : binA .add .arith (.int .i64 a) (.int .i64 b) = some (.int .i64 (IntKind.i64.wrap (a + b))) := by simp [binA, intBin]
theorem bin_sub (a b : Int) : binA .sub .arith (.int .i64 a) (.int .i64 b) = some (.int .i64 (IntKind.i64.wrap (a - b))) := by simp [binA, intBin]
theorem bin_mul (a b : Int) : binA .mul .arith (.int .i64 a) (.int .i64 b) = some (.int .i64 (IntKind.i64.wrap (a * b))) := by simp [binA, intBin]
theorem bin_eql_s (a b : List UInt8) : binA .eql .arith (.str a) (.str b) = some (.bool (decide (a = b))) := by simp [binA, strBin]; by_cases e : a = b <;> simp [e]
theorem bin_neq_s (a b : List UInt8) : binA .neq .arith (.str a) (.str b) = some (.bool (decide (a ≠ b))) := by simp [binA, strBin]; by_cases e : a = b <;> simp [e]
theorem bin_rem (a b : Int) (hb : b ≠ 0) : binA .rem .arith (.int .i64 a) (.int .i64 b) = some (.int .i64 (a.tmod b)) := by simp [binA, intBin, hb]
theorem bin_quo (a b : Int) (hb : b ≠ 0) : binA .quo .arith (.int .i64 a) (.int .i64 b) = some (.int .i64 (IntKind.i64.wrap (a.tdiv b))) := by simp [binA, intBin, hb]
theorem un_neg (a : Int) : unA .neg (.int .i64 a) = some (.int .i64 (IntKind.i64.wrap (-a))) := by simp [unA]
theorem un_not (a : Bool) : unA .not (.bool a) = some (.bool (!a)) := _root_.id rfl
theorem load_rp (n : Nat) (ag : Bool) (cs : List AVal) (h : Heap) : loadA n ag (.rp cs) h = if n ≤ cs.length then mk ag (cs.take n) else none := _root_.id rfl
theorem load_top (n off s : Nat) (ag mu a : Bool) (cs : List AVal) (h : Heap) : loadA n ag (.ptr h.next off) (h.push (.row mu s a cs)) = if off + n ≤ cs.length then mk ag ((cs.drop off).take n) else none := by simp [loadA, get_push]
theorem store_top (n off s : Nat) (a : Bool) (cs : List AVal) (x : AVal) (h : Heap) : storeA n (.ptr h.next off) x (h.push (.row true s a cs)) = if x.cells.length = n ∧ off + n ≤ cs.length ∧ x.cells.all AVal.one then some (h.push (.row true s a (setCells cs off x.cells))) else none := by
  simp only [storeA, get_push, put_push]
theorem mk_f (c : AVal) : mk false [c] = some c := _root_.id rfl
theorem mk_t (cs : List AVal) : mk true cs = some (.agg cs) := _root_.id rfl
theorem len_sl (x : Opd) (xs : List AVal) (t : Tok) (h : Heap) (b : AVal) : valA (.len x) (.sl xs t) b h = some (.int .i64 xs.length) := _root_.id rfl
theorem len_ref (x : Opd) (id off n sz : Nat) (h : Heap) (b : AVal) : valA (.len x) (.ref id off n sz) b h = some (.int .i64 n) := _root_.id rfl
theorem slen_str (x : Opd) (s : List UInt8) (h : Heap) (b : AVal) : valA (.slen x) (.str s) b h = some (.int .i64 s.length) := _root_.id rfl
theorem faddr_rp (x : Opd) (off : Nat) (cs : List AVal) (h : Heap) (b : AVal) : valA (.faddr off x) (.rp cs) b h = some (.rp (cs.drop off)) := _root_.id rfl
theorem faddr_ptr (x : Opd) (off i o : Nat) (h : Heap) (b : AVal) : valA (.faddr off x) (.ptr i o) b h = some (.ptr i (o + off)) := _root_.id rfl
theorem nilc_ptr (x : Opd) (i o : Nat) (h : Heap) (b : AVal) : valA (.nilc x) (.ptr i o) b h = some (.ptr i o) := _root_.id rfl
theorem nilc_fn (x : Opd) (f : Nat) (c : List AVal) (h : Heap) (b : AVal) : valA (.nilc x) (.fn f c) b h = some (.fn f c) := _root_.id rfl
theorem ext_tup (x : Opd) (i : Nat) (vs : List AVal) (h : Heap) (b : AVal) : valA (.ext x i) (.tup vs) b h = vs[i]? := _root_.id rfl
theorem XW_iaddr {sz : Nat} {x i : Opd} : XW F (.iaddr sz x i) ev h K ↔ bindK (valA (.iaddr sz x i) (ev x) (ev i) h) K h := by
  refine XW_val (fun _ => rfl) ?_
  simp only [evalA, valA]
  cases ev x <;> cases ev i <;> first | rfl | skip
  · rename_i xs tk k n
    by_cases h0 : 0 ≤ n ∧ n < xs.length
    · simp only [h0, and_self, if_true]
      cases xs[n.toNat]? with
      | none => rfl
      | some y => by_cases h1 : y.cells.length = sz <;> simp [h1]
    · simp only [h0, if_false]; rfl
  · rename_i id off len s k n
    by_cases h0 : 0 ≤ n ∧ n < len ∧ s = sz
    · simp only [h0, and_self, if_true]; rfl
    · simp only [h0, if_false]; rfl
theorem iaddr_sl (x i : Opd) {sz : Nat} {xs : List AVal} {t : Tok} {k : IntKind} {n : Int} {y : AVal} (h : Heap) (h0 : 0 ≤ n) (hy : xs[n.toNat]? = some y) : valA (.iaddr sz x i) (.sl xs t) (.int k n) h = if y.cells.length = sz then some (.rp y.cells) else none := by
  have hlt := (List.getElem?_eq_some_iff.1 hy).1
  simp only [valA]; rw [if_pos ⟨h0, by omega⟩]; simp only [hy]
theorem iaddr_ref (x i : Opd) {sz id off len s : Nat} {k : IntKind} {n : Int} (h : Heap) (h0 : 0 ≤ n) (hy : n < len) : valA (.iaddr sz x i) (.ref id off len s) (.int k n) h = if s = sz then some (.ptr id (off + n.toNat * sz)) else none := by
  simp only [valA, h0, hy, true_and]

theorem stripL_nil : stripL [] = some [] := rfl
theorem stripL_cons (x : AVal) (xs : List AVal) {y : AVal} {ys : List AVal} (h1 : strip x = some y) (h2 : stripL xs = some ys) : stripL (x :: xs) = some (y :: ys) := by simp only [stripL, h1, h2]

/-- Stripping, so that the simplifier can go through. -/
def sc (o : Option AVal) (p : Option (List AVal)) : Option (List AVal) := match o, p with
  | some y, some ys => some (y :: ys)
  | _, _ => none
theorem stripL_sc (x : AVal) (xs : List AVal) : stripL (x :: xs) = sc (strip x) (stripL xs) := by
  rfl
theorem sc_some (y : AVal) (ys : List AVal) : sc (some y) (some ys) = some (y :: ys) := rfl
theorem sc_none (p : Option (List AVal)) : sc none p = none := rfl
theorem sc_none' (y : AVal) : sc (some y) none = none := rfl
theorem st_int (k : IntKind) (n : Int) : strip (.int k n) = some (.int k n) := rfl
theorem st_bool (b : Bool) : strip (.bool b) = some (.bool b) := rfl
theorem st_str (s : List UInt8) : strip (.str s) = some (.str s) := rfl
theorem st_none (xs : List AVal) : strip (.sl xs .none) = some (.sl xs .none) := rfl
theorem st_nil (xs : List AVal) : strip (.sl xs .nil) = some (.sl xs .nil) := rfl
theorem st_own (xs : List AVal) (id sz : Nat) : strip (.sl xs (.own id sz)) = some (.sl xs .none) := rfl
theorem st_ref (a b c d : Nat) : strip (.ref a b c d) = none := rfl
theorem st_agg (cs : List AVal) : strip (.agg cs) = (stripL cs).map .agg := by simp only [strip]
theorem map_some' (cs : List AVal) : (some cs).map AVal.agg = some (.agg cs) := rfl
theorem resA_one (i : Nat) (vs : List AVal) : resultsA [i] vs = (vs[i]?).getD .bad := rfl
theorem pu_int (h : Heap) (k : IntKind) (n : Int) : purify h (.int k n) = some (.int k n) := rfl
theorem pu_bool (h : Heap) (b : Bool) : purify h (.bool b) = some (.bool b) := rfl
theorem pu_str (h : Heap) (s : List UInt8) : purify h (.str s) = some (.str s) := rfl
theorem pu_none (h : Heap) (xs : List AVal) : purify h (.sl xs .none) = some (.sl xs .none) := rfl
theorem pu_nil (h : Heap) (xs : List AVal) : purify h (.sl xs .nil) = some (.sl xs .nil) := rfl
theorem pu_own (h : Heap) (xs : List AVal) (id sz : Nat) : purify h (.sl xs (.own id sz)) = some (.sl xs .none) := rfl

end Go.Abs

/-
  Branches that the simplifier does not enter, heaps by their rows, slices of typed elements: the walk by program.
-/
set_option linter.unusedSimpArgs false
set_option linter.unusedVariables false
namespace Go.Abs

variable {F : Nat → Option AEnt} {ev : Opd → AVal} {h : Heap} {K : AVal → Heap → Prop}

theorem XW_mono {op : AOp} {K' : AVal → Heap → Prop} (w : XW F op ev h K) (hi : ∀ r h', K r h' → K' r h') : XW F op ev h K' := by
  unfold XW at w ⊢
  obtain ⟨n, r, h', h1, h2⟩ := w
  exact ⟨n, r, h', h1, hi _ _ h2⟩

/-! ### what keeps the simplifier out: a congruence with a hypothesis that it always rewrites -/
def Dum : Prop := True
theorem Dum_eq : Dum ↔ True := ⟨fun _ => trivial, fun _ => trivial⟩
@[congr] theorem bindK_congrD {d : Prop} {o o' : Option AVal} (e0 : Dum = d) (e : o = o') : bindK o K h = bindK o' K h := by rw [e]
@[congr] theorem bindH_congrD {d : Prop} {o o' : Option (AVal × Heap)} (e0 : Dum = d) (e : o = o') : bindH o K = bindH o' K := by rw [e]

/-- The element at a place. -/
def nth {α : Type} [Inhabited α] (l : List α) (i : Nat) : α := l.getD i default
theorem nth_eq {α : Type} [Inhabited α] {l : List α} {i : Nat} (h : i < l.length) : nth l i = l[i] := by simp [nth, List.getD_eq_getElem?_getD, List.getElem?_eq_getElem h]
theorem nth_mem {α : Type} [Inhabited α] {l : List α} {i : Nat} (h : i < l.length) : nth l i ∈ l := by rw [nth_eq h]; exact List.getElem_mem h

/-! ### branches -/
/-- A branch, not entered by the simplifier. -/
def ifP (p : Prop) (A B : Prop) : Prop := (p → A) ∧ (¬ p → B)
@[congr] theorem ifP_congr {p q A B : Prop} {d : Prop} (e0 : Dum = d) (e : p = q) : ifP p A B = ifP q A B := by rw [e]
theorem ifP_true (A B : Prop) : ifP True A B = A := by simp [ifP]
theorem ifP_false (A B : Prop) : ifP False A B = B := by simp [ifP]
theorem ifP_not (p A B : Prop) : ifP (¬ p) A B = ifP p B A := by
  apply propext
  constructor
  · rintro ⟨a, b⟩; exact ⟨fun hp => b (fun h => h hp), fun hp => a hp⟩
  · rintro ⟨a, b⟩
    refine ⟨fun hp => b hp, fun hp => ?_⟩
    exact a (Classical.byContradiction hp)
theorem ifP_pos {p A B : Prop} (hp : p) (a : A) : ifP p A B := ⟨fun _ => a, fun h => absurd hp h⟩
theorem ifP_neg {p A B : Prop} (hp : ¬ p) (b : B) : ifP p A B := ⟨fun h => absurd h hp, fun _ => b⟩
theorem ifP_intro {p A B : Prop} (a : p → A) (b : ¬ p → B) : ifP p A B := ⟨a, b⟩

/-- A branch on a value. -/
def condP (v : AVal) (A B : Prop) : Prop := ∃ t, v = .bool t ∧ ifP (t = true) A B
@[congr] theorem condP_congr {v w : AVal} {A B : Prop} {d : Prop} (e0 : Dum = d) (e : v = w) : condP v A B = condP w A B := by rw [e]
theorem condP_bool (b : Bool) (A B : Prop) : condP (.bool b) A B = ifP (b = true) A B := by
  apply propext
  constructor
  · rintro ⟨t, e, q⟩; cases e; exact q
  · intro q; exact ⟨b, rfl, q⟩

theorem WP_condP {x : Opd} {a b : ACode} {vs : List AVal} {Q : AExit → List AVal → Heap → Prop} : WP F (.cond x a b) vs h Q ↔ condP (evOpd vs [] x) (WP F a vs h Q) (WP F b vs h Q) := by
  rw [WP_cond]
  constructor
  · rintro ⟨t, e, q⟩
    refine ⟨t, e, fun ht => ?_, fun ht => ?_⟩
    · subst ht; exact q
    · have : t = false := by simpa using ht
      subst this; exact q
  · rintro ⟨t, e, q1, q2⟩
    refine ⟨t, e, ?_⟩
    cases t with
    | true => exact q1 rfl
    | false => exact q2 (by simp)

/-- A guard on a value. -/
def guardP (v : AVal) (b : Bool) (A B : Prop) : Prop := ∃ t, wantV v b = some t ∧ ifP (t = true) A B
@[congr] theorem guardP_congr {v w : AVal} {b : Bool} {A B : Prop} {d : Prop} (e0 : Dum = d) (e : v = w) : guardP v b A B = guardP w b A B := by rw [e]
theorem guardP_t (c : Bool) (A B : Prop) : guardP (.bool c) true A B = ifP (c = true) A B := by
  apply propext
  constructor
  · rintro ⟨t, e, q⟩; simp only [wantV, Option.some.injEq] at e; subst e; simpa using q
  · intro q; exact ⟨c == true, rfl, by simpa using q⟩
theorem guardP_f (c : Bool) (A B : Prop) : guardP (.bool c) false A B = ifP (c = true) B A := by
  apply propext
  constructor
  · rintro ⟨t, e, q⟩
    simp only [wantV, Option.some.injEq] at e; subst e
    cases c <;> simpa [ifP] using q
  · intro q
    refine ⟨c == false, rfl, ?_⟩
    cases c <;> simpa [ifP] using q
theorem guardP_tup (b : Bool) (A B : Prop) : guardP (.tup []) b A B = B := by
  apply propext
  constructor
  · rintro ⟨t, e, q⟩; simp only [wantV, Option.some.injEq] at e; subst e; simpa [ifP] using q
  · intro q; exact ⟨false, rfl, by simpa [ifP] using q⟩

theorem RW_guardP {d : ADst} {op : AOp} {x : Opd} {b : Bool} {l : List AOper} {vs ts : List AVal} {K : List AVal → Heap → Prop} :
    RW F (⟨d, op, some (x, b)⟩ :: l) vs ts h K ↔ guardP (evOpd vs ts x) b (RW F (⟨d, op, none⟩ :: l) vs ts h K) (RW F (⟨d, .mov (.c (.tup [])), none⟩ :: l) vs ts h K) := by
  rw [RW_guard, want_V]
  constructor
  · rintro ⟨t, e, q⟩
    refine ⟨t, e, fun ht => ?_, fun ht => ?_⟩
    · subst ht; exact q
    · have : t = false := by simpa using ht
      subst this; exact q
  · rintro ⟨t, e, q1, q2⟩
    refine ⟨t, e, ?_⟩
    cases t with
    | true => exact q1 rfl
    | false => exact q2 (by simp)

theorem XW_pickP {c a b : Opd} : XW F (.pick c a b) ev h K ↔ condP (ev c) (K (ev a) h) (K (ev b) h) := by
  rw [XW_pick]
  constructor
  · rintro ⟨t, e, q⟩
    refine ⟨t, e, fun ht => ?_, fun ht => ?_⟩
    · subst ht; exact q
    · have : t = false := by simpa using ht
      subst this; exact q
  · rintro ⟨t, e, q1, q2⟩
    refine ⟨t, e, ?_⟩
    cases t with
    | true => exact q1 rfl
    | false => exact q2 (by simp)

/-! ### heaps -/
theorem push_next (h : Heap) (o : Obj) : (h.push o).next = h.next + 1 := _root_.id rfl
theorem put_next (h : Heap) (i : Nat) (o : Option Obj) : (h.put i o).next = h.next := by unfold Heap.put; split <;> rfl
theorem empty_next : Heap.empty.next = 0 := _root_.id rfl
theorem get_push_ne {h : Heap} {o : Obj} {j : Nat} (hj : j ≠ h.next) : (h.push o).get j = h.get j := by
  unfold Heap.get Heap.push
  by_cases hlt : j < h.next
  · have e1 : h.next + 1 - 1 - j = (h.next - 1 - j) + 1 := by omega
    simp only [e1, List.getElem?_cons_succ]
    rw [if_pos (by omega), if_pos hlt]
  · rw [if_neg (by simp; omega), if_neg hlt]
theorem get_put_self {h : Heap} {j : Nat} {o : Option Obj} (hj : j < h.next) (hw : h.l.length = h.next) : (h.put j o).get j = o := by
  unfold Heap.get Heap.put
  rw [if_pos hj]
  simp only [hj, if_true]
  rw [List.getElem?_set_self (by omega)]; rfl
theorem get_put_old {h : Heap} {j : Nat} {o1 : Obj} {o : Option Obj} (hj : h.get j = some o1) : (h.put j o).get j = o := by
  unfold Heap.get at hj
  split at hj
  · rename_i hlt
    have : (h.l[h.next - 1 - j]?).isSome := by
      cases hx : h.l[h.next - 1 - j]? with
      | none => rw [hx] at hj; simp at hj
      | some _ => rfl
    have hl : h.next - 1 - j < h.l.length := by simpa using this
    unfold Heap.get Heap.put
    rw [if_pos hlt]
    simp only [hlt, if_true]
    rw [List.getElem?_set_self hl]; rfl
  · simp at hj
theorem get_put_ne {h : Heap} {i j : Nat} {o : Option Obj} (hj : j ≠ i) : (h.put i o).get j = h.get j := by
  unfold Heap.put
  by_cases hi : i < h.next
  · rw [if_pos hi]
    unfold Heap.get
    show (if j < h.next then ((h.l.set (h.next - 1 - i) o)[h.next - 1 - j]?).join else none) = _
    by_cases hlt : j < h.next
    · rw [if_pos hlt, if_pos hlt, List.getElem?_set_ne (by omega)]
    · rw [if_neg hlt, if_neg hlt]
  · rw [if_neg hi]
theorem put_push_ne {h : Heap} {o : Obj} {j : Nat} (o' : Option Obj) (hj : j < h.next) : (h.push o).put j o' = (h.put j o').push o := put_push_old o' hj

/-- A load from a row. -/
def loadG (n : Nat) (ag : Bool) (off : Nat) : Option Obj → Option AVal
  | some (.row _ _ _ cs) => if off + n ≤ cs.length then mk ag ((cs.drop off).take n) else none
  | _ => none
theorem load_ptr (n : Nat) (ag : Bool) (id off : Nat) (h : Heap) : loadA n ag (.ptr id off) h = loadG n ag off (h.get id) := by
  simp only [loadA, loadG]
  cases h.get id with
  | none => rfl
  | some o => cases o <;> rfl
theorem loadG_row (n : Nat) (ag : Bool) (off : Nat) (mu : Bool) (s : Nat) (a : Bool) (cs : List AVal) : loadG n ag off (some (.row mu s a cs)) = if off + n ≤ cs.length then mk ag ((cs.drop off).take n) else none := rfl

/-- A store into a row. -/
def storeG (n id off : Nat) (x : AVal) (h : Heap) : Option Obj → Option Heap
  | some (.row true s ag cs) => if x.cells.length = n ∧ off + n ≤ cs.length ∧ x.cells.all AVal.one then some (h.put id (some (.row true s ag (setCells cs off x.cells)))) else none
  | _ => none
theorem store_ptr (n id off : Nat) (x : AVal) (h : Heap) : storeA n (.ptr id off) x h = storeG n id off x h (h.get id) := by
  simp only [storeA, storeG]
  cases h.get id with
  | none => rfl
  | some o => cases o with
    | row mu _ _ _ => cases mu <;> rfl
    | tok _ => rfl
    | map _ _ _ => rfl
theorem storeG_row (n id off : Nat) (x : AVal) (h : Heap) (s : Nat) (a : Bool) (cs : List AVal) : storeG n id off x h (some (.row true s a cs)) = if x.cells.length = n ∧ off + n ≤ cs.length ∧ x.cells.all AVal.one then some (h.put id (some (.row true s a (setCells cs off x.cells)))) else none := rfl

/-- The rows outside S stand as they stood. -/
def Fr (S : Nat → Prop) (h h' : Heap) : Prop := h.next ≤ h'.next ∧ ∀ j, j < h.next → ¬ S j → h'.get j = h.get j
theorem Fr.refl (S : Nat → Prop) (h : Heap) : Fr S h h := ⟨Nat.le_refl _, fun _ _ _ => rfl⟩
theorem Fr.trans {S : Nat → Prop} {h h1 h2 : Heap} (a : Fr S h h1) (b : Fr S h1 h2) : Fr S h h2 := ⟨Nat.le_trans a.1 b.1, fun j hj hs => (b.2 j (Nat.lt_of_lt_of_le hj a.1) hs).trans (a.2 j hj hs)⟩
theorem Fr.push {S : Nat → Prop} {h h1 : Heap} (a : Fr S h h1) (o : Obj) : Fr S h (h1.push o) := ⟨Nat.le_trans a.1 (Nat.le_succ _), fun j hj hs => by
  have := a.1
  rw [get_push_ne (by omega)]; exact a.2 j hj hs⟩
theorem Fr.put {S : Nat → Prop} {h h1 : Heap} (a : Fr S h h1) {i : Nat} (hi : S i ∨ h.next ≤ i) (o : Option Obj) : Fr S h (h1.put i o) := ⟨by rw [put_next]; exact a.1, fun j hj hs => by
  rw [get_put_ne]
  · exact a.2 j hj hs
  · rintro rfl
    rcases hi with h' | h'
    · exact hs h'
    · omega⟩
theorem Fr.mono {S T : Nat → Prop} {h h1 : Heap} (a : Fr S h h1) (hi : ∀ j, j < h.next → S j → T j) : Fr T h h1 := ⟨a.1, fun j hj hs => a.2 j hj (fun h' => hs (hi j hj h'))⟩
theorem Fr.get {S : Nat → Prop} {h h1 : Heap} (a : Fr S h h1) {j : Nat} {o : Obj} (hg : h.get j = some o) (hs : ¬ S j) : h1.get j = some o := by rw [a.2 j (get_lt hg) hs]; exact hg

/-! ### calls that touch the heap -/
/-- A call gives what K asks for. -/
def CV (F : Nat → Option AEnt) (g : Nat) (asx : List AVal) (h : Heap) (K : AVal → Heap → Prop) : Prop := ∃ r h', Gives F g asx h r h' ∧ K r h'
theorem CV_wp {g : Nat} {fn : AFunc} (hf : F g = some (.comp fn)) {args : List AVal} {h : Heap} {K : AVal → Heap → Prop}
    (w : WP F fn.body (fn.slots.map fun s => (args[s]?).getD (.tup [])) h (fun e vs h1 => (e = .normal ∨ e = .ret) ∧ K (resultsA fn.results vs) h1)) : CV F g args h K := gives_wp hf w
theorem CV_mono {g : Nat} {asx : List AVal} {h : Heap} {K K' : AVal → Heap → Prop} (c : CV F g asx h K) (hi : ∀ r h', K r h' → K' r h') : CV F g asx h K' := by
  obtain ⟨r, h', c, k⟩ := c
  exact ⟨r, h', c, hi _ _ k⟩
def callK (F : Nat → Option AEnt) (f : AVal) (asx : List AVal) (h : Heap) (K : AVal → Heap → Prop) : Prop := ∃ g cap, f = .fn g cap ∧ CV F g (asx ++ cap) h K
@[congr] theorem callK_congr {f f' : AVal} {asx as' : List AVal} {K : AVal → Heap → Prop} {d : Prop} (e0 : Dum = d) (e : f = f') (e2 : asx = as') : callK F f asx h K = callK F f' as' h K := by rw [e, e2]
@[congr] theorem CV_congr {g : Nat} {asx as' : List AVal} {K : AVal → Heap → Prop} {d : Prop} (e0 : Dum = d) (e2 : asx = as') : CV F g asx h K = CV F g as' h K := by rw [e2]
theorem callK_fn (g : Nat) (cap asx : List AVal) : callK F (.fn g cap) asx h K = CV F g (asx ++ cap) h K := by
  apply propext
  constructor
  · rintro ⟨g', c', e, q⟩; cases e; exact q
  · intro q; exact ⟨g, cap, rfl, q⟩
theorem XW_callK {f : Opd} {args : List Opd} : XW F (.call f args) ev h K ↔ callK F (ev f) (args.map ev) h K := by
  rw [XW_call]
  constructor
  · rintro ⟨g, cap, hf, r, h', e, q⟩
    exact ⟨g, cap, hf, r, h', of_GV e, q⟩
  · rintro ⟨g, cap, hf, r, h', e, q⟩
    exact ⟨g, cap, hf, r, h', GV_of e, q⟩
theorem PV_cv {g : Nat} {asx : List AVal} {r : AVal} (c : CV F g asx Heap.empty (fun r0 h' => purify h' r0 = some r)) : PV F g asx = some r := by
  obtain ⟨r0, h', c, hp⟩ := c
  exact PV_of c hp
/-- A call of a function of plain values, on any heap. -/
theorem Gives_CV {g : Nat} {asx : List AVal} {r : AVal} {h' : Heap} (c : Gives F g asx h r h') (k : K r h') : CV F g asx h K := ⟨r, h', c, k⟩

/-! ### more operations -/
theorem XW_build {z : List AVal} {ps : List (Nat × Nat × Opd)} : XW F (.build z ps) ev h K ↔ bindK ((fillA z (ps.map fun p => (p.1, p.2.1, ev p.2.2))).map .agg) K h := by
  refine XW_val (fun _ => rfl) ?_
  simp only [evalA, Option.map_map]; rfl
theorem fillA_nil (z : List AVal) : fillA z [] = some z := rfl
theorem fillA_cons (z : List AVal) (off n : Nat) (v : AVal) (l : List (Nat × Nat × AVal)) : fillA z ((off, n, v) :: l) = if v.cells.length = n ∧ off + n ≤ z.length ∧ v.cells.all AVal.one then fillA (setCells z off v.cells) l else none := rfl
theorem XW_field {off n : Nat} {ag : Bool} {x : Opd} : XW F (.field off n ag x) ev h K ↔ bindK (match ev x with | .agg cs => if off + n ≤ cs.length then mk ag ((cs.drop off).take n) else none | _ => none) K h := by
  refine XW_val (fun _ => rfl) ?_
  simp only [evalA]
  cases ev x <;> first | rfl | skip
  rename_i cs; by_cases h1 : off + n ≤ cs.length <;> simp [h1]
theorem XW_clo {f : Nat} {cap : List Opd} : XW F (.clo f cap) ev h K ↔ bindK (some (.fn f (cap.map ev))) K h := XW_val (fun _ => rfl) rfl
theorem XW_toInt {k : IntKind} {x : Opd} : XW F (.toInt k x) ev h K ↔ bindK (match ev x with | .int _ n => some (.int k (k.wrap n)) | _ => none) K h := by
  refine XW_val (fun _ => rfl) ?_
  simp only [evalA]; cases ev x <;> rfl
theorem XW_idstr {x : Opd} : XW F (.idstr x) ev h K ↔ bindK (match ev x with | .str s => some (.str s) | _ => none) K h := by
  refine XW_val (fun _ => rfl) ?_
  simp only [evalA]; cases ev x <;> rfl
theorem XW_slice {sz : Nat} {x : Opd} {lo hi : Option Opd} : XW F (.slice sz x lo hi) ev h K ↔ bindK (sliceA sz (ev x) (lo.map ev) (hi.map ev)) K h := XW_val (fun _ => rfl) rfl
theorem XW_sslice {x : Opd} {lo hi : Option Opd} : XW F (.sslice x lo hi) ev h K ↔ bindK (ssliceA (ev x) (lo.map ev) (hi.map ev)) K h := XW_val (fun _ => rfl) rfl
/-- A byte of a string. -/
def sidxA (x i : AVal) : Option AVal := match x, i with
  | .str s, .int _ n => if 0 ≤ n then (s[n.toNat]?).map (fun b => .int .u8 b.toNat) else none
  | _, _ => none
theorem XW_sidx {x i : Opd} : XW F (.sidx x i) ev h K ↔ bindK (sidxA (ev x) (ev i)) K h := by
  refine XW_val (fun _ => rfl) ?_
  simp only [evalA, sidxA]
  cases ev x <;> cases ev i <;> first | rfl | skip
  rename_i s k n
  by_cases h0 : 0 ≤ n
  · simp only [h0, if_true]
    cases s[n.toNat]? <;> rfl
  · simp only [h0, if_false]; rfl
theorem sidx_str (s : List UInt8) (k : IntKind) (n : Int) (h0 : 0 ≤ n) (h1 : n < s.length) : sidxA (.str s) (.int k n) = some (.int .u8 (nth s n.toNat).toNat) := by
  have : n.toNat < s.length := by omega
  simp [sidxA, h0, nth, List.getD_eq_getElem?_getD, List.getElem?_eq_getElem this]
theorem boundA_none (d y : Nat) : boundA none d y = some d := rfl
theorem boundA_int (k : IntKind) (i : Int) (d y : Nat) (h0 : 0 ≤ i) (h1 : i ≤ y) : boundA (some (.int k i)) d y = some i.toNat := by simp [boundA, h0, h1]
theorem sslice_str (s : List UInt8) (lo hi : Option AVal) {a b : Nat} (hb : boundA hi s.length s.length = some b) (ha : boundA lo 0 b = some a) : ssliceA (.str s) lo hi = some (.str ((s.drop a).take (b - a))) := by simp only [ssliceA, hb, ha]
theorem XW_appendK {arr : Bool} {ty bytes sz : Nat} {ag : Bool} {x y : Opd} : XW F (.append arr ty bytes sz ag x y) ev h K ↔ bindH (appendA arr ty bytes sz ag (ev x) (ev y) h) K := by
  rw [XW_eval (fun _ => rfl)]; rfl
theorem XW_copyK {sz : Nat} {x y : Opd} : XW F (.copy sz x y) ev h K ↔ bindH (copyA sz (ev x) (ev y) h) K := by
  rw [XW_eval (fun _ => rfl)]; rfl
/-- A new slice of rows. -/
def mkslA (bytes sz : Nat) (ag : Bool) (z : List AVal) (l c : AVal) (h : Heap) : Option (AVal × Heap) := match l, c with
  | .int _ a, .int _ b => if 0 ≤ a ∧ a ≤ b ∧ b < 9223372036854775808 ∧ bytes * b ≤ 281474976710656 ∧ z.length = sz ∧ z.all AVal.one ∧ small sz then some (.ref h.next 0 a.toNat sz, h.push (.row true sz ag (repl a.toNat z))) else none
  | _, _ => none
theorem XW_mksl {bytes sz : Nat} {ag : Bool} {z : List AVal} {l c : Opd} : XW F (.mksl bytes sz ag z l c) ev h K ↔ bindH (mkslA bytes sz ag z (ev l) (ev c) h) K := by
  rw [XW_eval (fun _ => rfl)]
  have : evalA (.mksl bytes sz ag z l c) ev h = mkslA bytes sz ag z (ev l) (ev c) h := by
    simp only [evalA, mkslA]
    cases ev l <;> cases ev c <;> rfl
  rw [this]; rfl
theorem mksl_int (bytes sz : Nat) (ag : Bool) (z : List AVal) (k k' : IntKind) (a : Int) (h : Heap) (h0 : 0 ≤ a) (h1 : a < 1000000000) (hb : bytes ≤ 100000) (hz : z.length = sz) (ho : z.all AVal.one = true) (hs : small sz = true) : mkslA bytes sz ag z (.int k a) (.int k' a) h = some (.ref h.next 0 a.toNat sz, h.push (.row true sz ag (repl a.toNat z))) := by
  have : (bytes : Int) * a ≤ 281474976710656 := by
    have h2 : (bytes : Int) * a ≤ 100000 * 1000000000 := Int.mul_le_mul (by omega) (by omega) h0 (by omega)
    omega
  have h3 : a < 9223372036854775808 := by omega
  simp [mkslA, h0, h3, this, hz, ho, hs]

/-- A literal slice. -/
def litA (mode ty n sz : Nat) (ag : Bool) (z : List AVal) (fl : Option (List AVal)) (h : Heap) : Option (AVal × Heap) := match fl with
    | some cs =>
      if !(decide (z.length = sz) && z.all AVal.one && decide (n * sz ≤ 16777216) && small sz) then none else
      if mode = 2 then some (.ref h.next 0 n sz, h.push (.row true sz ag cs))
      else if mode = 3 then (match purifyL h cs, freeze h (refIdsL cs) with
        | some cs, some h => match chunk sz ag n cs with
          | none => none
          | some xs => some (.sl xs .none, h)
        | _, _ => none)
      else match stripL cs with
        | none => none
        | some cs => match chunk sz ag n cs with
          | none => none
          | some xs => if mode = 1 then some (.sl xs (.own h.next sz), h.push (.tok ty)) else some (.sl xs .none, h)
    | none => none
theorem XW_lit {mode ty n sz : Nat} {ag : Bool} {z : List AVal} {ps : List (Nat × Opd)} : XW F (.lit mode ty n sz ag z ps) ev h K ↔ bindH (litA mode ty n sz ag z (fillA (repl n z) (ps.map fun p => (p.1 * sz, sz, ev p.2))) h) K := by
  rw [XW_eval (fun _ => rfl)]; rfl
theorem lit_none {mode ty n sz : Nat} {ag : Bool} {z : List AVal} {cs cs' xs : List AVal} {h : Heap} (hs : stripL cs = some cs') (hc : chunk sz ag n cs' = some xs) (hm : mode = 0) (hk : (decide (z.length = sz) && z.all AVal.one && decide (n * sz ≤ 16777216) && small sz) = true) :
    litA mode ty n sz ag z (some cs) h = some (.sl xs .none, h) := by
  subst hm
  simp only [litA, hk, hs, hc]; rfl
theorem lit_own {mode ty n sz : Nat} {ag : Bool} {z : List AVal} {cs cs' xs : List AVal} {h : Heap} (hs : stripL cs = some cs') (hc : chunk sz ag n cs' = some xs) (hm : mode = 1) (hk : (decide (z.length = sz) && z.all AVal.one && decide (n * sz ≤ 16777216) && small sz) = true) :
    litA mode ty n sz ag z (some cs) h = some (.sl xs (.own h.next sz), h.push (.tok ty)) := by
  subst hm
  simp only [litA, hk, hs, hc]; rfl
theorem lit_ref {mode ty n sz : Nat} {ag : Bool} {z : List AVal} {cs : List AVal} {h : Heap} (hm : mode = 2) (hk : (decide (z.length = sz) && z.all AVal.one && decide (n * sz ≤ 16777216) && small sz) = true) :
    litA mode ty n sz ag z (some cs) h = some (.ref h.next 0 n sz, h.push (.row true sz ag cs)) := by
  subst hm
  simp only [litA, hk]; rfl

/-! ### maps, bytes, arrays -/
theorem XW_x {op : XOp} {args : List Opd} : XW F (.x op args) ev h K ↔ bindH (evalX op (args.map ev) h) K := by
  rw [XW_eval (fun _ => rfl)]; rfl
theorem X_mkmap (kd : KD) (h : Heap) : evalX (.mkmap kd) [] h = some (.mp h.next, h.push (.map kd 0 [])) := _root_.id rfl
/-- What a map has at a key. -/
def lookM (kd : KD) (z : AVal) (ok : Bool) (k : AVal) (h : Heap) : Option Obj → Option (AVal × Heap)
  | some (.map kd' _ es) => if kd' = kd then (match findE kd k es 0 with
        | some (_, v) => some (if ok then .tup [v, .bool true] else v, h)
        | none => some (if ok then .tup [z, .bool false] else z, h)) else none
  | _ => none
theorem X_mlook (kd : KD) (z : AVal) (ok : Bool) (id : Nat) (k : AVal) (h : Heap) (hk : isKey kd k = true) : evalX (.mlook kd z ok) [.mp id, k] h = lookM kd z ok k h (h.get id) := by
  simp only [evalX, hk, if_true, lookM]
  cases h.get id with
  | none => rfl
  | some o => cases o <;> rfl
theorem lookM_some {kd : KD} {z : AVal} {ok : Bool} {k v : AVal} {i : Nat} {h : Heap} {c : Nat} {es : List (Nat × AVal × AVal)} (e : findE kd k es 0 = some (i, v)) : lookM kd z ok k h (some (.map kd c es)) = some (if ok then .tup [v, .bool true] else v, h) := by
  simp [lookM, e]
theorem lookM_none {kd : KD} {z : AVal} {ok : Bool} {k : AVal} {h : Heap} {c : Nat} {es : List (Nat × AVal × AVal)} (e : findE kd k es 0 = none) : lookM kd z ok k h (some (.map kd c es)) = some (if ok then .tup [z, .bool false] else z, h) := by
  simp [lookM, e]
/-- A map with a key put in. -/
def putM (kd : KD) (id : Nat) (k v : AVal) (h : Heap) : Option Obj → Option (AVal × Heap)
  | some (.map kd' clock es) => if kd' = kd ∧ plain v = true then some (.tup [], h.put id (some (.map kd (mput kd k v clock es).1 (mput kd k v clock es).2))) else none
  | _ => none
theorem X_mput (kd : KD) (id : Nat) (k v : AVal) (h : Heap) (hk : isKey kd k = true) : evalX (.mput kd) [.mp id, k, v] h = putM kd id k v h (h.get id) := by
  simp only [evalX, hk, if_true, putM]
  cases h.get id with
  | none => rfl
  | some o => cases o <;> rfl
theorem putM_map {kd : KD} {id : Nat} {k v : AVal} {h : Heap} {c : Nat} {es : List (Nat × AVal × AVal)} (hp : plain v = true) : putM kd id k v h (some (.map kd c es)) = some (.tup [], h.put id (some (.map kd (mput kd k v c es).1 (mput kd k v c es).2))) := by
  simp [putM, hp]
/-- A map with a key taken out. -/
def mdelE (kd : KD) (k : AVal) (es : List (Nat × AVal × AVal)) : List (Nat × AVal × AVal) := match findE kd k es 0 with
  | some (i, _) => es.eraseIdx i
  | none => es
def delM (kd : KD) (id : Nat) (k : AVal) (h : Heap) : Option Obj → Option (AVal × Heap)
  | some (.map kd' clock es) => if kd' = kd then some (.tup [], h.put id (some (.map kd clock (mdelE kd k es)))) else none
  | _ => none
theorem X_mdel (kd : KD) (id : Nat) (k : AVal) (h : Heap) (hk : isKey kd k = true) : evalX (.mdel kd) [.mp id, k] h = delM kd id k h (h.get id) := by
  simp only [evalX, hk, if_true, delM, mdelE]
  cases h.get id with
  | none => rfl
  | some o => cases o <;> first | rfl | skip
              rename_i kd' c es
              by_cases hkd : kd' = kd
              · simp only [hkd, if_true]; cases findE kd k es 0 <;> rfl
              · simp [hkd]
theorem delM_map {kd : KD} {id : Nat} {k : AVal} {h : Heap} {c : Nat} {es : List (Nat × AVal × AVal)} : delM kd id k h (some (.map kd c es)) = some (.tup [], h.put id (some (.map kd c (mdelE kd k es)))) := by
  simp [delM]
theorem isKey_int (k : IntKind) (n : Int) : isKey (.int k) (.int k n) = true := by simp [isKey]
theorem isKey_str (s : List UInt8) : isKey .str (.str s) = true := rfl
def byteV (b : UInt8) : AVal := .int .u8 b.toNat
theorem X_s2b_f (s : List UInt8) (h : Heap) (hl : s.length ≤ 1000000) : evalX (.s2b false) [.str s] h = some (.sl (s.map byteV) .none, h) := by
  simp only [evalX, hl, if_true]; rfl
theorem X_s2b_t (s : List UInt8) (h : Heap) (hl : s.length ≤ 1000000) : evalX (.s2b true) [.str s] h = some (.ref h.next 0 s.length 1, h.push (.row true 1 false (s.map byteV))) := by
  simp only [evalX, hl, if_true]; rfl
theorem u8cell_byte (b : UInt8) : u8cell (byteV b) = true := by
  have := b.toNat_lt
  simp [u8cell, byteV]; omega
theorem u8all_byte (s : List UInt8) : (s.map byteV).all u8cell = true := by
  simp only [List.all_map, List.all_eq_true, Function.comp_apply]
  exact fun b _ => u8cell_byte b
theorem bytesL_byte : ∀ (s : List UInt8), bytesL (s.map byteV) = some s
  | [] => rfl
  | b :: s => by simp [bytesL, byteV, bytesL_byte s]
theorem flat_byte (s : List UInt8) : flat (s.map byteV) = s.map byteV := by
  induction s with
  | nil => rfl
  | cons b s ih => simp only [flat, List.map_cons, List.flatMap_cons] at ih ⊢; rw [ih]; rfl
theorem X_b2s_sl (s : List UInt8) (t : Tok) (h : Heap) : evalX .b2s [.sl (s.map byteV) t] h = some (.str s, h) := by
  have he : elemsA h 1 (.sl (s.map byteV) t) = some (s.map byteV) := by
    simp only [elemsA]
    rw [if_pos, flat_byte]
    intro y hy
    cases s with
    | nil => simp at hy
    | cons b s => simp at hy; subst hy; rfl
  simp only [evalX, bytesA, he, u8all_byte, if_true, bytesL_byte, Option.map_some]
/-- A text out of a row. -/
def b2sM (off len : Nat) (h : Heap) : Option Obj → Option (AVal × Heap)
  | some (.row _ _ _ cs) => if off + len ≤ cs.length ∧ ((cs.drop off).take len).all u8cell = true then (bytesL ((cs.drop off).take len)).map fun s => (.str s, h) else none
  | _ => none
theorem X_b2s_ref (id off len : Nat) (h : Heap) : evalX .b2s [.ref id off len 1] h = b2sM off len h (h.get id) := by
  simp only [evalX, bytesA, elemsA, if_true, b2sM]
  cases h.get id with
  | none => rfl
  | some o =>
    cases o <;> first | rfl | skip
    rename_i mu sz ag cs
    simp only [Nat.mul_one]
    by_cases h1 : off + len ≤ cs.length
    · simp only [h1, if_true, true_and]
    · simp only [h1, if_false, false_and]
theorem b2sM_row {off len : Nat} {h : Heap} {mu : Bool} {sz : Nat} {ag : Bool} {cs : List AVal} {s : List UInt8} (hl : off + len ≤ cs.length) (hs : (cs.drop off).take len = s.map byteV) : b2sM off len h (some (.row mu sz ag cs)) = some (.str s, h) := by
  have h1 := u8all_byte s
  simp only [b2sM, hs, h1, hl, and_self, if_true, bytesL_byte, Option.map_some]
/-- The slice of a whole array. -/
def asM (id off n sz : Nat) (h : Heap) : Option Obj → Option (AVal × Heap)
  | some (.row _ _ _ cs) => if off + n * sz ≤ cs.length ∧ 0 < sz then some (.ref id off n sz, h) else none
  | _ => none
theorem X_as_ff (n sz : Nat) (ag : Bool) (id off : Nat) (h : Heap) : evalX (.aslice n sz ag false false) [.ptr id off] h = asM id off n sz h (h.get id) := by
  simp only [evalX, boundA, asM]
  cases h.get id with
  | none => rfl
  | some o => cases o <;> simp
theorem asM_row {id off n sz : Nat} {h : Heap} {mu : Bool} {s : Nat} {ag : Bool} {cs : List AVal} (hl : off + n * sz ≤ cs.length) (hp : 0 < sz) : asM id off n sz h (some (.row mu s ag cs)) = some (.ref id off n sz, h) := by
  simp [asM, hl, hp]
/-- The first places of an array. -/
def asM2 (id off n sz : Nat) (b : Int) (h : Heap) : Option Obj → Option (AVal × Heap)
  | some (.row _ _ _ cs) => if off + n * sz ≤ cs.length ∧ 0 < sz ∧ 0 ≤ b ∧ b ≤ n then some (.ref id off b.toNat sz, h) else none
  | _ => none
theorem X_as_ft (n sz : Nat) (ag : Bool) (id off : Nat) (k : IntKind) (b : Int) (h : Heap) (h0 : 0 ≤ b) (h1 : b ≤ n) : evalX (.aslice n sz ag false true) [.ptr id off, .int k b] h = asM2 id off n sz b h (h.get id) := by
  simp only [evalX, boundA, asM2, if_true, List.head?_cons, h0, h1, and_self, Bool.false_eq_true, if_false]
  cases h.get id with
  | none => rfl
  | some o => cases o <;> simp
theorem asM2_row {id off n sz : Nat} {b : Int} {h : Heap} {mu : Bool} {s : Nat} {ag : Bool} {cs : List AVal} (hl : off + n * sz ≤ cs.length) (hp : 0 < sz) (h0 : 0 ≤ b) (h1 : b ≤ n) : asM2 id off n sz b h (some (.row mu s ag cs)) = some (.ref id off b.toNat sz, h) := by
  simp [asM2, hl, hp, h0, h1]
theorem X_s2ap_sl (n sz : Nat) (s : List UInt8) (t : Tok) (h : Heap) (hl : n ≤ s.length) (hn : 0 < n) (hz : sz = 1) : evalX (.s2ap n sz) [.sl (s.map byteV) t] h = some (.rp ((s.take n).map byteV), h) := by
  subst hz
  simp only [evalX]
  rw [if_pos, flat_byte, Nat.mul_one, List.map_take]
  refine ⟨by simpa using hl, hn, fun y hy => ?_⟩
  cases s with
  | nil => simp at hy
  | cons b s => simp at hy; subst hy; rfl
theorem X_slice30_sl (sz : Nat) (xs : List AVal) (t : Tok) (k k' : IntKind) (h : Heap) : evalX (.slice30 sz) [.sl xs t, .int k 0, .int k' 0] h = some (.sl [] (if t = .nil then .nil else .full), h) := rfl
theorem X_slice30_ref (sz a b c d : Nat) (k k' : IntKind) (h : Heap) : evalX (.slice30 sz) [.ref a b c d, .int k 0, .int k' 0] h = some (.sl [] .full, h) := rfl

/-! ### slices of typed elements -/
theorem iaddr_map {α : Type} [Inhabited α] (x i : Opd) {sz : Nat} {l : List α} {f : α → AVal} {t : Tok} {k : IntKind} {n : Int} (h : Heap) (h0 : 0 ≤ n) (h1 : n < l.length) :
    valA (.iaddr sz x i) (.sl (l.map f) t) (.int k n) h = if (f (nth l n.toNat)).cells.length = sz then some (.rp (f (nth l n.toNat)).cells) else none := by
  have hlt : n.toNat < l.length := by omega
  have : (l.map f)[n.toNat]? = some (f (nth l n.toNat)) := by
    simp [nth, List.getD_eq_getElem?_getD, List.getElem?_eq_getElem hlt]
  simp only [valA]
  rw [if_pos ⟨h0, by simp; omega⟩]
  simp only [this]
theorem iaddr_refP (x i : Opd) {sz id off len s : Nat} {k : IntKind} {n : Int} (h : Heap) (h0 : 0 ≤ n) (hy : n < len) (hs : s = sz) : valA (.iaddr sz x i) (.ref id off len s) (.int k n) h = some (.ptr id (off + n.toNat * sz)) := by
  simp only [valA, h0, hy, true_and, hs, if_true]

/-! ### plain results -/
theorem pu_agg (h : Heap) (cs : List AVal) : purify h (.agg cs) = (purifyL h cs).map .agg := by simp only [purify]
theorem pu_tup (h : Heap) (cs : List AVal) : purify h (.tup cs) = (purifyL h cs).map .tup := by simp only [purify]
theorem puL_nil (h : Heap) : purifyL h [] = some [] := by simp only [purifyL]
theorem puL_cons (h : Heap) (x : AVal) (xs : List AVal) : purifyL h (x :: xs) = sc (purify h x) (purifyL h xs) := by
  rw [purifyL]; unfold sc; cases purify h x <;> cases purifyL h xs <;> rfl
theorem pu_ref (h : Heap) (id off len sz : Nat) : purify h (.ref id off len sz) = (readRef h id off len sz).map (.sl · .none) := by simp only [purify]
theorem st_tup (cs : List AVal) : strip (.tup cs) = (stripL cs).map .tup := by simp only [strip]
theorem resA_none (vs : List AVal) : resultsA [] vs = .tup [] := rfl
theorem resA_two (i j : Nat) (vs : List AVal) : resultsA [i, j] vs = .tup [(vs[i]?).getD .bad, (vs[j]?).getD .bad] := rfl
theorem resA_three (i j k : Nat) (vs : List AVal) : resultsA [i, j, k] vs = .tup [(vs[i]?).getD .bad, (vs[j]?).getD .bad, (vs[k]?).getD .bad] := rfl
theorem get_push_eq {h : Heap} {o : Obj} {j : Nat} (hj : j = h.next) : (h.push o).get j = some o := by subst hj; exact get_push h o
theorem put_push_eq {h : Heap} {o o' : Obj} {j : Nat} (hj : j = h.next) : (h.push o).put j (some o') = h.push o' := by subst hj; exact put_push h o o'
theorem ifP_notB (b : Bool) (A B : Prop) : ifP ((!b) = true) A B = ifP (b = true) B A := by cases b <;> simp [ifP]
theorem bin_eql_b (a b : Bool) : binA .eql .bool (.bool a) (.bool b) = some (.bool (a == b)) := rfl
theorem bin_neq_b (a b : Bool) : binA .neq .bool (.bool a) (.bool b) = some (.bool (!(a == b))) := rfl
theorem bin_struct_eql (ks : List CK) (xs ys : List AVal) : binA .eql (.struct ks) (.agg xs) (.agg ys) = (cellsEq ks xs ys).map .bool := rfl
theorem bin_struct_neq (ks : List CK) (xs ys : List AVal) : binA .neq (.struct ks) (.agg xs) (.agg ys) = (cellsEq ks xs ys).map (fun b => .bool (!b)) := rfl
theorem bin_add_s (a b : List UInt8) (hl : a.length + b.length ≤ 9223372036854775807) : binA .add .arith (.str a) (.str b) = some (.str (a ++ b)) := by simp [binA, strBin, hl]
theorem bin_and_i (k : IntKind) (a b : Int) : binA .and .arith (.int k a) (.int k b) = some (.int k (k.wrap (BitVec.ofInt k.bits a &&& BitVec.ofInt k.bits b).toNat)) := by simp [binA, intBin]
theorem bin_fn (op : BinOp) (x y : AVal) : binA op .fn x y = cmpA op (fnEq x y) := rfl
theorem bin_sl (op : BinOp) (x y : AVal) : binA op .sl x y = cmpA op (slEq x y) := rfl
theorem bin_ptr (op : BinOp) (x y : AVal) : binA op .ptr x y = cmpA op (ptrEq x y) := rfl
/-! ### regions, with the temporaries the newest first -/
def evS (n : Nat) (vs ts : List AVal) : Opd → AVal
  | .v i => (vs[i]?).getD .bad
  | .t k => if k < n then (ts[n - 1 - k]?).getD .bad else .bad
  | .c x => x
def padT (n : Nat) (ts : List AVal) : List AVal := ts.take n ++ List.replicate (n - ts.length) .bad
theorem padT_length (n : Nat) (ts : List AVal) : (padT n ts).length = n := by simp [padT]; omega
theorem padT_cons (n : Nat) (r : AVal) (ts : List AVal) : padT (n + 1) (r :: ts) = r :: padT n ts := by simp [padT]
theorem padT_get (n i : Nat) (ts : List AVal) (hi : i < n) : ((padT n ts)[i]?).getD .bad = (ts[i]?).getD .bad := by
  unfold padT
  by_cases h1 : i < ts.length
  · rw [List.getElem?_append_left (by simp; omega), List.getElem?_take, if_pos hi]
  · rw [List.getElem?_append_right (by simp; omega), List.getElem?_replicate, List.getElem?_eq_none (by omega : ts.length ≤ i)]
    split <;> rfl
theorem evS_eq {n : Nat} {vs ts : List AVal} : evOpd vs (padT n ts).reverse = evS n vs ts := by
  funext x
  cases x with
  | v i => rfl
  | c x => rfl
  | t k =>
    simp only [evOpd, evS]
    have hn := padT_length n ts
    by_cases hk : k < n
    · rw [if_pos hk, List.getElem?_reverse (by omega), hn, padT_get _ _ _ (by omega)]
    · rw [if_neg hk, List.getElem?_eq_none (by simp; omega)]; rfl
/-- A region whose temporaries lie newest first. -/
def RV (F : Nat → Option AEnt) (l : List AOper) (n : Nat) (vs ts : List AVal) (h : Heap) (K : List AVal → Heap → Prop) : Prop := RW F l vs (padT n ts).reverse h K
@[congr] theorem RV_congr {l : List AOper} {n n' : Nat} {vs vs' ts ts' : List AVal} {h h' : Heap} {K : List AVal → Heap → Prop} {d : Prop} (e0 : Dum = d) (e1 : n = n') (e2 : vs = vs') (e3 : ts = ts') (e4 : h = h') : RV F l n vs ts h K = RV F l n' vs' ts' h' K := by rw [e1, e2, e3, e4]
@[congr] theorem WP_congr {c : ACode} {vs vs' : List AVal} {h h' : Heap} {Q : AExit → List AVal → Heap → Prop} {d : Prop} (e0 : Dum = d) (e2 : vs = vs') (e4 : h = h') : WP F c vs h Q = WP F c vs' h' Q := by rw [e2, e4]
theorem WP_opsV {l : List AOper} {vs : List AVal} {Q : AExit → List AVal → Heap → Prop} : WP F (.ops l) vs h Q ↔ RV F l 0 vs [] h (Q .normal) := by
  rw [WP_ops]
  exact Iff.rfl
theorem RV_nil {n : Nat} {vs ts : List AVal} {K : List AVal → Heap → Prop} : RV F [] n vs ts h K ↔ K vs h := by
  unfold RV
  rw [RW_nil]
theorem RV_exec {n : Nat} {d : ADst} {op : AOp} {l : List AOper} {vs ts : List AVal} {K : List AVal → Heap → Prop} :
    RV F (⟨d, op, none⟩ :: l) n vs ts h K ↔ XW F op (evS n vs ts) h (fun r h' => RV F l (n + 1) (putV d vs r) (putT d r :: ts) h' K) := by
  unfold RV
  rw [RW_exec, evS_eq]
  simp only [padT_cons, List.reverse_cons]
theorem RV_guardP {n : Nat} {d : ADst} {op : AOp} {x : Opd} {b : Bool} {l : List AOper} {vs ts : List AVal} {K : List AVal → Heap → Prop} :
    RV F (⟨d, op, some (x, b)⟩ :: l) n vs ts h K ↔ guardP (evS n vs ts x) b (RV F (⟨d, op, none⟩ :: l) n vs ts h K) (RV F (⟨d, .mov (.c (.tup [])), none⟩ :: l) n vs ts h K) := by
  unfold RV
  rw [RW_guardP, evS_eq]
theorem evS_v (n : Nat) (vs ts : List AVal) (i : Nat) : evS n vs ts (.v i) = (vs[i]?).getD .bad := _root_.id rfl
theorem evS_t (n : Nat) (vs ts : List AVal) (k : Nat) : evS n vs ts (.t k) = if k < n then (ts[n - 1 - k]?).getD .bad else .bad := _root_.id rfl
theorem evS_c (n : Nat) (vs ts : List AVal) (x : AVal) : evS n vs ts (.c x) = x := _root_.id rfl
attribute [irreducible] RV
theorem toNat_pred (a : Int) : (a - 1).toNat = a.toNat - 1 := by omega
theorem toNat_succ (i : Nat) : ((i : Int) + 1).toNat = i + 1 := by omega
theorem decide_tt {p : Prop} [Decidable p] (h : p) : decide p = true := decide_eq_true h

end Go.Abs

/-
  Rows of typed elements.
-/
set_option linter.unusedSimpArgs false
set_option linter.unusedVariables false
set_option linter.unusedSectionVars false
namespace Go.Abs

variable {α : Type} [Inhabited α] {f : α → AVal} {sz : Nat}

theorem flat_cons (x : AVal) (xs : List AVal) : flat (x :: xs) = x.cells ++ flat xs := rfl
theorem flat_nil : flat [] = [] := rfl
theorem flat_appendF (xs ys : List AVal) : flat (xs ++ ys) = flat xs ++ flat ys := by simp [flat]
theorem flatm_len (hf : ∀ x, (f x).cells.length = sz) : ∀ l : List α, (flat (l.map f)).length = l.length * sz
  | [] => by simp [flat]
  | x :: l => by
    have := flatm_len hf l
    simp only [List.map_cons, flat_cons, List.length_append, hf, this, List.length_cons, Nat.add_mul]
    omega

theorem flatm_drop (hf : ∀ x, (f x).cells.length = sz) : ∀ (l : List α) (n : Nat), (flat (l.map f)).drop (n * sz) = flat ((l.drop n).map f)
  | l, 0 => by simp
  | [], n + 1 => by simp [flat]
  | x :: l, n + 1 => by
    have := flatm_drop hf l n
    simp only [List.map_cons, flat_cons, List.drop_succ_cons]
    rw [← this, Nat.add_mul, Nat.one_mul, Nat.add_comm (n * sz) sz, ← List.drop_drop, List.drop_left' (hf x)]

theorem flatm_get (hf : ∀ x, (f x).cells.length = sz) (l : List α) {n k m : Nat} (hn : n < l.length) (hk : k + m ≤ sz) :
    ((flat (l.map f)).drop (n * sz + k)).take m = ((f (nth l n)).cells.drop k).take m := by
  rw [← List.drop_drop, flatm_drop hf, List.drop_eq_getElem_cons hn, List.map_cons, flat_cons, nth_eq hn]
  have := hf l[n]
  rw [List.drop_append_of_le_length (by omega), List.take_append_of_le_length (by simp; omega)]

theorem flatm_bound (hf : ∀ x, (f x).cells.length = sz) (l : List α) {n k m : Nat} (hn : n < l.length) (hk : k + m ≤ sz) : n * sz + k + m ≤ (flat (l.map f)).length := by
  rw [flatm_len hf]
  have : (n + 1) * sz ≤ l.length * sz := Nat.mul_le_mul_right _ hn
  rw [Nat.add_mul] at this
  omega

theorem loadG_flat (hf : ∀ x, (f x).cells.length = sz) (l : List α) {n k m : Nat} (ag : Bool) (mu : Bool) (s : Nat) (a : Bool) (hn : n < l.length) (hk : k + m ≤ sz) :
    loadG m ag (n * sz + k) (some (.row mu s a (flat (l.map f)))) = mk ag (((f (nth l n)).cells.drop k).take m) := by
  rw [loadG_row, if_pos (flatm_bound hf l hn hk), flatm_get hf l hn hk]
theorem loadG_flat0 (hf : ∀ x, (f x).cells.length = sz) (l : List α) {n m : Nat} (ag : Bool) (mu : Bool) (s : Nat) (a : Bool) (hn : n < l.length) (hk : m ≤ sz) :
    loadG m ag (n * sz) (some (.row mu s a (flat (l.map f)))) = mk ag ((f (nth l n)).cells.take m) := by
  have := loadG_flat hf l ag mu s a hn (k := 0) (m := m) (by omega)
  simpa using this
theorem loadG_flat1 (hf : ∀ x, (f x).cells.length = 1) (l : List α) {n m : Nat} (ag : Bool) (mu : Bool) (s : Nat) (a : Bool) (hn : n < l.length) (hk : m ≤ 1) :
    loadG m ag (n * 1) (some (.row mu s a (flat (l.map f)))) = mk ag ((f (nth l n)).cells.take m) := loadG_flat0 hf l ag mu s a hn hk

theorem setCells_append_right : ∀ (ys a b : List AVal) (k : Nat), setCells (a ++ b) (a.length + k) ys = a ++ setCells b k ys
  | [], a, b, k => by simp [setCells]
  | y :: ys, a, b, k => by
    simp only [setCells]
    rw [List.set_append_right _ _ (by omega), show a.length + k - a.length = k by omega, show a.length + k + 1 = a.length + (k + 1) by omega, setCells_append_right ys]
theorem setCells_append_left : ∀ (ys a b : List AVal) (k : Nat), k + ys.length ≤ a.length → setCells (a ++ b) k ys = setCells a k ys ++ b
  | [], a, b, k, _ => by simp [setCells]
  | y :: ys, a, b, k, h => by
    simp only [setCells, List.length_cons] at h ⊢
    rw [List.set_append_left _ _ (by omega), setCells_append_left ys _ _ _ (by simp; omega)]
theorem setCells_length : ∀ (ys a : List AVal) (k : Nat), (setCells a k ys).length = a.length
  | [], a, k => rfl
  | y :: ys, a, k => by simp only [setCells]; rw [setCells_length ys]; simp

/-- A store into an element. -/
theorem setCells_flat (hf : ∀ x, (f x).cells.length = sz) : ∀ (l : List α) {n k : Nat} {ys : List AVal} {x' : α} (hn : n < l.length) (hk : k + ys.length ≤ sz) (hx : (f x').cells = setCells (f (nth l n)).cells k ys),
    setCells (flat (l.map f)) (n * sz + k) ys = flat ((l.set n x').map f)
  | [], n, k, ys, x', hn, _, _ => by simp at hn
  | x :: l, 0, k, ys, x', hn, hk, hx => by
    have h0 : nth (x :: l) 0 = x := rfl
    rw [h0] at hx
    simp only [List.map_cons, flat_cons, Nat.zero_mul, Nat.zero_add, List.set_cons_zero]
    rw [setCells_append_left _ _ _ _ (by rw [hf]; exact hk), hx]
  | x :: l, n + 1, k, ys, x', hn, hk, hx => by
    have h0 : nth (x :: l) (n + 1) = nth l n := rfl
    rw [h0] at hx
    have ih := setCells_flat hf l (n := n) (k := k) (ys := ys) (x' := x') (by simpa using hn) hk hx
    simp only [List.map_cons, flat_cons, List.set_cons_succ]
    rw [← ih, show (n + 1) * sz + k = (f x).cells.length + (n * sz + k) by rw [hf, Nat.add_mul]; omega, setCells_append_right]

theorem storeG_flat (hf : ∀ x, (f x).cells.length = sz) (l : List α) {n k m id : Nat} {v : AVal} {h : Heap} (s : Nat) (a : Bool) (x' : α) (hn : n < l.length) (hv : v.cells.length = m) (hk : k + m ≤ sz) (ho : v.cells.all AVal.one = true) (hx : (f x').cells = setCells (f (nth l n)).cells k v.cells) :
    storeG m id (n * sz + k) v h (some (.row true s a (flat (l.map f)))) = some (h.put id (some (.row true s a (flat ((l.set n x').map f))))) := by
  rw [storeG_row, if_pos ⟨hv, flatm_bound hf l hn hk, ho⟩, setCells_flat hf l hn (by omega) hx]

/-- The whole element is stored. -/
theorem storeG_flatw (hf : ∀ x, (f x).cells.length = sz) (l : List α) {n id : Nat} {h : Heap} (s : Nat) (a : Bool) (x' : α) (hn : n < l.length) (ho : (f x').cells.all AVal.one = true) :
    storeG sz id (n * sz) (f x') h (some (.row true s a (flat (l.map f)))) = some (h.put id (some (.row true s a (flat ((l.set n x').map f))))) := by
  have hs : ∀ (ys zs : List AVal), zs.length = ys.length → setCells zs 0 ys = ys := by
    intro ys
    have gen : ∀ (ys pre zs : List AVal), zs.length = ys.length → setCells (pre ++ zs) pre.length ys = pre ++ ys := by
      intro ys
      induction ys with
      | nil => intro pre zs h; simp at h; subst h; simp [setCells]
      | cons y ys ih =>
        intro pre zs h
        cases zs with
        | nil => simp at h
        | cons z zs =>
          simp only [setCells]
          rw [List.set_append_right _ _ (Nat.le_refl _), Nat.sub_self, List.set_cons_zero]
          have := ih (pre ++ [y]) zs (by simpa using h)
          simpa using this
    intro zs hz
    simpa using gen ys [] zs hz
  have := storeG_flat hf l (n := n) (k := 0) (m := sz) (id := id) (v := f x') (h := h) s a x' hn (hf x') (by omega) ho (hs _ _ (by rw [hf, hf])).symm
  simpa using this

/-- A row is read again, element by element. -/
theorem chunkm (hf : ∀ x, (f x).cells.length = sz) (ag : Bool) (hm : ∀ x, mk ag (f x).cells = some (f x)) : ∀ (l : List α) (rest : List AVal), chunk sz ag l.length (flat (l.map f) ++ rest) = some (l.map f)
  | [], rest => rfl
  | x :: l, rest => by
    have ht : (flat ((x :: l).map f) ++ rest).take sz = (f x).cells := by
      simp only [List.map_cons, flat_cons, List.append_assoc]
      rw [List.take_left' (hf x)]
    have hd : (flat ((x :: l).map f) ++ rest).drop sz = flat (l.map f) ++ rest := by
      simp only [List.map_cons, flat_cons, List.append_assoc]
      rw [List.drop_left' (hf x)]
    simp only [List.length_cons, chunk, ht, hd, hm, chunkm hf ag hm l rest, hf, if_true]
    rfl

theorem stripm {g : α → AVal} (hs : ∀ x, stripL (f x).cells = some (g x).cells) : ∀ (l : List α), stripL (flat (l.map f)) = some (flat (l.map g))
  | [] => rfl
  | x :: l => by
    simp only [List.map_cons, flat_cons]
    exact stripL_append (hs x) (stripm hs l)

/-- The first elements of a row, as a plain slice. -/
theorem readRef_flat {g : α → AVal} (hf : ∀ x, (f x).cells.length = sz) (hg : ∀ x, (g x).cells.length = sz) (ag : Bool) (hm : ∀ x, mk ag (g x).cells = some (g x)) (hs : ∀ x, stripL (f x).cells = some (g x).cells) {h : Heap} {id n : Nat} {mu : Bool} (l : List α) (hr : h.get id = some (.row mu sz ag (flat (l.map f)))) (hn : n ≤ l.length) :
    readRef h id 0 n sz = some ((l.take n).map g) := by
  have hl := flatm_len hf l
  have hle : 0 + n * sz ≤ (flat (l.map f)).length := by rw [hl, Nat.zero_add]; exact Nat.mul_le_mul_right _ hn
  have hst := stripm hs l
  unfold readRef
  simp only [hr, hle, and_self, if_true, hst]
  have e1 : flat (l.map g) = flat ((l.take n).map g) ++ flat ((l.drop n).map g) := by
    rw [← flat_appendF, ← List.map_append, List.take_append_drop]
  have := chunkm hg ag hm (l.take n) (flat ((l.drop n).map g))
  rw [List.length_take, Nat.min_eq_left hn, ← e1] at this
  rw [List.drop_zero]
  exact this

/-- A new row of zeros. -/
theorem repl_flat {zs : List AVal} (z : α) (hz : (f z).cells = zs) : ∀ n, repl n zs = flat ((List.replicate n z).map f)
  | 0 => rfl
  | n + 1 => by
    have := repl_flat z hz n
    simp only [repl] at this ⊢
    rw [List.replicate_succ, List.replicate_succ, List.flatten_cons, List.map_cons, flat_cons, this, hz]

theorem nth_set_self {l : List α} {i : Nat} {x : α} (h : i < l.length) : nth (l.set i x) i = x := by rw [nth_eq (by simpa using h)]; simp
theorem nth_set_ne {l : List α} {i j : Nat} {x : α} (h : i ≠ j) : nth (l.set i x) j = nth l j := by simp [nth, List.getD_eq_getElem?_getD, List.getElem?_set_ne h]
theorem nth_append_left {l m : List α} {i : Nat} (h : i < l.length) : nth (l ++ m) i = nth l i := by simp [nth, List.getD_eq_getElem?_getD, List.getElem?_append_left h]
theorem nth_append_right {l m : List α} {i : Nat} (h : l.length ≤ i) : nth (l ++ m) i = nth m (i - l.length) := by simp [nth, List.getD_eq_getElem?_getD, List.getElem?_append_right h]
theorem nth_replicate {n i : Nat} {x : α} (h : i < n) : nth (List.replicate n x) i = x := by rw [nth_eq (by simpa using h)]; simp
theorem nth_take {l : List α} {n i : Nat} (h : i < n) : nth (l.take n) i = nth l i := by simp [nth, List.getD_eq_getElem?_getD, List.getElem?_take, h]

/-! ### appends -/
/-- A list that may grow, on the heap. -/
def Grow (h : Heap) (ty sz : Nat) (tk : Tok) : Prop := tk = .nil ∨ ∃ id, tk = .own id sz ∧ h.get id = some (.tok ty)

theorem append_own {h : Heap} {ty bytes : Nat} {ag : Bool} {l : List α} {tk : Tok} {y : AVal} {ys : List α} (hf : ∀ x, (f x).cells.length = sz) (hm : ∀ x, mk ag (f x).cells = some (f x)) (hs : ∀ x, stripL (f x).cells = some (f x).cells)
    (hy : lenA y = some ys.length) (hn : elemsA h sz y = some (flat (ys.map f))) (hg : Grow h ty sz tk) (hnil : tk = .nil → l = []) (hlen : l.length + ys.length ≤ 1000000) (hb : bytes ≤ 10000) (h0 : 0 < sz) (h1 : sz < 1000000) (hne : ys ≠ []) :
    ∃ h', appendA false ty bytes sz ag (.sl (l.map f) tk) y h = some (.sl ((l ++ ys).map f) (.own h.next sz), h') ∧ h'.next = h.next + 1 ∧ h'.get h.next = some (.tok ty) ∧ (∀ j, j < h.next → (∀ i s, tk = .own i s → j ≠ i) → h'.get j = h.get j) := by
  have hc := chunkm hf ag hm ys []
  rw [List.append_nil] at hc
  have hst := stripm hs ys
  have hroom := roomOk_of (n := l.length + ys.length) hlen hb
  have hroom2 := roomOk_of (n := 0 + ys.length) (bytes := bytes) (by omega) hb
  have hys : ¬ ys.length = 0 := by simpa using hne
  have hsm : small sz = true := by simp [small, h1]
  rcases hg with rfl | ⟨i, rfl, hg⟩
  · have hl := hnil rfl
    subst hl
    refine ⟨h.push (.tok ty), ?_, rfl, get_push _ _, fun j hj _ => get_push_ne (by omega)⟩
    simp only [appendA, hy, hn, hys, if_false, List.map_nil, List.length_nil, hroom2, h0, hsm, decide_true, Bool.and_self, Bool.not_true, Bool.false_eq_true, hst, hc, if_true, List.nil_append]
  · refine ⟨(h.put i none).push (.tok ty), ?_, by rw [push_next, put_next], get_push_eq (by rw [put_next]), fun j hj hne' => ?_⟩
    · simp only [appendA, hy, hn, hys, if_false, List.length_map, hroom, h0, hsm, decide_true, Bool.and_self, Bool.not_true, Bool.false_eq_true, hst, hc, hg, and_self, if_true, List.map_append]
    · rw [get_push_ne (by rw [put_next]; omega), get_put_ne (hne' i _ rfl)]

theorem elems_sl {h : Heap} {l : List α} {t : Tok} (hf : ∀ x, (f x).cells.length = sz) : elemsA h sz (.sl (l.map f) t) = some (flat (l.map f)) := by
  simp only [elemsA]
  rw [if_pos]
  intro y hy
  cases l with
  | nil => simp at hy
  | cons x l => simp at hy; subst hy; exact hf x
theorem lenA_sl {l : List α} {t : Tok} : lenA (.sl (l.map f) t) = some l.length := by simp [lenA]

theorem append_K {K : AVal → Heap → Prop} {h : Heap} {ty bytes : Nat} {ag : Bool} {tk : Tok} {y : AVal} (l ys : List α) (hf : ∀ x, (f x).cells.length = sz) (hm : ∀ x, mk ag (f x).cells = some (f x)) (hs : ∀ x, stripL (f x).cells = some (f x).cells)
    (hy : lenA y = some ys.length) (hn : elemsA h sz y = some (flat (ys.map f))) (hg : Grow h ty sz tk) (hnil : tk = .nil ↔ l = []) (hlen : l.length + ys.length ≤ 1000000) (hb : bytes ≤ 10000) (h0 : 0 < sz) (h1 : sz < 1000000)
    (q : ∀ h' tk', Grow h' ty sz tk' → (tk' = .nil ↔ l ++ ys = []) → h.next ≤ h'.next → (∀ j mu s a cs, h.get j = some (.row mu s a cs) → h'.get j = some (.row mu s a cs)) → (∀ j, j < h.next → (∀ i s, tk = .own i s → j ≠ i) → h'.get j = h.get j) → (∀ i s, tk' = .own i s → tk = .own i s ∨ i = h.next) → K (.sl ((l ++ ys).map f) tk') h') : bindH (appendA false ty bytes sz ag (.sl (l.map f) tk) y h) K := by
  by_cases hne : ys = []
  · subst hne
    refine ⟨_, h, by simp only [appendA, hy, hn, List.length_nil, if_true]; rfl, ?_⟩
    have := q h tk hg (by simpa using hnil) (Nat.le_refl _) (fun _ _ _ _ _ h => h) (fun _ _ _ => rfl) (fun i s e => .inl e)
    rwa [List.append_nil] at this
  · obtain ⟨h', e, e1, e2, e3⟩ := append_own (bytes := bytes) hf hm hs hy hn hg hnil.1 hlen hb h0 h1 hne
    refine ⟨_, h', e, q h' _ (.inr ⟨_, rfl, e2⟩) (by simp [hne]) (by omega) (fun j mu s a cs hj => ?_) e3 (fun i s e => by simp only [Tok.own.injEq] at e; exact .inr e.1.symm)⟩
    rw [e3 j (get_lt hj)]
    · exact hj
    · rintro i s' rfl rfl
      rcases hg with hg | ⟨i', hg, hg2⟩
      · simp at hg
      · simp at hg; rw [← hg.1] at hg2; rw [hg2] at hj; simp at hj

theorem Grow.put {h : Heap} {ty sz id : Nat} {tk : Tok} {mu : Bool} {s : Nat} {a : Bool} {cs : List AVal} (g : Grow h ty sz tk) (hr : h.get id = some (.row mu s a cs)) (o : Option Abs.Obj) : Grow (h.put id o) ty sz tk := by
  rcases g with g | ⟨i, g1, g2⟩
  · exact .inl g
  · exact .inr ⟨i, g1, by rw [get_put_ne]; exact g2; rintro rfl; rw [g2] at hr; simp at hr⟩
theorem Grow.push {h : Heap} {ty sz : Nat} {tk : Tok} (g : Grow h ty sz tk) (o : Abs.Obj) : Grow (h.push o) ty sz tk := by
  rcases g with g | ⟨i, g1, g2⟩
  · exact .inl g
  · exact .inr ⟨i, g1, get_push_old g2⟩

theorem ite_some {β : Type} {c : Prop} [Decidable c] (a : β) (hc : c) : (if c then some a else none) = some a := if_pos hc
theorem ite_mk {c : Prop} [Decidable c] (ag : Bool) (cs : List AVal) (hc : c) : (if c then mk ag cs else none) = mk ag cs := if_pos hc
/-- One cell of an element is stored. -/
theorem set_flat (hf : ∀ x, (f x).cells.length = sz) (l : List α) {n k : Nat} {c : AVal} (x' : α) (hn : n < l.length) (hk : k < sz) (hx : (f x').cells = (f (nth l n)).cells.set k c) : (flat (l.map f)).set (n * sz + k) c = flat ((l.set n x').map f) :=
  setCells_flat hf l (ys := [c]) hn (by simp; omega) hx
theorem ints_pick : ∀ (L : List Int) (j : Nat), j < L.length → ∃ v ∈ L, mk false (List.take 1 (List.drop (j * 1) (L.map (.int .i64)))) = some (.int .i64 v)
  | [], j, h => by simp at h
  | x :: L, 0, _ => ⟨x, by simp, rfl⟩
  | x :: L, j + 1, h => by
    obtain ⟨v, h1, h2⟩ := ints_pick L j (by simpa using h)
    exact ⟨v, by simp [h1], by simpa using h2⟩

/-! ### parts -/
theorem sslice_ab (s : List UInt8) (k k' : IntKind) (a b : Int) (h0 : 0 ≤ a) (h1 : a ≤ b) (h2 : b ≤ s.length) : ssliceA (.str s) (some (.int k a)) (some (.int k' b)) = some (.str ((s.drop a.toNat).take (b.toNat - a.toNat))) :=
  sslice_str s _ _ (boundA_int k' b _ _ (by omega) h2) (boundA_int k a _ _ h0 (by omega))
theorem sslice_a (s : List UInt8) (k : IntKind) (a : Int) (h0 : 0 ≤ a) (h2 : a ≤ s.length) : ssliceA (.str s) (some (.int k a)) none = some (.str (s.drop a.toNat)) := by
  rw [sslice_str s _ _ (boundA_none _ _) (boundA_int k a _ _ h0 h2), List.take_of_length_le (by simp)]
theorem sslice_b (s : List UInt8) (k : IntKind) (b : Int) (h0 : 0 ≤ b) (h2 : b ≤ s.length) : ssliceA (.str s) none (some (.int k b)) = some (.str (s.take b.toNat)) := by
  rw [sslice_str s _ _ (boundA_int k b _ _ h0 h2) (boundA_none _ _)]; rfl
theorem slice_sl_b (f : α → AVal) (l : List α) {sz : Nat} (t : Tok) (k : IntKind) (b : Int) (h0 : 0 ≤ b) (h2 : b ≤ l.length) (hf : ∀ x, (f x).cells.length = sz) (ht : t = .nil → l = []) : sliceA sz (.sl (l.map f) t) none (some (.int k b)) = some (.sl ((l.take b.toNat).map f) t.sub) := by
  have hb : boundA (some (.int k b)) l.length l.length = some b.toNat := boundA_int k b _ _ h0 h2
  simp only [sliceA, List.length_map, hb, boundA_none, List.drop_zero, Nat.sub_zero, ← List.map_take]
  rw [if_pos]
  refine ⟨fun x hx => ?_, fun e => by rw [ht e]; rfl⟩
  cases l with
  | nil => simp at hx
  | cons y l => simp at hx; subst hx; exact hf y
theorem slice_ref_b (id off len sz : Nat) (k : IntKind) (b : Int) (h0 : 0 ≤ b) (h2 : b ≤ len) : sliceA sz (.ref id off len sz) none (some (.int k b)) = some (.ref id off b.toNat sz) := by
  have hb : boundA (some (.int k b)) len len = some b.toNat := boundA_int k b _ _ h0 h2
  simp only [sliceA, hb, boundA_none, if_true, Nat.zero_mul, Nat.add_zero, Nat.sub_zero]
theorem slice_ref_a (id off len sz : Nat) (k : IntKind) (a : Int) (h0 : 0 ≤ a) (h2 : a ≤ len) : sliceA sz (.ref id off len sz) (some (.int k a)) none = some (.ref id (off + a.toNat * sz) (len - a.toNat) sz) := by
  have hb : boundA (some (.int k a)) 0 len = some a.toNat := boundA_int k a _ _ h0 h2
  simp only [sliceA, hb, boundA_none, if_true]

/-! ### literal slices -/
theorem repl_zero (z : List AVal) : repl 0 z = [] := rfl
theorem repl_succ (n : Nat) (z : List AVal) : repl (n + 1) z = z ++ repl n z := by simp [repl, List.replicate_succ]
def chunkO (sz : Nat) (ag : Bool) (n : Nat) : Option (List AVal) → Option (List AVal)
  | some cs => chunk sz ag n cs
  | none => none
def consO (sz : Nat) : Option AVal → Option (List AVal) → Option (List AVal)
  | some x, some xs => if x.cells.length = sz then some (x :: xs) else none
  | _, _ => none
theorem chunkO_some (sz : Nat) (ag : Bool) (n : Nat) (cs : List AVal) : chunkO sz ag n (some cs) = chunk sz ag n cs := _root_.id rfl
theorem consO_some (sz : Nat) (x : AVal) (xs : List AVal) : consO sz (some x) (some xs) = if x.cells.length = sz then some (x :: xs) else none := _root_.id rfl
theorem chunk_z (sz : Nat) (ag : Bool) (cs : List AVal) : chunk sz ag 0 cs = some [] := _root_.id rfl
theorem chunk_s (sz : Nat) (ag : Bool) (n : Nat) (cs : List AVal) : chunk sz ag (n + 1) cs = consO sz (mk ag (cs.take sz)) (chunk sz ag n (cs.drop sz)) := by
  rw [chunk]; unfold consO
  cases mk ag (cs.take sz) <;> cases chunk sz ag n (cs.drop sz) <;> rfl
theorem lit0 {ty n sz : Nat} {ag : Bool} {z cs : List AVal} {h : Heap} (hk : (decide (z.length = sz) && z.all AVal.one && decide (n * sz ≤ 16777216) && small sz) = true) :
    litA 0 ty n sz ag z (some cs) h = (chunkO sz ag n (stripL cs)).map (fun xs => (.sl xs .none, h)) := by
  simp only [litA, hk]
  cases stripL cs with
  | none => rfl
  | some cs => simp only [chunkO]; cases chunk sz ag n cs <;> rfl
theorem lit2 {ty n sz : Nat} {ag : Bool} {z cs : List AVal} {h : Heap} (hk : (decide (z.length = sz) && z.all AVal.one && decide (n * sz ≤ 16777216) && small sz) = true) :
    litA 2 ty n sz ag z (some cs) h = some (.ref h.next 0 n sz, h.push (.row true sz ag cs)) := by
  simp only [litA, hk]; rfl

end Go.Abs

/-
  The rules in two bundles.
-/
set_option linter.unusedSimpArgs false
set_option linter.unusedVariables false
set_option linter.defProp false
namespace Go.Abs
theorem cells_bool (b : Bool) : (AVal.bool b).cells = [(AVal.bool b)] := _root_.id rfl
theorem one_bool (b : Bool) : (AVal.bool b).one = true := _root_.id rfl
theorem cells_int (k : IntKind) (n : Int) : (AVal.int k n).cells = [(AVal.int k n)] := _root_.id rfl
theorem one_int (k : IntKind) (n : Int) : (AVal.int k n).one = true := _root_.id rfl
theorem cells_str (s : List UInt8) : (AVal.str s).cells = [(AVal.str s)] := _root_.id rfl
theorem one_str (s : List UInt8) : (AVal.str s).one = true := _root_.id rfl
theorem cells_sl (xs : List AVal) (t : Tok) : (AVal.sl xs t).cells = [(AVal.sl xs t)] := _root_.id rfl
theorem one_sl (xs : List AVal) (t : Tok) : (AVal.sl xs t).one = true := _root_.id rfl
theorem cells_nilptr : AVal.nilptr.cells = [AVal.nilptr] := _root_.id rfl
theorem one_nilptr : AVal.nilptr.one = true := _root_.id rfl
theorem cells_ptr (i o : Nat) : (AVal.ptr i o).cells = [(AVal.ptr i o)] := _root_.id rfl
theorem one_ptr (i o : Nat) : (AVal.ptr i o).one = true := _root_.id rfl
theorem cells_ref (a b c d : Nat) : (AVal.ref a b c d).cells = [(AVal.ref a b c d)] := _root_.id rfl
theorem one_ref (a b c d : Nat) : (AVal.ref a b c d).one = true := _root_.id rfl
theorem cells_fn (f : Nat) (c : List AVal) : (AVal.fn f c).cells = [(AVal.fn f c)] := _root_.id rfl
theorem one_fn (f : Nat) (c : List AVal) : (AVal.fn f c).one = true := _root_.id rfl
theorem cells_nilfn : AVal.nilfn.cells = [AVal.nilfn] := _root_.id rfl
theorem one_nilfn : AVal.nilfn.one = true := _root_.id rfl
theorem cells_nilif : AVal.nilif.cells = [AVal.nilif] := _root_.id rfl
theorem one_nilif : AVal.nilif.one = true := _root_.id rfl
theorem cells_agg (cs : List AVal) : (AVal.agg cs).cells = cs := _root_.id rfl
theorem set_nil (cs : List AVal) (i : Nat) : setCells cs i [] = cs := _root_.id rfl
theorem set_cons (cs : List AVal) (i : Nat) (x : AVal) (xs : List AVal) : setCells cs i (x :: xs) = setCells (cs.set i x) (i + 1) xs := _root_.id rfl
/-- The rules that go ahead. -/
def pre := And.intro @WP_block (And.intro @XW_callK (And.intro @WP_seq (And.intro @WP_opsV (And.intro @WP_skip (And.intro @WP_ret (
  And.intro @WP_exit (And.intro @WP_condP (And.intro @sq_normal (And.intro @sq_ret (And.intro @sq_exit (And.intro @bk_normal (
  And.intro @bk_ret (And.intro @bk_exit (And.intro @lp_ret (And.intro @lp_exit (And.intro @XW_mov (And.intro @XW_bin (
  And.intro @XW_un (And.intro @XW_load (And.intro @XW_store (And.intro @XW_len (And.intro @XW_slen (And.intro @XW_faddr (
  And.intro @XW_nilc (And.intro @XW_ext (And.intro @XW_pickP (And.intro @XW_alloc (And.intro @XW_box (And.intro @XW_iaddr (
  And.intro @XW_pc (And.intro @XW_build (And.intro @XW_field (And.intro @XW_clo (And.intro @XW_toInt (And.intro @XW_idstr (
  And.intro @XW_x (And.intro @XW_slice (And.intro @XW_sslice (And.intro @XW_sidx (And.intro @XW_appendK (And.intro @XW_copyK (And.intro @XW_mksl (
  @XW_lit)))))))))))))))))))))))))))))))))))))))))))
/-- The rules that follow. -/
def post := And.intro @X_mkmap (And.intro @X_mlook (And.intro @X_mput (And.intro @putM_map (And.intro @X_mdel (And.intro @delM_map (And.intro @isKey_int (And.intro @isKey_str (And.intro @X_s2b_f (And.intro @X_s2b_t (And.intro @X_b2s_sl (And.intro @X_b2s_ref (And.intro @X_as_ff (And.intro @asM_row (And.intro @X_as_ft (And.intro @asM2_row (And.intro @X_s2ap_sl (And.intro @X_slice30_sl (And.intro @X_slice30_ref (
  And.intro @Dum_eq (And.intro @PC_some (And.intro @PC_none (And.intro @stripL_nil (And.intro @stripL_sc (And.intro @sc_some (
  And.intro @sc_none (And.intro @st_int (And.intro @st_bool (And.intro @st_str (And.intro @st_none (And.intro @st_nil (
  And.intro @st_own (And.intro @st_ref (And.intro @st_agg (And.intro @st_tup (And.intro @strip_pt (And.intro @map_some' (
  And.intro @resA_one (And.intro @resA_none (And.intro @resA_two (And.intro @resA_three (And.intro @pu_int (And.intro @pu_bool (
  And.intro @pu_str (And.intro @pu_none (And.intro @pu_nil (And.intro @pu_own (And.intro @pu_agg (And.intro @pu_tup (
  And.intro @puL_nil (And.intro @puL_cons (And.intro @purify_pt (And.intro @false_and (And.intro @and_false (And.intro @or_true (
  And.intro @true_or (And.intro @or_false (And.intro @false_or (And.intro @Bool.and_false (And.intro @Bool.false_and (And.intro @not_true_eq_false (
  And.intro @not_false_eq_true (And.intro @RV_nil (And.intro @RV_exec (And.intro @RV_guardP (And.intro @evS_v (And.intro @evS_t (
  And.intro @evS_c (And.intro @ev_v (And.intro @ev_t (And.intro @ev_c (And.intro @putV_tmp (And.intro @putV_no (
  And.intro @putV_var (And.intro @putT_tmp (And.intro @putT_no (And.intro @putT_var (And.intro @bin_lss (And.intro @bin_leq (
  And.intro @bin_gtr (And.intro @bin_geq (And.intro @bin_eql (And.intro @bin_neq (And.intro @bin_add (And.intro @bin_sub (
  And.intro @bin_mul (And.intro @bin_eql_s (And.intro @bin_neq_s (And.intro @bin_add_s (And.intro @bin_eql_b (And.intro @bin_neq_b (
  And.intro @bin_struct_eql (And.intro @bin_struct_neq (And.intro @bin_rem (And.intro @bin_quo (And.intro @un_not (And.intro @un_neg (
  And.intro @load_rp (And.intro @load_ptr (And.intro @loadG_row (And.intro @store_ptr (And.intro @storeG_row (And.intro @mk_f (
  And.intro @mk_t (And.intro @len_sl (And.intro @len_ref (And.intro @slen_str (And.intro @faddr_rp (And.intro @faddr_ptr (
  And.intro @nilc_ptr (And.intro @nilc_fn (And.intro @ext_tup (And.intro @iaddr_map (And.intro @iaddr_refP (And.intro @sidx_str (
  And.intro @boundA_none (And.intro @boundA_int (And.intro @ite_some (And.intro @ite_mk (And.intro @sslice_ab (And.intro @sslice_a (
  And.intro @sslice_b (And.intro @slice_sl_b (And.intro @slice_ref_b (And.intro @slice_ref_a (And.intro @mksl_int (And.intro @fillA_nil (
  And.intro @fillA_cons (And.intro @callK_fn (And.intro @condP_bool (And.intro @guardP_t (And.intro @guardP_f (And.intro @guardP_tup (
  And.intro @ifP_true (And.intro @ifP_false (And.intro @ifP_not (And.intro @ifP_notB (And.intro @push_next (And.intro @put_next (
  And.intro @empty_next (And.intro @get_push_eq (And.intro @get_push_ne (And.intro @get_put_old (And.intro @get_put_ne (And.intro @put_push_eq (
  And.intro @put_push_ne (And.intro @wrap_in64 (And.intro @List.length_map.{0, 0} (And.intro @List.length_append.{0} (And.intro @List.getElem?_cons_zero.{0} (And.intro @List.getElem?_cons_succ.{0} (
  And.intro @List.getElem?_nil.{0} (And.intro @Option.getD_some.{0} (And.intro @Option.getD_none.{0} (And.intro @List.set_cons_zero.{0} (And.intro @List.set_cons_succ.{0} (And.intro @List.nil_append.{0} (
  And.intro @List.cons_append.{0} (And.intro @List.append_eq.{0} (And.intro @List.length_cons.{0} (And.intro @List.length_nil.{0} (And.intro @List.take_succ_cons.{0} (And.intro @List.take_zero.{0} (
  And.intro @List.drop_succ_cons.{0} (And.intro @List.drop_zero.{0} (And.intro @List.map_cons.{0, 0} (And.intro @List.map_nil.{0, 0} (And.intro @Option.map_some.{0, 0} (And.intro @Option.map_none.{0, 0} (
  And.intro @Option.some.injEq.{0} (And.intro @exists_eq_left.{1} (And.intro @exists_eq_left'.{1} (And.intro @AVal.bool.injEq (And.intro @if_true.{1} (And.intro @if_false.{1} (
  And.intro @ite_true.{1} (And.intro @ite_false.{1} (And.intro @Bool.false_eq_true (And.intro @decide_true (And.intro @decide_false (And.intro @and_true (
  And.intro @true_and (And.intro @List.all_cons.{0} (And.intro @List.all_nil.{0} (And.intro @Bool.and_true (And.intro @Bool.true_and (And.intro @Bool.and_self (
  And.intro @Bool.not_true (And.intro @Bool.not_false (And.intro @Nat.zero_add (And.intro @ne_eq.{1} (And.intro @Nat.le_refl (And.intro @Nat.add_zero (
  And.intro @decide_eq_true_eq (And.intro @Int.toNat_natCast (And.intro @Int.toNat_zero (And.intro @repl_zero (And.intro @repl_succ (And.intro @chunkO_some (
  And.intro @consO_some (And.intro @chunk_z (And.intro @chunk_s (And.intro @lit0 (And.intro @lit2 (And.intro @List.append_nil.{0} (
  And.intro @Nat.zero_mul (And.intro @Nat.one_mul (And.intro @toNat_pred (And.intro @toNat_succ (And.intro @AVal.int.injEq (And.intro @AVal.str.injEq (
  And.intro @bindK_some (And.intro @bindH_some (And.intro @bindB_some (And.intro @cells_bool (And.intro @one_bool (And.intro @cells_int (
  And.intro @one_int (And.intro @cells_str (And.intro @one_str (And.intro @cells_sl (And.intro @one_sl (And.intro @cells_nilptr (
  And.intro @one_nilptr (And.intro @cells_ptr (And.intro @one_ptr (And.intro @cells_ref (And.intro @one_ref (And.intro @cells_fn (
  And.intro @one_fn (And.intro @cells_nilfn (And.intro @one_nilfn (And.intro @cells_nilif (And.intro @one_nilif (And.intro @cells_agg (
  And.intro @set_nil (@set_cons))))))))))))))))))))))))))))))))))))))))))))))))))))))))))))))))))))))))))))))))))))))))))))))))))))))))))))))))))))))))))))))))))))))))))))))))))))))))))))))))))))))))))))))))))))))))))))))))))))))))))))))))))))))))))))))))))))))))))))
end Go.Abs

/-
  slices.Clone of the disk's blocks: told by hand, proved by a run of its translation.
-/
set_option linter.unusedSimpArgs false
set_option linter.unusedVariables false
namespace Go.Proofs.Ytjofjgflcogklaa
open Go Go.Abs

def cloneS (args : List AVal) (h : Heap) : Option (AVal × Heap) :=
  match args with
  | [.ref id 0 len 64] => if len = 0 then none else appendA true 74 64 64 true (.sl [] .full) (.ref id 0 len 64) h
  | _ => none

def hints0 : Hints := ⟨fun _ _ => false, fun f s => f == 52 && s == 7, fun _ _ => false, fun _ => false, fun _ => false, fun _ _ => []⟩
def F0 (g : Nat) : Option AEnt := if g = 52 then some (.comp c52) else none

set_option maxRecDepth 100000 in
theorem c52_ok0 : compFunc Try.prog hints0 52 = some c52 := by kernel_rfl

theorem table0 : Table Try.prog hints0 F0 := by
  intro g
  unfold F0
  split
  · rename_i hg; subst hg; exact ⟨c52_ok0, rfl⟩
  · trivial

theorem binsl_ref (id off len sz : Nat) : binA .eql .sl (.ref id off len sz) (.sl [] .nil) = some (.bool false) := rfl
theorem evx_elit (h : Heap) : evalX .elit [] h = some (.sl [] .full, h) := rfl

theorem clone_gives {args : List AVal} {h h' : Heap} {r : AVal} (e : cloneS args h = some (r, h')) : Gives F0 52 args h r h' := by
  unfold cloneS at e
  split at e
  · rename_i id len
    split at e
    · simp at e
    · rename_i hlen
      have hx : evalX (.afresh 74 64 64 true) [.sl [] .full, .ref id 0 len 64] h = some (r, h') := by
        simp only [evalX]; exact e
      refine gives_of (fn := c52) rfl ?_
      dsimp only [c52]
      try simp (maxSteps := 4000000) (disch := first | assumption | omega | (simp only [push_next, put_next, empty_next, List.length_cons, List.length_nil] <;> omega) | exact _root_.id rfl | exact _root_.id (fun _ => rfl) | fail) only [↓pre, post, Int.reduceEq, Int.reduceLT, Int.reduceLE, Int.reduceAdd, Int.reduceSub, Int.reduceMul, Int.reduceNeg, Nat.reduceLT, Nat.reduceSub, Nat.reduceMul, Nat.reduceAdd, Nat.reduceLeDiff, reduceIte, reduceCtorEq, Nat.reduceEqDiff, hx, hlen, binsl_ref, evx_elit]
      repeat' (first
        | (refine ifP_pos (by first | assumption | omega) ?_ <;> try simp (maxSteps := 4000000) (disch := first | assumption | omega | (simp only [push_next, put_next, empty_next, List.length_cons, List.length_nil] <;> omega) | exact _root_.id rfl | exact _root_.id (fun _ => rfl) | fail) only [↓pre, post, Int.reduceEq, Int.reduceLT, Int.reduceLE, Int.reduceAdd, Int.reduceSub, Int.reduceMul, Int.reduceNeg, Nat.reduceLT, Nat.reduceSub, Nat.reduceMul, Nat.reduceAdd, Nat.reduceLeDiff, reduceIte, reduceCtorEq, Nat.reduceEqDiff, hx, hlen, binsl_ref, evx_elit])
        | (refine ifP_neg (by first | assumption | omega) ?_ <;> try simp (maxSteps := 4000000) (disch := first | assumption | omega | (simp only [push_next, put_next, empty_next, List.length_cons, List.length_nil] <;> omega) | exact _root_.id rfl | exact _root_.id (fun _ => rfl) | fail) only [↓pre, post, Int.reduceEq, Int.reduceLT, Int.reduceLE, Int.reduceAdd, Int.reduceSub, Int.reduceMul, Int.reduceNeg, Nat.reduceLT, Nat.reduceSub, Nat.reduceMul, Nat.reduceAdd, Nat.reduceLeDiff, reduceIte, reduceCtorEq, Nat.reduceEqDiff, hx, hlen, binsl_ref, evx_elit])
        | (refine ifP_intro (fun hyp => ?_) (fun hyp => ?_) <;> first | simp (maxSteps := 4000000) (disch := first | assumption | omega | (simp only [push_next, put_next, empty_next, List.length_cons, List.length_nil] <;> omega) | exact _root_.id rfl | exact _root_.id (fun _ => rfl) | fail) only [↓pre, post, Int.reduceEq, Int.reduceLT, Int.reduceLE, Int.reduceAdd, Int.reduceSub, Int.reduceMul, Int.reduceNeg, Nat.reduceLT, Nat.reduceSub, Nat.reduceMul, Nat.reduceAdd, Nat.reduceLeDiff, reduceIte, reduceCtorEq, Nat.reduceEqDiff, hx, hlen, binsl_ref, evx_elit, eq_false hyp] | simp (maxSteps := 4000000) (disch := first | assumption | omega | (simp only [push_next, put_next, empty_next, List.length_cons, List.length_nil] <;> omega) | exact _root_.id rfl | exact _root_.id (fun _ => rfl) | fail) only [↓pre, post, Int.reduceEq, Int.reduceLT, Int.reduceLE, Int.reduceAdd, Int.reduceSub, Int.reduceMul, Int.reduceNeg, Nat.reduceLT, Nat.reduceSub, Nat.reduceMul, Nat.reduceAdd, Nat.reduceLeDiff, reduceIte, reduceCtorEq, Nat.reduceEqDiff, hx, hlen, binsl_ref, evx_elit, eq_true hyp] | skip))
  · simp at e

theorem clone_grow : ∀ args h r h', cloneS args h = some (r, h') → TokExt h h' := by
  intro args h r h' e
  unfold cloneS at e
  split at e
  · split at e
    · simp at e
    · unfold appendA at e
      split at e
      · split at e
        · simp only [Option.some.injEq, Prod.mk.injEq] at e; obtain ⟨_, rfl⟩ := e; exact TokExt.refl _
        · simp only [if_true] at e
          split at e
          · simp at e
          · simp only [Option.some.injEq, Prod.mk.injEq] at e; obtain ⟨_, rfl⟩ := e; exact TokExt.push _ _
      · simp at e
  · simp at e

theorem clone_ok : HandOk Try.prog 52 cloneS :=
  ⟨fun args h r h' e => by
    have hg := clone_gives e
    unfold Gives at hg
    obtain ⟨n, hn⟩ := hg
    exact sound (by kernel_rfl) table0 hn, callFunc_enter c52_ok0⟩
end Go.Proofs.Ytjofjgflcogklaa

/-
  The generic library's functions, told by hand for the abstract machine: maps.Clone, slices.Sorted of maps.Keys.
-/
set_option linter.unusedSimpArgs false
set_option linter.unusedVariables false
namespace Go.Abs
open Go.Shelf Go.Proofs Go.Maps Go.RowKit
variable {P : Program} {ρ : Ren}

/-- What lay below stands as it stood; nothing above is anyone's. -/
theorem below_ext {w w' : World} {G : Ghost} {h : Heap} (H : HRel w G h) (hB : Below w.heap.size w w') :
    ∃ G', Ext w G h w' G' h ∧ HRel w' G' h ∧ ∀ b, w.heap.size ≤ b → G'.lim b = none := by
  have hX : Ext w G h w' ⟨G.n, G.loc, G.tip, fun b => if b < w.heap.size then G.lim b else none⟩ h :=
    { os := hB.os, tape := hB.tape, out := hB.output, size := hB.size
      keep := fun b hb _ => ⟨hB.block b hb, by simp [hb]⟩
      stable := fun b k hb hs => ⟨by simp [World.cell?, hB.block b hb], by unfold stab; simp [hb]; exact hs⟩
      shape := fun b hb => by simp [World.shape?, hB.block b hb]
      n_le := Nat.le_refl _
      ids := fun id hid => ⟨rfl, rfl⟩
      fresh := fun b hb ho => ho }
  refine ⟨_, hX, ⟨H.n_eq, fun id o ho => Nat.lt_of_lt_of_le (H.lt id o ho) hB.size, fun id o ho => ?_, H.inj⟩, fun b hb => by simp [Nat.not_lt.2 hb]⟩
  have hlt := H.lt id o ho
  exact OkObj.mono hX (by rw [H.n_eq]; exact Heap.get_lt ho) hlt (hB.block _ hlt) (by simp [hlt]) (H.obj id o ho)

/-! ### maps.Clone -/

def cloneMapS (args : List AVal) (h : Heap) : Option (AVal × Heap) :=
  match args with
  | [.nilmp] => some (.nilmp, h)
  | [.mp id] => match h.get id with
    | some (.map kd clock es) => some (.mp h.next, h.push (.map kd clock es))
    | _ => none
  | _ => none

theorem cloneMap_ok (L : SlLaysW.n5 P ρ) (e5 : ∀ args w, (callFunc (ρ.f 5) args).run P w = .ok (.enter (ρ.f 5) args) w) :
    HandOk P (ρ.f 5) cloneMapS := by
  refine ⟨fun args h r h' e w G cargs H hp => ?_, e5⟩
  have hlen := hp.len
  unfold cloneMapS at e
  split at e
  · simp only [Option.some.injEq, Prod.mk.injEq] at e
    obtain ⟨rfl, rfl⟩ := e
    obtain ⟨v0, hv0⟩ : ∃ v, cargs = #[v] := by
      obtain ⟨l⟩ := cargs
      match l, hlen with
      | [v], _ => exact ⟨v, rfl⟩
    subst hv0
    have rv := hp.rel 0 v0 .nilmp (by simp) (by simp)
    cases rv
    refine (AnyW.maps_Clone_nil L w).mono ?_
    rintro e w' ⟨rfl, rfl⟩
    exact ⟨_, G, rfl, Ext.refl _ _ _, H, .nilmp⟩
  · rename_i id
    split at e
    · rename_i kd clock es hg
      simp only [Option.some.injEq, Prod.mk.injEq] at e
      obtain ⟨rfl, rfl⟩ := e
      obtain ⟨v0, hv0⟩ : ∃ v, cargs = #[v] := by
        obtain ⟨l⟩ := cargs
        match l, hlen with
        | [v], _ => exact ⟨v, rfl⟩
      subst hv0
      have rv := hp.rel 0 v0 (.mp id) (by simp) (by simp)
      cases rv
      obtain ⟨entries, h1, h2, h3, h4, h5⟩ := obj_map H hg
      refine (AnyW.maps_Clone L (G.loc id) entries clock w h1).mono ?_
      rintro e w' ⟨rfl, rfl⟩
      obtain ⟨G', x1, x2, x3⟩ := new_map H kd entries clock es h2 h3 h4 h5
      exact ⟨_, G', rfl, x1, x2, x3⟩
    · simp at e
  · simp at e

theorem cloneMap_grow : ∀ args h r h', cloneMapS args h = some (r, h') → TokExt h h' := by
  intro args h r h' e
  unfold cloneMapS at e
  split at e
  · simp only [Option.some.injEq, Prod.mk.injEq] at e
    obtain ⟨rfl, rfl⟩ := e
    exact fun id o ho _ => ho
  · split at e
    · simp only [Option.some.injEq, Prod.mk.injEq] at e
      obtain ⟨rfl, rfl⟩ := e
      exact TokExt.push _ _
    · simp at e
  · simp at e

/-! ### slices.Sorted of maps.Keys -/

def keyZ : AVal → Option Int
  | .int .i64 n => if -9223372036854775808 ≤ n ∧ n ≤ 9223372036854775807 then some n else none
  | _ => none

def keysZ : List (Nat × AVal × AVal) → Option (List Int)
  | [] => some []
  | x :: es => match keyZ x.2.1, keysZ es with
    | some n, some ns => some (n :: ns)
    | _, _ => none

/-- A new slice of ints. -/
def zsl (ns : List Int) : AVal := .sl (ns.map (.int .i64)) (if ns = [] then .nil else .none)

def insZ (x : Int) : List Int → List Int
  | [] => [x]
  | y :: l => if x ≤ y then x :: y :: l else y :: insZ x l
def sortZ : List Int → List Int
  | [] => []
  | x :: l => insZ x (sortZ l)

theorem insZ_perm (x : Int) : ∀ l, (insZ x l).Perm (x :: l)
  | [] => .refl _
  | y :: l => by
    simp only [insZ]
    split
    · exact .refl _
    · exact ((insZ_perm x l).cons y).trans (.swap x y l)
theorem sortZ_perm : ∀ l, (sortZ l).Perm l
  | [] => .refl _
  | x :: l => (insZ_perm x _).trans ((sortZ_perm l).cons x)
theorem insZ_le {x : Int} : ∀ {l : List Int}, l.Pairwise (· ≤ ·) → (insZ x l).Pairwise (· ≤ ·)
  | [], _ => by simp [insZ]
  | y :: l, h => by
    obtain ⟨h1, h2⟩ := List.pairwise_cons.1 h
    simp only [insZ]
    split
    · rename_i hxy
      refine List.pairwise_cons.2 ⟨fun z hz => ?_, h⟩
      rcases List.mem_cons.1 hz with rfl | hz
      · exact hxy
      · exact Int.le_trans hxy (h1 z hz)
    · rename_i hxy
      refine List.pairwise_cons.2 ⟨fun z hz => ?_, insZ_le h2⟩
      rcases List.mem_cons.1 ((insZ_perm x l).mem_iff.1 hz) with rfl | hz
      · omega
      · exact h1 z hz
theorem sortZ_le : ∀ (l : List Int), (sortZ l).Pairwise (· ≤ ·)
  | [] => by simp [sortZ]
  | x :: l => insZ_le (sortZ_le l)
/-- Lists that rise and have the same elements are the same. -/
theorem rising_perm {l l' : List Int} (h : l.Perm l') (h1 : l.Pairwise (· ≤ ·)) (h2 : l'.Pairwise (· ≤ ·)) : l = l' :=
  List.Perm.eq_of_pairwise (le := (· ≤ ·)) (fun a b _ _ p q => Int.le_antisymm p q) h1 h2 h
theorem sortZ_eq (ns : List Int) : ns.mergeSort (fun x y => decide (x ≤ y)) = sortZ ns := by
  refine rising_perm ((List.mergeSort_perm ns _).trans (sortZ_perm ns).symm) ?_ (sortZ_le ns)
  have := List.pairwise_mergeSort (le := fun x y : Int => decide (x ≤ y)) (fun a b c h1 h2 => by simp only [decide_eq_true_eq] at *; omega) (fun a b => by simp; omega) ns
  exact this.imp (fun h => by simpa using h)

def sortedS (g1 g2 : Nat) (args : List AVal) (h : Heap) : Option (AVal × Heap) :=
  match args with
  | [.fn g [.ptr rid 0]] =>
    if g = g1 ∨ g = g2 then
      match h.get rid with
      | some (.row _ _ _ [.nilmp]) => some (zsl [], h)
      | some (.row _ _ _ [.mp id]) => match h.get id with
        | some (.map _ _ es) => if es.length ≤ 17592186044416 then (keysZ es).map fun ns => (zsl (sortZ ns), h) else none
        | _ => none
      | _ => none
    else none
  | _ => none

theorem keyZ_ok {x : AVal} {n : Int} (e : keyZ x = some n) : x = .int .i64 n ∧ (Lit.int .i64 n).wf = true := by
  unfold keyZ at e
  split at e
  · split at e
    · rename_i n' hn
      obtain rfl := Option.some.inj e
      refine ⟨rfl, ?_⟩
      simp only [Lit.wf, Bool.and_eq_true, decide_eq_true_eq]
      exact hn
    · simp at e
  · simp at e

theorem keysZ_ok {w : World} {G : Ghost} : ∀ {L : List MapEntry} {es : List (Nat × AVal × AVal)} {ns : List Int}, L.length = es.length →
    (∀ (k : Nat) e x, L[k]? = some e → es[k]? = some x → VRel w G e.key x.2.1) → keysZ es = some ns →
    L.map (·.key) = ns.map encZ ∧ (∀ n ∈ ns, (Lit.int .i64 n).wf = true) ∧ ns.length = es.length
  | [], [], ns, _, _, e => by simp [keysZ] at e; subst e; simp
  | [], _ :: _, ns, h, _, _ => by simp at h
  | _ :: _, [], ns, h, _, _ => by simp at h
  | e :: L, x :: es, ns, hl, hr, h => by
    simp only [keysZ] at h
    split at h
    · rename_i n ns' h1 h2
      simp only [Option.some.injEq] at h
      subst h
      obtain ⟨q1, q2⟩ := keyZ_ok h1
      have hr0 := hr 0 e x rfl rfl
      rw [q1] at hr0
      obtain ⟨r1, r2, r3⟩ := keysZ_ok (by simpa using hl) (fun k e' x' h1 h2 => hr (k + 1) e' x' (by simpa using h1) (by simpa using h2)) h2
      have hk : e.key = encZ n := by generalize e.key = u at hr0; cases hr0; rfl
      refine ⟨by simp [hk, r1], fun m hm => ?_, by simp [r3]⟩
      rcases List.mem_cons.1 hm with rfl | hm
      · exact q2
      · exact r2 m hm
    · simp at h

def Rc : Value → Option (DataW Unit × List MemPlace) := fun _ => some (.nil, [])

theorem rg_Rc {k : TypeId} (hk : P.underlying k = some (.int .i64)) {e : MapEntry} {n : Int} (hn : e.key = encZ n) (hw : (Lit.int .i64 n).wf = true) :
    WideElems.rd P k Rc e = some (.int .i64 n, .nil) := by
  obtain ⟨key, val, born⟩ := e
  simp only at hn
  subst hn
  exact WideElems.rd_mk (R := Rc) (yv := (.nil, [])) (keyOf_int_mk hk hw) rfl

theorem owns_keys {w : World} {k : TypeId} (hk : P.underlying k = some (.int .i64)) {b : Nat} {entries : Array MapEntry} {clock : Nat} {ns : List Int} (hb : w.heap[b]? = some (.map entries clock))
    (hst : MapKept.Stamped entries clock) (hkeys : entries.toList.map (·.key) = ns.map encZ) (hw : ∀ n ∈ ns, (Lit.int .i64 n).wf = true) (hlen : ns.length ≤ maxLen) :
    ∃ D0 : DataW Unit, w.ownsMap P k Rc b ns.length D0 ∧ (intKeys D0).Perm ns ∧ Maps.size D0 = ns.length := by
  have hsz : entries.size = ns.length := by simpa using congrArg List.length hkeys
  have hmem : ∀ e ∈ entries.toList, ∃ n ∈ ns, e.key = encZ n := fun e he => by
    have : e.key ∈ ns.map encZ := hkeys ▸ List.mem_map.2 ⟨e, he, rfl⟩
    obtain ⟨n, hn, hq⟩ := List.mem_map.1 this
    exact ⟨n, hn, hq.symm⟩
  refine ⟨_, ⟨entries, clock, hb, ⟨by omega, hst, fun e he => ?_⟩, by omega, rfl⟩, ?_, ?_⟩
  · obtain ⟨n, hn, hq⟩ := hmem e he
    exact ⟨_, rg_Rc hk hq (hw n hn)⟩
  · show ((List.foldr DataW.insert [] (entries.toList.map (WideElems.rg P k Rc))).map fun p => intOf p.1).Perm ns
    refine ((WideShapes.sorted_perm _).map _).trans ?_
    refine List.Perm.of_eq ?_
    rw [List.map_map]
    have : ns = (ns.map encZ).map (fun v => match v with | .int _ n => n | _ => 0) := by simp [encZ, List.map_map, Function.comp_def]
    rw [this, ← hkeys, List.map_map]
    refine List.map_congr_left fun e he => ?_
    obtain ⟨n, hn, hq⟩ := hmem e he
    simp [WideElems.rg, rg_Rc hk hq (hw n hn), hq, intOf]
  · simp [Maps.size, length_sorted, hsz]

/-- The walk: what slices.Sorted of maps.Keys hands back. -/
theorem sorted_walk {ρA ρS : Ren} (LA : SlLaysZI.n7 P ρA) (LS : SlLaysZI.n6 P ρS) (hsort : ∀ m, AnyZI.SortsIn P ρS Fence.wide m) (hk : ρA.t 26 = ρS.t 26) (hu : P.underlying (ρS.t 26) = some (.int .i64))
    (e9 : ∀ args w, (callFunc (ρS.f 9) args).run P w = .ok (.enter (ρS.f 9) args) w) (eg : ∀ args w, (callFunc (ρA.f 10) args).run P w = .ok (.enter (ρA.f 10) args) w)
    {w : World} {b m clock : Nat} {entries : Array MapEntry} {ns : List Int} (hB : b < w.heap.size) (hc : w.cell? ⟨b, 0, none⟩ = some (.map (some m))) (hb : w.heap[m]? = some (.map entries clock))
    (hst : MapKept.Stamped entries clock) (hkeys : entries.toList.map (·.key) = ns.map encZ) (hw : ∀ n ∈ ns, (Lit.int .i64 n).wf = true) (hlen : ns.length ≤ 17592186044416) :
    Calls P (ρS.f 6) #[.func (.func (ρA.f 10)) #[] #[.pointer (some ⟨b, 0, none⟩)]] w fun e w' => ∃ (v : Value), e = .returned v ∧
      w'.ownsRow w.heap.size (ρS.t 26) 1 v ns.length ((ns.mergeSort (fun x y => decide (x ≤ y))).map encZ) ∧ (v = .slice none 0 0 ↔ ns = []) ∧ Below w.heap.size w w' := by
  obtain ⟨D0, d1, d2, d3⟩ := owns_keys hu hb hst hkeys hw (Nat.le_trans hlen (by decide))
  rw [← hk] at d1
  have hseq : SeqGives Fence.wide 2 P (ρA.f 10) #[.pointer (some ⟨b, 0, none⟩)] encZ (fun ss => ss.Perm (intKeys D0)) (Maps.size D0) w :=
    AnyZI.keys_gives (ρ := ρA) { LA with } Fence.wide _ trivial rfl (by omega) b m _ D0 _ hB hc d1
  have cS := AnyZI.sorted_in LS Fence.wide 5 trivial trivial trivial trivial rfl (by omega) (hsort _) e9 (ρA.f 10) #[.pointer (some ⟨b, 0, none⟩)] trivial eg _ _ (by rw [d3]; exact Nat.le_trans hlen (by decide)) (by rw [d3]; omega) _ hseq
  refine ((callsIn_wide (n := 5)).1 cS).mono ?_
  rintro e w' ⟨v, ss, rfl, hS, hrow, hnil, hb⟩
  have hp : ss.Perm ns := hS.trans d2
  have hsz : ss.length = ns.length := hp.length_eq
  have hsame : ss.mergeSort (fun x y => decide (x ≤ y)) = ns.mergeSort (fun x y => decide (x ≤ y)) := mergeSort_of_perm_i hp
  rw [hsame, hsz] at hrow
  refine ⟨v, rfl, hrow, hnil.trans ⟨fun q => ?_, fun q => ?_⟩, hb⟩
  · subst q; exact hp.nil_eq.symm ▸ rfl
  · subst q; exact hp.eq_nil

theorem sorted_nil_walk {ρA ρS : Ren} (LA : SlLaysZI.n7 P ρA) (LS : SlLaysZI.n6 P ρS) (hsort : ∀ m, AnyZI.SortsIn P ρS Fence.wide m)
    (e9 : ∀ args w, (callFunc (ρS.f 9) args).run P w = .ok (.enter (ρS.f 9) args) w) (eg : ∀ args w, (callFunc (ρA.f 10) args).run P w = .ok (.enter (ρA.f 10) args) w)
    {w : World} {b : Nat} (hB : b < w.heap.size) (hc : w.cell? ⟨b, 0, none⟩ = some (.map none)) :
    Calls P (ρS.f 6) #[.func (.func (ρA.f 10)) #[] #[.pointer (some ⟨b, 0, none⟩)]] w fun e w' => e = .returned (.slice none 0 0) ∧ Below w.heap.size w w' := by
  have hseq : SeqGives Fence.wide 2 P (ρA.f 10) #[.pointer (some ⟨b, 0, none⟩)] encZ (fun ss : List Int => ss = []) 0 w :=
    AnyZI.keys_gives_nil (ρ := ρA) { LA with } Fence.wide _ trivial rfl b _ hB hc
  have cS := AnyZI.sorted_in LS Fence.wide 5 trivial trivial trivial trivial rfl (by omega) (hsort _) e9 (ρA.f 10) #[.pointer (some ⟨b, 0, none⟩)] trivial eg _ 0 (Nat.zero_le _) (by omega) _ hseq
  refine ((callsIn_wide (n := 5)).1 cS).mono ?_
  rintro e w' ⟨v, ss, rfl, rfl, hrow, hnil, hb⟩
  obtain rfl : v = .slice none 0 0 := hnil.2 rfl
  exact ⟨rfl, hb⟩

theorem flat_zs (ns : List Int) : flat (ns.map (AVal.int .i64)) = ns.map (AVal.int .i64) := by
  induction ns with
  | nil => rfl
  | cons n ns ih => simp only [List.map_cons, flat, List.flatMap_cons] at ih ⊢; rw [ih]; rfl

theorem sorted_ok {ρA ρB ρS : Ren} (LA : SlLaysZI.n7 P ρA) (LB : SlLaysZI.n7 P ρB) (LS : SlLaysZI.n6 P ρS) (hsort : ∀ m, AnyZI.SortsIn P ρS Fence.wide m) (hkA : ρA.t 26 = ρS.t 26) (hkB : ρB.t 26 = ρS.t 26) (hu : P.underlying (ρS.t 26) = some (.int .i64))
    (e6 : ∀ args w, (callFunc (ρS.f 6) args).run P w = .ok (.enter (ρS.f 6) args) w)
    (e9 : ∀ args w, (callFunc (ρS.f 9) args).run P w = .ok (.enter (ρS.f 9) args) w) (eA : ∀ args w, (callFunc (ρA.f 10) args).run P w = .ok (.enter (ρA.f 10) args) w) (eB : ∀ args w, (callFunc (ρB.f 10) args).run P w = .ok (.enter (ρB.f 10) args) w) :
    HandOk P (ρS.f 6) (sortedS (ρA.f 10) (ρB.f 10)) := by
  refine ⟨fun args h r h' e w G cargs H hp => ?_, e6⟩
  have hlen := hp.len
  unfold sortedS at e
  split at e
  · rename_i g rid
    obtain ⟨v0, hv0⟩ : ∃ v, cargs = #[v] := by
      obtain ⟨l⟩ := cargs
      match l, hlen with
      | [v], _ => exact ⟨v, rfl⟩
    subst hv0
    have rv := hp.rel 0 v0 (.fn g [.ptr rid 0]) (by simp) (by simp)
    cases rv with
    | fn _ cs _ hl hrel =>
      obtain ⟨v1, hv1⟩ : ∃ v, cs = #[v] := by
        obtain ⟨l⟩ := cs
        match l, hl with
        | [v], _ => exact ⟨v, rfl⟩
      subst hv1
      have r1 := hrel 0 v1 (.ptr rid 0) (by simp) (by simp)
      cases r1
      split at e
      · rename_i hg12
        split at e
        · -- the nil map
          rename_i mu sz ag hg
          simp only [Option.some.injEq, Prod.mk.injEq] at e
          obtain ⟨rfl, rfl⟩ := e
          obtain ⟨o1, o2, o3, o4, o5⟩ := H.obj rid _ hg
          obtain ⟨u, hu', ru⟩ := o2 0 .nilmp (by simp)
          cases ru
          have hlt := H.lt rid _ hg
          have cC : Calls P (ρS.f 6) #[.func (.func g) #[] #[.pointer (some ⟨G.loc rid, 0, none⟩)]] w fun e w' => e = .returned (.slice none 0 0) ∧ Below w.heap.size w w' := by
            rcases hg12 with rfl | rfl
            · exact sorted_nil_walk LA LS hsort e9 eA hlt hu'
            · exact sorted_nil_walk LB LS hsort e9 eB hlt hu'
          refine cC.mono ?_
          rintro e w' ⟨rfl, hb⟩
          obtain ⟨G', x1, x2, x3⟩ := below_ext H hb
          exact ⟨_, G', rfl, x1, x2, .nilsl _ (.inl rfl)⟩
        · rename_i mu sz ag id hg
          split at e
          · rename_i kd clock es hm
            split at e
            · rename_i hes
              simp only [Option.map_eq_some_iff, Prod.mk.injEq] at e
              obtain ⟨ns, hns, rfl, rfl⟩ := e
              obtain ⟨o1, o2, o3, o4, o5⟩ := H.obj rid _ hg
              obtain ⟨u, hu', ru⟩ := o2 0 (.mp id) (by simp)
              cases ru
              have hlt := H.lt rid _ hg
              obtain ⟨entries, h1, h2, h3, h4, h5⟩ := obj_map H hm
              obtain ⟨k1, k2, k3⟩ := keysZ_ok (w := w) (G := G) (L := entries.toList) (by simpa using h2) (fun k e x q1 q2 => (h3 k e x (by simpa using q1) q2).2.1) hns
              have cC : Calls P (ρS.f 6) #[.func (.func g) #[] #[.pointer (some ⟨G.loc rid, 0, none⟩)]] w fun e w' => ∃ (v : Value), e = .returned v ∧
                  w'.ownsRow w.heap.size (ρS.t 26) 1 v ns.length ((ns.mergeSort (fun x y => decide (x ≤ y))).map encZ) ∧ (v = .slice none 0 0 ↔ ns = []) ∧ Below w.heap.size w w' := by
                rcases hg12 with rfl | rfl
                · exact sorted_walk LA LS hsort hkA hu e9 eA hlt hu' h1 h5 k1 k2 (by omega)
                · exact sorted_walk LB LS hsort hkB hu e9 eB hlt hu' h1 h5 k1 k2 (by omega)
              refine cC.mono ?_
              rintro e w' ⟨v, rfl, hrow, hnil, hb⟩
              obtain ⟨G', x1, x2, x3⟩ := below_ext H hb
              refine ⟨_, G', rfl, x1, x2, ?_⟩
              rw [sortZ_eq] at hrow
              have hsl : (sortZ ns).length = ns.length := (sortZ_perm ns).length_eq
              by_cases hne : ns = []
              · subst hne
                have hs0 : sortZ [] = [] := rfl
                rw [hnil.2 rfl, hs0]
                exact .nilsl _ (.inl rfl)
              · rcases hrow.2 with ⟨rfl, hz⟩ | ⟨gb, cap, cur, rfl, hbase, hgb, q1, q2, q3, q4⟩
                · exact absurd (List.eq_nil_of_length_eq_zero hz) hne
                · have hne' : sortZ ns ≠ [] := by
                    intro q; rw [q] at hsl; exact hne (List.eq_nil_of_length_eq_zero hsl.symm)
                  unfold zsl
                  rw [if_neg hne']
                  have hln : ((sortZ ns).map (AVal.int .i64)).length = ns.length := by simp [hsl]
                  rw [← hln]
                  refine .sl gb 0 cap 1 _ _ (fun k => encZ ((sortZ ns).getD k 0)) ?_ ?_ ?_ ?_ ?_ ?_ ?_ ?_ ?_
                  · intro x hx; obtain ⟨n, _, rfl⟩ := List.mem_map.1 hx; rfl
                  · intro k c hk
                    rw [flat_zs, List.getElem?_map, Option.map_eq_some_iff] at hk
                    obtain ⟨n, hn, rfl⟩ := hk
                    have hkl : k < ns.length := by rw [← hsl]; exact (List.getElem?_eq_some_iff.1 hn).1
                    have hcur : cur.toList[k]? = some (encZ n) := by
                      have : (cur.toList.take (ns.length * 1))[k]? = ((sortZ ns).map encZ)[k]? := by rw [q4]
                      rw [List.getElem?_take_of_lt (by omega), List.getElem?_map, hn] at this
                      exact this
                    simp only [World.cell?, hgb, Nat.zero_add, List.getD_eq_getElem?_getD, hn]
                    rw [← Array.getElem?_toList, hcur]
                    rfl
                  · intro k c hk
                    rw [flat_zs, List.getElem?_map, Option.map_eq_some_iff] at hk
                    obtain ⟨n, hn, rfl⟩ := hk
                    have hn' : (sortZ ns).getD k 0 = n := by simp [List.getD_eq_getElem?_getD, hn]
                    show VRel w' G' (encZ ((sortZ ns).getD k 0)) _
                    rw [hn']
                    exact .int _ _
                  · intro k _ m hm'
                    rw [x3 gb hbase] at hm'
                    simp at hm'
                  · intro c hc
                    rw [flat_zs] at hc
                    obtain ⟨n, _, rfl⟩ := List.mem_map.1 hc; rfl
                  · intro c hc
                    rw [flat_zs] at hc
                    obtain ⟨n, _, rfl⟩ := List.mem_map.1 hc; rfl
                  · rw [hln]; exact q1
                  · exact ⟨by simp, by simp⟩
                  · intro id s q; simp at q
            · simp at e
          · simp at e
        · simp at e
      · simp at e
  · simp at e

theorem sorted_grow (g1 g2 : Nat) : ∀ args h r h', sortedS g1 g2 args h = some (r, h') → h' = h := by
  intro args h r h' e
  unfold sortedS at e
  split at e
  · split at e
    · split at e
      · simp only [Option.some.injEq, Prod.mk.injEq] at e; exact e.2.symm
      · split at e
        · split at e
          · simp only [Option.map_eq_some_iff, Prod.mk.injEq] at e
            obtain ⟨_, _, _, q⟩ := e; exact q.symm
          · simp at e
        · simp at e
      · simp at e
    · simp at e
  · simp at e

end Go.Abs

/-
  Where the generic library's functions lie in this program.
-/
namespace Go.Proofs.Ytjofjgflcogklaa
open Go Go.Shelf
set_option maxHeartbeats 4000000
set_option maxRecDepth 100000

def keysA_ren : Go.Shelf.Ren := ⟨fun | 7 => 49 | 10 => 60 | n => n, fun | 23 => 68 | 26 => 3 | 3 => 74 | 28 => 78 | 0 => 0 | 27 => 77 | 33 => 85 | 4 => 4 | n => n, fun | n => n⟩
theorem keysA : Go.Proofs.SlLaysZI.n7 Try.prog keysA_ren where
  mixed := by kernel_rfl
  f7 := ⟨ "maps.Keys[map[int]wordbook/disk.block,int,wordbook/disk.block]", by decide, Try.func49.trans (congrArg some (by kernel_rfl))⟩
  f10 := ⟨ "maps.Keys[map[int]wordbook/disk.block,int,wordbook/disk.block]$1", by decide, Try.func60.trans (congrArg some (by kernel_rfl))⟩
  t0 := Try.underlying0
  a0 := Try.isAgg0
  z0 := Try.sizeOf0
  v0 := Try.zeroValue0
  t4 := Try.underlying4
  a4 := Try.isAgg4
  z4 := Try.sizeOf4
  v4 := Try.zeroValue4
  t23 := Try.underlying68
  a23 := Try.isAgg68
  z23 := Try.sizeOf68
  v23 := Try.zeroValue68
  t26 := Try.underlying3
  a26 := Try.isAgg3
  z26 := Try.sizeOf3
  v26 := Try.zeroValue3
  t27 := Try.underlying77
  a27 := Try.isAgg77
  z27 := Try.sizeOf77
  v27 := Try.zeroValue77
  t28 := Try.underlying78
  a28 := Try.isAgg78
  z28 := Try.sizeOf78
  v28 := Try.zeroValue78
  t33 := Try.underlying85
  a33 := Try.isAgg85
  z33 := Try.sizeOf85
  v33 := Try.zeroValue85
def keysB_ren : Go.Shelf.Ren := ⟨fun | 7 => 50 | 10 => 61 | n => n, fun | 23 => 69 | 26 => 3 | 3 => 4 | 28 => 78 | 0 => 0 | 27 => 77 | 33 => 85 | 4 => 4 | n => n, fun | n => n⟩
theorem keysB : Go.Proofs.SlLaysZI.n7 Try.prog keysB_ren where
  mixed := by kernel_rfl
  f7 := ⟨ "maps.Keys[map[int]bool,int,bool]", by decide, Try.func50.trans (congrArg some (by kernel_rfl))⟩
  f10 := ⟨ "maps.Keys[map[int]bool,int,bool]$1", by decide, Try.func61.trans (congrArg some (by kernel_rfl))⟩
  t0 := Try.underlying0
  a0 := Try.isAgg0
  z0 := Try.sizeOf0
  v0 := Try.zeroValue0
  t4 := Try.underlying4
  a4 := Try.isAgg4
  z4 := Try.sizeOf4
  v4 := Try.zeroValue4
  t23 := Try.underlying69
  a23 := Try.isAgg69
  z23 := Try.sizeOf69
  v23 := Try.zeroValue69
  t26 := Try.underlying3
  a26 := Try.isAgg3
  z26 := Try.sizeOf3
  v26 := Try.zeroValue3
  t27 := Try.underlying77
  a27 := Try.isAgg77
  z27 := Try.sizeOf77
  v27 := Try.zeroValue77
  t28 := Try.underlying78
  a28 := Try.isAgg78
  z28 := Try.sizeOf78
  v28 := Try.zeroValue78
  t33 := Try.underlying85
  a33 := Try.isAgg85
  z33 := Try.sizeOf85
  v33 := Try.zeroValue85
def sortedA_ren : Go.Shelf.Ren := ⟨fun | 6 => 48 | 8 => 58 | 9 => 59 | 11 => 63 | 13 => 65 | 12 => 64 | 23 => 75 | 24 => 76 | 14 => 66 | 15 => 67 | 16 => 68 | 17 => 69 | 18 => 70 | 19 => 71 | 20 => 72 | 21 => 73 | 22 => 74 | 25 => 77 | 26 => 78 | 27 => 79 | 28 => 80 | 29 => 81 | 30 => 82 | 31 => 83 | n => n, fun | 26 => 3 | 28 => 78 | 24 => 31 | 0 => 0 | 3 => 3 | 37 => 90 | 48 => 101 | 50 => 103 | 4 => 4 | 40 => 93 | 39 => 92 | 45 => 98 | 5 => 5 | 9 => 9 | 51 => 104 | 55 => 108 | 57 => 110 | 58 => 111 | 33 => 85 | n => n, fun | n => n⟩
theorem sortedA : Go.Proofs.SlLaysZI.n6 Try.prog sortedA_ren where
  mixed := by kernel_rfl
  f6 := ⟨ "slices.Sorted[int]", by decide, Try.func48.trans (congrArg some (by kernel_rfl))⟩
  f8 := ⟨ "slices.Collect[int]", by decide, Try.func58.trans (congrArg some (by kernel_rfl))⟩
  f11 := ⟨ "slices.AppendSeq[[]int,int]", by decide, Try.func63.trans (congrArg some (by kernel_rfl))⟩
  t0 := Try.underlying0
  a0 := Try.isAgg0
  z0 := Try.sizeOf0
  v0 := Try.zeroValue0
  t24 := Try.underlying31
  a24 := Try.isAgg31
  z24 := Try.sizeOf31
  v24 := Try.zeroValue31
  t26 := Try.underlying3
  a26 := Try.isAgg3
  z26 := Try.sizeOf3
  v26 := Try.zeroValue3
  t28 := Try.underlying78
  a28 := Try.isAgg78
  z28 := Try.sizeOf78
  v28 := Try.zeroValue78
  i26 := by kernel_rfl
def sortA_ren : Go.Shelf.Ren := ⟨fun | 5 => 59 | 8 => 65 | 7 => 64 | 19 => 75 | 20 => 76 | 10 => 66 | 11 => 67 | 12 => 68 | 13 => 69 | 14 => 70 | 15 => 71 | 16 => 72 | 17 => 73 | 18 => 74 | 30 => 77 | 31 => 78 | 32 => 79 | 33 => 80 | 34 => 81 | 35 => 82 | 40 => 83 | n => n, fun | 23 => 31 | 25 => 3 | 3 => 3 | 32 => 90 | 22 => 31 | 0 => 0 | 44 => 101 | 46 => 103 | 4 => 4 | 36 => 93 | 35 => 92 | 41 => 98 | 5 => 5 | 9 => 9 | 53 => 104 | 57 => 108 | 63 => 110 | 64 => 111 | n => n, fun | n => n⟩
theorem sortA : Go.Proofs.SlLaysM.n5 Try.prog sortA_ren where
  mixed := by kernel_rfl
  f5 := ⟨ "slices.Sort[[]int,int]", by decide, Try.func59.trans (congrArg some (by kernel_rfl))⟩
  f7 := ⟨ "slices.pdqsortOrdered[int]", by decide, Try.func64.trans (congrArg some (by kernel_rfl))⟩
  f8 := Try.func65.trans (congrArg some (by kernel_rfl))
  f10 := ⟨ "slices.insertionSortOrdered[int]", by decide, Try.func66.trans (congrArg some (by kernel_rfl))⟩
  f11 := ⟨ "slices.heapSortOrdered[int]", by decide, Try.func67.trans (congrArg some (by kernel_rfl))⟩
  f12 := ⟨ "slices.breakPatternsOrdered[int]", by decide, Try.func68.trans (congrArg some (by kernel_rfl))⟩
  f13 := ⟨ "slices.choosePivotOrdered[int]", by decide, Try.func69.trans (congrArg some (by kernel_rfl))⟩
  f14 := ⟨ "slices.reverseRangeOrdered[int]", by decide, Try.func70.trans (congrArg some (by kernel_rfl))⟩
  f15 := ⟨ "slices.partialInsertionSortOrdered[int]", by decide, Try.func71.trans (congrArg some (by kernel_rfl))⟩
  f16 := ⟨ "cmp.Less[int]", by decide, Try.func72.trans (congrArg some (by kernel_rfl))⟩
  f17 := ⟨ "slices.partitionEqualOrdered[int]", by decide, Try.func73.trans (congrArg some (by kernel_rfl))⟩
  f18 := ⟨ "slices.partitionOrdered[int]", by decide, Try.func74.trans (congrArg some (by kernel_rfl))⟩
  f19 := Try.func75.trans (congrArg some (by kernel_rfl))
  f20 := Try.func76.trans (congrArg some (by kernel_rfl))
  f30 := ⟨ "slices.siftDownOrdered[int]", by decide, Try.func77.trans (congrArg some (by kernel_rfl))⟩
  f31 := Try.func78.trans (congrArg some (by kernel_rfl))
  f32 := Try.func79.trans (congrArg some (by kernel_rfl))
  f33 := ⟨ "slices.medianAdjacentOrdered[int]", by decide, Try.func80.trans (congrArg some (by kernel_rfl))⟩
  f34 := ⟨ "slices.medianOrdered[int]", by decide, Try.func81.trans (congrArg some (by kernel_rfl))⟩
  f35 := ⟨ "cmp.isNaN[int]", by decide, Try.func82.trans (congrArg some (by kernel_rfl))⟩
  f40 := ⟨ "slices.order2Ordered[int]", by decide, Try.func83.trans (congrArg some (by kernel_rfl))⟩
  t0 := Try.underlying0
  a0 := Try.isAgg0
  z0 := Try.sizeOf0
  v0 := Try.zeroValue0
  t3 := Try.underlying3
  a3 := Try.isAgg3
  z3 := Try.sizeOf3
  v3 := Try.zeroValue3
  t4 := Try.underlying4
  a4 := Try.isAgg4
  z4 := Try.sizeOf4
  v4 := Try.zeroValue4
  t5 := Try.underlying5
  a5 := Try.isAgg5
  z5 := Try.sizeOf5
  v5 := Try.zeroValue5
  t9 := Try.underlying9
  a9 := Try.isAgg9
  z9 := Try.sizeOf9
  v9 := Try.zeroValue9
  t22 := Try.underlying31
  a22 := Try.isAgg31
  z22 := Try.sizeOf31
  v22 := Try.zeroValue31
  t23 := Try.underlying31
  a23 := Try.isAgg31
  z23 := Try.sizeOf31
  v23 := Try.zeroValue31
  t25 := Try.underlying3
  a25 := Try.isAgg3
  z25 := Try.sizeOf3
  v25 := Try.zeroValue3
  t32 := Try.underlying90
  a32 := Try.isAgg90
  z32 := Try.sizeOf90
  v32 := Try.zeroValue90
  t35 := Try.underlying92
  a35 := Try.isAgg92
  z35 := Try.sizeOf92
  v35 := Try.zeroValue92
  t36 := Try.underlying93
  a36 := Try.isAgg93
  z36 := Try.sizeOf93
  v36 := Try.zeroValue93
  t41 := Try.underlying98
  a41 := Try.isAgg98
  z41 := Try.sizeOf98
  v41 := Try.zeroValue98
  t44 := Try.underlying101
  a44 := Try.isAgg101
  z44 := Try.sizeOf101
  v44 := Try.zeroValue101
  t46 := Try.underlying103
  a46 := Try.isAgg103
  z46 := Try.sizeOf103
  v46 := Try.zeroValue103
  t53 := Try.underlying104
  a53 := Try.isAgg104
  z53 := Try.sizeOf104
  v53 := Try.zeroValue104
  t57 := Try.underlying108
  a57 := Try.isAgg108
  z57 := Try.sizeOf108
  v57 := Try.zeroValue108
  t63 := Try.underlying110
  a63 := Try.isAgg110
  z63 := Try.sizeOf110
  v63 := Try.zeroValue110
  t64 := Try.underlying111
  a64 := Try.isAgg111
  z64 := Try.sizeOf111
  v64 := Try.zeroValue111
def cloneA_ren : Go.Shelf.Ren := ⟨fun | 5 => 53 | 7 => 62 | n => n, fun | 23 => 68 | 25 => 3 | 3 => 74 | 4 => 4 | 20 => 20 | n => n, fun | n => n⟩
theorem cloneA : Go.Proofs.SlLaysW.n5 Try.prog cloneA_ren where
  mixed := by kernel_rfl
  f5 := ⟨ "maps.Clone[map[int]wordbook/disk.block,int,wordbook/disk.block]", by decide, Try.func53.trans (congrArg some (by kernel_rfl))⟩
  f7 := Try.func62.trans (congrArg some (by kernel_rfl))
  t4 := Try.underlying4
  a4 := Try.isAgg4
  z4 := Try.sizeOf4
  v4 := Try.zeroValue4
  t20 := Try.underlying20
  a20 := Try.isAgg20
  z20 := Try.sizeOf20
  v20 := Try.zeroValue20
  t23 := Try.underlying68
  a23 := Try.isAgg68
  z23 := Try.sizeOf68
  v23 := Try.zeroValue68
def cloneB_ren : Go.Shelf.Ren := ⟨fun | 5 => 54 | 7 => 62 | n => n, fun | 23 => 69 | 25 => 3 | 3 => 4 | 4 => 4 | 20 => 20 | n => n, fun | n => n⟩
theorem cloneB : Go.Proofs.SlLaysW.n5 Try.prog cloneB_ren where
  mixed := by kernel_rfl
  f5 := ⟨ "maps.Clone[map[int]bool,int,bool]", by decide, Try.func54.trans (congrArg some (by kernel_rfl))⟩
  f7 := Try.func62.trans (congrArg some (by kernel_rfl))
  t4 := Try.underlying4
  a4 := Try.isAgg4
  z4 := Try.sizeOf4
  v4 := Try.zeroValue4
  t20 := Try.underlying20
  a20 := Try.isAgg20
  z20 := Try.sizeOf20
  v20 := Try.zeroValue20
  t23 := Try.underlying69
  a23 := Try.isAgg69
  z23 := Try.sizeOf69
  v23 := Try.zeroValue69

end Go.Proofs.Ytjofjgflcogklaa

/-
  The table of the functions, sound.
-/
namespace Go.Proofs.Ytjofjgflcogklaa
open Go Go.Abs Go.Shelf

def F : Nat → Option AEnt
  | 3 => some (.comp c3)
  | 4 => some (.comp c4)
  | 5 => some (.comp c5)
  | 6 => some (.comp c6)
  | 7 => some (.comp c7)
  | 8 => some (.comp c8)
  | 9 => some (.comp c9)
  | 10 => some (.comp c10)
  | 11 => some (.comp c11)
  | 12 => some (.comp c12)
  | 13 => some (.comp c13)
  | 14 => some (.comp c14)
  | 15 => some (.comp c15)
  | 16 => some (.comp c16)
  | 17 => some (.comp c17)
  | 18 => some (.comp c18)
  | 19 => some (.comp c19)
  | 20 => some (.comp c20)
  | 21 => some (.comp c21)
  | 22 => some (.comp c22)
  | 23 => some (.comp c23)
  | 24 => some (.comp c24)
  | 25 => some (.comp c25)
  | 26 => some (.comp c26)
  | 27 => some (.comp c27)
  | 28 => some (.comp c28)
  | 29 => some (.comp c29)
  | 30 => some (.comp c30)
  | 31 => some (.comp c31)
  | 32 => some (.comp c32)
  | 33 => some (.comp c33)
  | 34 => some (.comp c34)
  | 35 => some (.comp c35)
  | 36 => some (.comp c36)
  | 37 => some (.comp c37)
  | 38 => some (.comp c38)
  | 39 => some (.comp c39)
  | 40 => some (.comp c40)
  | 41 => some (.comp c41)
  | 42 => some (.comp c42)
  | 43 => some (.comp c43)
  | 44 => some (.comp c44)
  | 45 => some (.comp c45)
  | 46 => some (.comp c46)
  | 47 => some (.comp c47)
  | 49 => some (.comp c49)
  | 50 => some (.comp c50)
  | 51 => some (.comp c51)
  | 55 => some (.comp c55)
  | 56 => some (.comp c56)
  | 57 => some (.comp c57)
  | 48 => some (.hand (sortedS 60 61))
  | 52 => some (.hand cloneS)
  | 53 => some (.hand cloneMapS)
  | 54 => some (.hand cloneMapS)
  | _ => none

theorem sorts (m : Nat) : AnyZI.SortsIn Try.prog sortedA_ren Fence.wide m :=
  ⟨fun blk off cap ss W hH hblk hsz => callsIn_wide.2 (AnyM.slices_Sort_int sortA blk off cap ss W hH hblk hsz),
   fun p cap W => callsIn_wide.2 (AnyM.slices_Sort_int_none sortA p cap W)⟩

theorem h48 : HandOk Try.prog 48 (sortedS 60 61) :=
  sorted_ok keysA keysB sortedA sorts rfl rfl Try.underlying3 (enters_of Try.func48 (by kernel_rfl) rfl) (enters_of Try.func59 (by kernel_rfl) rfl) (enters_of Try.func60 (by kernel_rfl) rfl) (enters_of Try.func61 (by kernel_rfl) rfl)
theorem h53 : HandOk Try.prog 53 cloneMapS := cloneMap_ok cloneA (enters_of Try.func53 (by kernel_rfl) rfl)
theorem h54 : HandOk Try.prog 54 cloneMapS := cloneMap_ok cloneB (enters_of Try.func54 (by kernel_rfl) rfl)

theorem table : Table Try.prog hints F := by
  intro g
  unfold F
  split
  · exact ⟨c3_ok, rfl⟩
  · exact ⟨c4_ok, rfl⟩
  · exact ⟨c5_ok, rfl⟩
  · exact ⟨c6_ok, rfl⟩
  · exact ⟨c7_ok, rfl⟩
  · exact ⟨c8_ok, rfl⟩
  · exact ⟨c9_ok, rfl⟩
  · exact ⟨c10_ok, rfl⟩
  · exact ⟨c11_ok, rfl⟩
  · exact ⟨c12_ok, rfl⟩
  · exact ⟨c13_ok, rfl⟩
  · exact ⟨c14_ok, rfl⟩
  · exact ⟨c15_ok, rfl⟩
  · exact ⟨c16_ok, rfl⟩
  · exact ⟨c17_ok, rfl⟩
  · exact ⟨c18_ok, rfl⟩
  · exact ⟨c19_ok, rfl⟩
  · exact ⟨c20_ok, rfl⟩
  · exact ⟨c21_ok, rfl⟩
  · exact ⟨c22_ok, rfl⟩
  · exact ⟨c23_ok, rfl⟩
  · exact ⟨c24_ok, rfl⟩
  · exact ⟨c25_ok, rfl⟩
  · exact ⟨c26_ok, rfl⟩
  · exact ⟨c27_ok, rfl⟩
  · exact ⟨c28_ok, rfl⟩
  · exact ⟨c29_ok, rfl⟩
  · exact ⟨c30_ok, rfl⟩
  · exact ⟨c31_ok, rfl⟩
  · exact ⟨c32_ok, rfl⟩
  · exact ⟨c33_ok, rfl⟩
  · exact ⟨c34_ok, rfl⟩
  · exact ⟨c35_ok, rfl⟩
  · exact ⟨c36_ok, rfl⟩
  · exact ⟨c37_ok, rfl⟩
  · exact ⟨c38_ok, rfl⟩
  · exact ⟨c39_ok, rfl⟩
  · exact ⟨c40_ok, rfl⟩
  · exact ⟨c41_ok, rfl⟩
  · exact ⟨c42_ok, rfl⟩
  · exact ⟨c43_ok, rfl⟩
  · exact ⟨c44_ok, rfl⟩
  · exact ⟨c45_ok, rfl⟩
  · exact ⟨c46_ok, rfl⟩
  · exact ⟨c47_ok, rfl⟩
  · exact ⟨c49_ok, rfl⟩
  · exact ⟨c50_ok, rfl⟩
  · exact ⟨c51_ok, rfl⟩
  · exact ⟨c55_ok, rfl⟩
  · exact ⟨c56_ok, rfl⟩
  · exact ⟨c57_ok, rfl⟩
  · exact ⟨h48, fun q => by simp [hints] at q⟩
  · exact ⟨clone_ok, fun _ => clone_grow⟩
  · exact ⟨h53, fun _ => cloneMap_grow⟩
  · exact ⟨h54, fun _ => cloneMap_grow⟩
  · trivial
end Go.Proofs.Ytjofjgflcogklaa

/-
  A model of a disk; how it lies in the heap, in the program's shape and in the reference's.
-/
set_option linter.unusedSimpArgs false
set_option linter.unusedVariables false
namespace Go.Proofs.Ytjofjgflcogklaa
open Go Go.Abs

/-- The content of a sector. -/
def B64 : Type := { l : List UInt8 // l.length = 64 }
def zeroB : B64 := ⟨List.replicate 64 0, by simp⟩
instance : Inhabited B64 := ⟨zeroB⟩

structure Sec where
  text : B64
  next : Option B64
  worn : Bool
  deriving Inhabited

structure Dsk where
  s : List Sec
  off : Bool
  left : Option Nat

structure Dsk.ok (D : Dsk) : Prop where
  pos : 1 ≤ D.s.length
  len : D.s.length ≤ 4096
  left : ∀ n, D.left = some n → n ≤ 9223372036854775807

def clampP (p : Int) : Nat := (max 0 (min p 64)).toNat
theorem clampP_le (p : Int) : clampP p ≤ 64 := by unfold clampP; omega
def mix (b t : B64) (k : Nat) (hk : k ≤ 64) : B64 := ⟨b.1.take k ++ t.1.drop k, by have h1 := b.2; have h2 := t.2; simp; omega⟩

/-- A pending content is settled. -/
def settle (x : Sec) (p : Int) : Sec := match x.next with
  | none => x
  | some b => ⟨if x.worn then x.text else mix b x.text (clampP p) (clampP_le p), none, x.worn⟩

def mountS (p : Nat → Int) : List Sec → Nat → List Sec
  | [], _ => []
  | x :: s, k => match x.next with
    | none => x :: mountS p s k
    | some _ => settle x (p k) :: mountS p s (k + 1)

def pickF (picks : List Int) (k : Nat) : Int := if k < picks.length then nth picks k else 64

theorem mountS_len (p : Nat → Int) : ∀ (s : List Sec) (k : Nat), (mountS p s k).length = s.length
  | [], _ => rfl
  | x :: s, k => by
    simp only [mountS]
    cases x.next with
    | none => simp [mountS_len p s]
    | some _ => simp [mountS_len p s]

def stepL (l : Option Nat) : Option Nat := l.map (· - 1)

def Dsk.read (D : Dsk) (i : Int) : List UInt8 × Int :=
  if D.off then ([], 21) else if i < 0 ∨ (D.s.length : Int) ≤ i then ([], 1) else (((nth D.s i.toNat).next.getD (nth D.s i.toNat).text).1, 0)

def Dsk.write (D : Dsk) (i : Int) (s : List UInt8) : Int × Dsk :=
  if D.off then (21, D) else if i < 0 ∨ (D.s.length : Int) ≤ i then (1, D) else
  if h : s.length = 64 then (if D.left = some 0 then (21, { D with off := true }) else (0, { D with left := stepL D.left, s := D.s.set i.toNat { nth D.s i.toNat with next := some ⟨s, h⟩ } })) else (1, D)

def Dsk.flush (D : Dsk) : Int × Dsk :=
  if D.off then (21, D) else if D.left = some 0 then (21, { D with off := true }) else (0, { D with left := stepL D.left, s := mountS (fun _ => 64) D.s 0 })

def Dsk.mount (D : Dsk) (picks : List Int) : Dsk := ⟨mountS (pickF picks) D.s 0, false, none⟩
def Dsk.trip (D : Dsk) (n : Int) : Dsk := { D with left := if n < 0 then none else some n.toNat }

def flipB (a : UInt8) (k : Nat) : UInt8 := UInt8.ofNat (a.toNat ^^^ (1 <<< k))
def flipT (t : B64) (bit : Nat) : B64 := ⟨t.1.set (bit / 8) (flipB (nth t.1 (bit / 8)) (bit % 8)), by rw [List.length_set]; exact t.2⟩

def Dsk.rot (D : Dsk) (i bit : Int) : Int × Dsk :=
  if i < 0 ∨ (D.s.length : Int) ≤ i ∨ bit < 0 ∨ 512 ≤ bit then (1, D) else (0, { D with s := D.s.set i.toNat { nth D.s i.toNat with text := flipT (nth D.s i.toNat).text bit.toNat } })

def Dsk.wear (D : Dsk) (i : Int) : Int × Dsk :=
  if i < 0 ∨ (D.s.length : Int) ≤ i then (1, D) else (0, { D with s := D.s.set i.toNat { nth D.s i.toNat with worn := true } })

/-! ### maps with small keys -/

structure MapIs (es : List (Nat × AVal × AVal)) (n : Nat) (f : Nat → Option AVal) : Prop where
  keys : ∀ e ∈ es, ∃ i : Nat, i < n ∧ e.2.1 = .int .i64 (i : Int) ∧ f i = some e.2.2
  nodup : es.Pairwise (fun a b => a.2.1 ≠ b.2.1)
  has : ∀ i v, f i = some v → ∃ e ∈ es, e.2.1 = .int .i64 (i : Int) ∧ e.2.2 = v

theorem keyEq_nat (i j : Nat) : keyEq (.int .i64) (.int .i64 (i : Int)) (.int .i64 (j : Int)) = decide (i = j) := by
  by_cases h : i = j
  · subst h; simp [keyEq]
  · have : ¬ ((i : Int) = (j : Int)) := by omega
    simp [keyEq, h, this]

theorem findE_none {es : List (Nat × AVal × AVal)} {n : Nat} {f : Nat → Option AVal} {i : Nat} (h1 : ∀ e ∈ es, ∃ j : Nat, j < n ∧ e.2.1 = .int .i64 (j : Int) ∧ f j = some e.2.2) (hf : f i = none) : ∀ k, findE (.int .i64) (.int .i64 (i : Int)) es k = none := by
  induction es with
  | nil => intro k; rfl
  | cons e es ih =>
    intro k
    obtain ⟨j, _, hj, hv⟩ := h1 e (by simp)
    have hne : i ≠ j := by intro q; subst q; rw [hf] at hv; simp at hv
    simp only [findE, hj, keyEq_nat, hne, decide_false, Bool.false_eq_true, if_false]
    exact ih (fun e he => h1 e (by simp [he])) (k + 1)

theorem findE_some {es : List (Nat × AVal × AVal)} {n : Nat} {f : Nat → Option AVal} {i : Nat} {v : AVal} (h1 : ∀ e ∈ es, ∃ j : Nat, j < n ∧ e.2.1 = .int .i64 (j : Int) ∧ f j = some e.2.2) (hf : f i = some v) :
    ∀ k, (∃ e ∈ es, e.2.1 = .int .i64 (i : Int) ∧ e.2.2 = v) → ∃ j, findE (.int .i64) (.int .i64 (i : Int)) es k = some (k + j, v) ∧ ∃ e, es[j]? = some e ∧ e.2.1 = .int .i64 (i : Int) := by
  induction es with
  | nil => rintro k ⟨e, he, _⟩; simp at he
  | cons e es ih =>
    intro k hx
    obtain ⟨j, _, hj, hv⟩ := h1 e (by simp)
    by_cases hij : i = j
    · subst hij
      refine ⟨0, ?_, e, rfl, hj⟩
      simp only [findE, hj, keyEq_nat, decide_true, if_true, Nat.add_zero]
      rw [hf] at hv
      rw [Option.some.inj hv]
    · obtain ⟨e', he', hk, hw⟩ := hx
      have hne : e' ∈ es := by
        rcases List.mem_cons.1 he' with rfl | h
        · rw [hj] at hk; simp at hk; omega
        · exact h
      obtain ⟨m, hm, e2, he2, hk2⟩ := ih (fun e he => h1 e (by simp [he])) (k + 1) ⟨e', hne, hk, hw⟩
      refine ⟨m + 1, ?_, e2, by simpa using he2, hk2⟩
      simp only [findE, hj, keyEq_nat, hij, decide_false, Bool.false_eq_true, if_false, hm]
      congr 2; omega

def upd (f : Nat → Option AVal) (i : Nat) (v : Option AVal) (j : Nat) : Option AVal := if j = i then v else f j

theorem MapIs.getN {es : List (Nat × AVal × AVal)} {n : Nat} {f : Nat → Option AVal} (m : MapIs es n f) {i : Nat} (hf : f i = none) : findE (.int .i64) (.int .i64 (i : Int)) es 0 = none := findE_none m.keys hf 0
theorem MapIs.getS {es : List (Nat × AVal × AVal)} {n : Nat} {f : Nat → Option AVal} (m : MapIs es n f) {i : Nat} {v : AVal} (hf : f i = some v) : ∃ j, findE (.int .i64) (.int .i64 (i : Int)) es 0 = some (j, v) := by
  obtain ⟨j, hj, _⟩ := findE_some m.keys hf 0 (m.has i v hf)
  exact ⟨j, by simpa using hj⟩

theorem MapIs.congr {es : List (Nat × AVal × AVal)} {n : Nat} {f g : Nat → Option AVal} (m : MapIs es n f) (h : ∀ i, i < n → f i = g i) (h' : ∀ i, n ≤ i → g i = none) : MapIs es n g :=
  ⟨fun e he => by obtain ⟨i, hi, h1, h2⟩ := m.keys e he; exact ⟨i, hi, h1, by rw [← h i hi]; exact h2⟩, m.nodup, fun i v hv => by
    by_cases hi : i < n
    · exact m.has i v (by rw [h i hi]; exact hv)
    · rw [h' i (by omega)] at hv; simp at hv⟩

theorem mapIs_nil (n : Nat) : MapIs [] n (fun _ => Option.none) := ⟨by simp, by simp, by simp⟩

theorem MapIs.put {es : List (Nat × AVal × AVal)} {n : Nat} {f : Nat → Option AVal} (m : MapIs es n f) {i : Nat} (hi : i < n) (v : AVal) (c : Nat) : MapIs (mput (.int .i64) (.int .i64 (i : Int)) v c es).2 n (upd f i (Option.some v)) := by
  cases hf : f i with
  | none =>
    have hn := m.getN hf
    simp only [mput, hn]
    refine ⟨fun e he => ?_, ?_, fun j w hw => ?_⟩
    · rcases List.mem_append.1 he with he | he
      · obtain ⟨j, h1, h2, h3⟩ := m.keys e he
        refine ⟨j, h1, h2, ?_⟩
        unfold upd
        rw [if_neg (by rintro rfl; rw [hf] at h3; simp at h3)]; exact h3
      · simp at he; subst he
        exact ⟨i, hi, rfl, by simp [upd]⟩
    · refine List.pairwise_append.2 ⟨m.nodup, by simp, fun a ha b hb => ?_⟩
      simp at hb; subst hb
      obtain ⟨j, h1, h2, h3⟩ := m.keys a ha
      rw [h2]; intro q; simp at q
      have : j = i := by omega
      subst this; rw [hf] at h3; simp at h3
    · unfold upd at hw
      split at hw
      · rename_i hj; subst hj
        obtain rfl := Option.some.inj hw
        exact ⟨(c, .int .i64 (j : Int), v), by simp, rfl, rfl⟩
      · obtain ⟨e, he, h1, h2⟩ := m.has j w hw
        exact ⟨e, by simp [he], h1, h2⟩
  | some v0 =>
    obtain ⟨j, hj, e0, he0, hk0⟩ := findE_some m.keys hf 0 (m.has i v0 hf)
    rw [Nat.zero_add] at hj
    have hjl : j < es.length := (List.getElem?_eq_some_iff.1 he0).1
    have hej : es[j] = e0 := by rw [List.getElem?_eq_getElem hjl] at he0; exact Option.some.inj he0
    simp only [mput, hj]
    have hmod : ∀ (k : Nat) e, (es.modify j fun e => (e.1, AVal.int .i64 (i : Int), v))[k]? = Option.some e → (k = j ∧ e = (e0.1, .int .i64 (i : Int), v)) ∨ (k ≠ j ∧ es[k]? = Option.some e) := by
      intro k e he
      rw [List.getElem?_modify] at he
      by_cases hkj : k = j
      · subst hkj
        rw [he0] at he; simp at he
        exact .inl ⟨rfl, he.symm⟩
      · exact .inr ⟨hkj, by simpa [Ne.symm hkj] using he⟩
    have hkeys : (es.modify j fun e => (e.1, AVal.int .i64 (i : Int), v)).map (·.2.1) = es.map (·.2.1) := by
      apply List.ext_getElem?
      intro k
      simp only [List.getElem?_map, List.getElem?_modify]
      by_cases hkj : j = k
      · subst hkj; simp [he0, hk0]
      · simp [hkj]
    refine ⟨fun e he => ?_, ?_, fun k w hw => ?_⟩
    · obtain ⟨k, hk⟩ := List.getElem?_of_mem he
      rcases hmod k e hk with ⟨_, rfl⟩ | ⟨hkj, hk'⟩
      · exact ⟨i, hi, rfl, by simp [upd]⟩
      · obtain ⟨a, h1, h2, h3⟩ := m.keys e (List.mem_of_getElem? hk')
        refine ⟨a, h1, h2, ?_⟩
        unfold upd
        rw [if_neg]; exact h3
        rintro rfl
        have hnd := List.pairwise_iff_getElem.1 m.nodup
        obtain ⟨hkl, hke⟩ := List.getElem?_eq_some_iff.1 hk'
        rcases Nat.lt_or_gt_of_ne hkj with hlt | hgt
        · exact hnd k j hkl hjl hlt (by rw [hke, hej, h2, hk0])
        · exact hnd j k hjl hkl hgt (by rw [hke, hej, h2, hk0])
    · have := List.pairwise_map.2 m.nodup
      rw [← hkeys] at this
      exact List.pairwise_map.1 this
    · unfold upd at hw
      split at hw
      · rename_i hj'; subst hj'
        obtain rfl := Option.some.inj hw
        refine ⟨(e0.1, .int .i64 (k : Int), v), ?_, rfl, rfl⟩
        refine List.mem_of_getElem? (i := j) ?_
        simp [List.getElem?_modify, he0]
      · rename_i hne
        obtain ⟨e, he, h1, h2⟩ := m.has k w hw
        refine ⟨e, ?_, h1, h2⟩
        obtain ⟨q, hq⟩ := List.getElem?_of_mem he
        have hqj : j ≠ q := by
          rintro rfl
          rw [he0] at hq; obtain rfl := Option.some.inj hq
          rw [hk0] at h1; simp at h1; omega
        refine List.mem_of_getElem? (i := q) ?_
        simp [List.getElem?_modify, hqj, hq]

theorem MapIs.del {es : List (Nat × AVal × AVal)} {n : Nat} {f : Nat → Option AVal} (m : MapIs es n f) (i : Nat) : MapIs (mdelE (.int .i64) (.int .i64 (i : Int)) es) n (upd f i Option.none) := by
  cases hf : f i with
  | none =>
    have hn := m.getN hf
    simp only [mdelE, hn]
    refine ⟨fun e he => ?_, m.nodup, fun j w hw => ?_⟩
    · obtain ⟨j, h1, h2, h3⟩ := m.keys e he
      refine ⟨j, h1, h2, ?_⟩
      unfold upd
      rw [if_neg (by rintro rfl; rw [hf] at h3; simp at h3)]; exact h3
    · unfold upd at hw
      split at hw
      · simp at hw
      · exact m.has j w hw
  | some v0 =>
    obtain ⟨j, hj, e0, he0, hk0⟩ := findE_some m.keys hf 0 (m.has i v0 hf)
    rw [Nat.zero_add] at hj
    have hjl : j < es.length := (List.getElem?_eq_some_iff.1 he0).1
    have hej : es[j] = e0 := by rw [List.getElem?_eq_getElem hjl] at he0; exact Option.some.inj he0
    simp only [mdelE, hj]
    have hsub : (es.eraseIdx j).Sublist es := List.eraseIdx_sublist ..
    refine ⟨fun e he => ?_, m.nodup.sublist hsub, fun k w hw => ?_⟩
    · obtain ⟨a, h1, h2, h3⟩ := m.keys e (hsub.subset he)
      refine ⟨a, h1, h2, ?_⟩
      unfold upd
      rw [if_neg]; exact h3
      rintro rfl
      -- the entry would stand twice
      obtain ⟨k, hk⟩ := List.getElem?_of_mem he
      rw [List.getElem?_eraseIdx] at hk
      have hnd := List.pairwise_iff_getElem.1 m.nodup
      split at hk
      · rename_i hlt
        obtain ⟨hkl, hke⟩ := List.getElem?_eq_some_iff.1 hk
        exact hnd k j hkl hjl hlt (by rw [hke, hej, h2, hk0])
      · rename_i hge
        obtain ⟨hkl, hke⟩ := List.getElem?_eq_some_iff.1 hk
        exact hnd j (k + 1) hjl hkl (by omega) (by rw [hke, hej, h2, hk0])
    · unfold upd at hw
      split at hw
      · simp at hw
      · rename_i hne
        obtain ⟨e, he, h1, h2⟩ := m.has k w hw
        refine ⟨e, ?_, h1, h2⟩
        obtain ⟨q, hq⟩ := List.getElem?_of_mem he
        have hqj : q ≠ j := by
          rintro rfl
          rw [he0] at hq; obtain rfl := Option.some.inj hq
          rw [hk0] at h1; simp at h1; omega
        rcases Nat.lt_or_gt_of_ne hqj with hlt | hgt
        · refine List.mem_of_getElem? (i := q) ?_
          rw [List.getElem?_eraseIdx, if_pos hlt]; exact hq
        · refine List.mem_of_getElem? (i := q - 1) ?_
          rw [List.getElem?_eraseIdx, if_neg (by omega), show q - 1 + 1 = q by omega]; exact hq

/-- The keys, sorted. -/
theorem MapIs.sorted {es : List (Nat × AVal × AVal)} {n : Nat} {f : Nat → Option AVal} (m : MapIs es n f) (hn : n ≤ 4096) :
    ∃ ns, keysZ es = Option.some ns ∧ sortZ ns = ((List.range n).filter fun i => (f i).isSome).map (fun i : Nat => (i : Int)) ∧ es.length ≤ 17592186044416 := by
  have hk : ∀ (es : List (Nat × AVal × AVal)), (∀ e ∈ es, ∃ i : Nat, i < n ∧ e.2.1 = .int .i64 (i : Int) ∧ f i = Option.some e.2.2) → ∃ is : List Nat, keysZ es = Option.some (is.map fun i : Nat => (i : Int)) ∧ es.map (·.2.1) = is.map (fun i : Nat => AVal.int .i64 (i : Int)) := by
    intro es
    induction es with
    | nil => intro _; exact ⟨[], rfl, rfl⟩
    | cons e es ih =>
      intro h
      obtain ⟨i, h1, h2, h3⟩ := h e (by simp)
      obtain ⟨is, k1, k2⟩ := ih (fun e he => h e (by simp [he]))
      refine ⟨i :: is, ?_, by simp [h2, k2]⟩
      have : keyZ e.2.1 = Option.some (i : Int) := by rw [h2]; exact if_pos ⟨by omega, by omega⟩
      simp [keysZ, this, k1]
  obtain ⟨is, k1, k2⟩ := hk es m.keys
  have hnd : is.Nodup := by
    have h1 : (es.map (·.2.1)).Pairwise (· ≠ ·) := List.pairwise_map.2 m.nodup
    rw [k2] at h1
    exact (List.pairwise_map.1 h1).imp (fun h q => h (by rw [q]))
  have hmem : ∀ i, i ∈ is ↔ i < n ∧ (f i).isSome = true := by
    intro i
    constructor
    · intro hi
      have : AVal.int .i64 (i : Int) ∈ es.map (·.2.1) := by rw [k2]; exact List.mem_map.2 ⟨i, hi, rfl⟩
      obtain ⟨e, he, hq⟩ := List.mem_map.1 this
      obtain ⟨j, h1, h2, h3⟩ := m.keys e he
      rw [h2] at hq; simp at hq
      have : j = i := by omega
      subst this
      exact ⟨h1, by simp [h3]⟩
    · rintro ⟨h1, h2⟩
      obtain ⟨v, hv⟩ := Option.isSome_iff_exists.1 h2
      obtain ⟨e, he, hk, _⟩ := m.has i v hv
      have : AVal.int .i64 (i : Int) ∈ is.map (fun i : Nat => AVal.int .i64 (i : Int)) := by rw [← k2]; exact List.mem_map.2 ⟨e, he, hk⟩
      obtain ⟨j, hj, hq⟩ := List.mem_map.1 this
      simp at hq
      have : j = i := by omega
      subst this; exact hj
  have hperm : is.Perm ((List.range n).filter fun i => (f i).isSome) := by
    refine (List.perm_ext_iff_of_nodup hnd (List.nodup_range.filter _)).2 fun i => ?_
    rw [hmem, List.mem_filter, List.mem_range]
  refine ⟨_, k1, ?_, ?_⟩
  · refine rising_perm ((sortZ_perm _).trans (hperm.map _)) (sortZ_le _) ?_
    refine List.pairwise_map.2 ?_
    exact (List.pairwise_lt_range.filter _).imp (fun h => by omega)
  · have h1 : es.length = is.length := by simpa using congrArg List.length k2
    have h2 := hperm.length_eq
    have h3 := List.length_filter_le (fun i => (f i).isSome) (List.range n)
    simp at h3
    omega
end Go.Proofs.Ytjofjgflcogklaa
