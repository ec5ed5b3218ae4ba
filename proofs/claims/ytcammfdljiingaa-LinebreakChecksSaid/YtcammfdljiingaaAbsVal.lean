/-
  Values without rights, rows as plain lists, literals: the relations are kept.
-/
import Derived.Test.YtcammfdljiingaaAbsRel
namespace Go.Abs

theorem stripL_ok {xs ys : List AVal} (h : stripL xs = some ys) : xs.length = ys.length ∧ ∀ (k : Nat) (x : AVal), xs[k]? = some x → ∃ y, ys[k]? = some y ∧ strip x = some y := by
  induction xs generalizing ys with
  | nil => simp [stripL] at h; subst h; simp
  | cons x xs ih =>
    simp only [stripL] at h
    split at h
    · rename_i y ys' h1 h2
      obtain rfl := Option.some.inj h
      obtain ⟨e1, e2⟩ := ih h2
      refine ⟨by simp [e1], fun k x' hk => ?_⟩
      cases k with
      | zero => simp at hk; subst hk; exact ⟨y, by simp, h1⟩
      | succ k => simpa using e2 k x' (by simpa using hk)
    · simp at h

theorem purifyL_ok {h : Heap} {xs ys : List AVal} (e : purifyL h xs = some ys) : xs.length = ys.length ∧ ∀ (k : Nat) (x : AVal), xs[k]? = some x → ∃ y, ys[k]? = some y ∧ purify h x = some y := by
  induction xs generalizing ys with
  | nil => simp [purifyL] at e; subst e; simp
  | cons x xs ih =>
    simp only [purifyL] at e
    split at e
    · rename_i y ys' h1 h2
      obtain rfl := Option.some.inj e
      obtain ⟨e1, e2⟩ := ih h2
      refine ⟨by simp [e1], fun k x' hk => ?_⟩
      cases k with
      | zero => simp at hk; subst hk; exact ⟨y, by simp, h1⟩
      | succ k => simpa using e2 k x' (by simpa using hk)
    · simp at e

theorem refIdsL_mem {cs : List AVal} {k : Nat} {a : AVal} (h : cs[k]? = some a) {id : Nat} (hid : id ∈ refIds a) : id ∈ refIdsL cs := by
  induction cs generalizing k with
  | nil => simp at h
  | cons x xs ih =>
    simp only [refIdsL, List.mem_append]
    cases k with
    | zero => simp at h; subst h; exact .inl hid
    | succ k => exact .inr (ih (by simpa using h))

theorem one_cells {c : AVal} (h : c.one = true) : c.cells = [c] := by cases c <;> simp_all [AVal.one, AVal.cells]

theorem strip_one {x y : AVal} (h : strip x = some y) (ho : x.one = true) : y.one = true := by
  cases x with
  | sl xs t => cases t <;> simp [strip] at h <;> subst h <;> rfl
  | fn f cap => simp [strip] at h; obtain ⟨_, _, rfl⟩ := h; rfl
  | agg cs => simp [AVal.one] at ho
  | tup cs => simp [AVal.one] at ho
  | bad => simp [AVal.one] at ho
  | rp cs => simp [AVal.one] at ho
  | ptr _ _ => simp [strip] at h
  | ref _ _ _ _ => simp [strip] at h
  | _ => simp [strip] at h; subst h; rfl

theorem purify_one {h : Heap} {x y : AVal} (e : purify h x = some y) (ho : x.one = true) : y.one = true := by
  cases x with
  | sl xs t => cases t <;> simp [purify] at e <;> subst e <;> rfl
  | fn f cap => simp [purify] at e; obtain ⟨_, _, rfl⟩ := e; rfl
  | agg cs => simp [AVal.one] at ho
  | tup cs => simp [AVal.one] at ho
  | bad => simp [AVal.one] at ho
  | rp cs => simp [AVal.one] at ho
  | ptr _ _ => simp [purify] at e
  | ref _ _ _ _ => simp [purify] at e; obtain ⟨_, _, rfl⟩ := e; rfl
  | _ => simp [purify] at e; subst e; rfl

theorem mem_get {α : Type} {l : List α} {x : α} (h : x ∈ l) : ∃ k : Nat, l[k]? = some x := List.mem_iff_getElem?.1 h

theorem stripL_one {xs ys : List AVal} (h : stripL xs = some ys) (ho : ∀ x ∈ xs, x.one = true) : ∀ y ∈ ys, y.one = true := by
  intro y hy
  obtain ⟨k, hk⟩ := mem_get hy
  obtain ⟨e1, e2⟩ := stripL_ok h
  obtain ⟨x, hx⟩ : ∃ x, xs[k]? = some x := ⟨_, List.getElem?_eq_getElem (by rw [e1]; exact (List.getElem?_eq_some_iff.1 hk).1)⟩
  obtain ⟨y', hy', hs⟩ := e2 k x hx
  rw [hk] at hy'; obtain rfl := Option.some.inj hy'
  exact strip_one hs (ho x (List.mem_of_getElem? hx))

theorem purifyL_one {h : Heap} {xs ys : List AVal} (e : purifyL h xs = some ys) (ho : ∀ x ∈ xs, x.one = true) : ∀ y ∈ ys, y.one = true := by
  intro y hy
  obtain ⟨k, hk⟩ := mem_get hy
  obtain ⟨e1, e2⟩ := purifyL_ok e
  obtain ⟨x, hx⟩ : ∃ x, xs[k]? = some x := ⟨_, List.getElem?_eq_getElem (by rw [e1]; exact (List.getElem?_eq_some_iff.1 hk).1)⟩
  obtain ⟨y', hy', hs⟩ := e2 k x hx
  rw [hk] at hy'; obtain rfl := Option.some.inj hy'
  exact purify_one hs (ho x (List.mem_of_getElem? hx))

/-- The other way round: the elements that a list of results stands for. -/
theorem back_get {α : Type} {xs ys : List α} {R : α → α → Prop} (h : xs.length = ys.length ∧ ∀ (k : Nat) (x : α), xs[k]? = some x → ∃ y, ys[k]? = some y ∧ R x y) {k : Nat} {y : α}
    (hk : ys[k]? = some y) : ∃ x, xs[k]? = some x ∧ R x y := by
  obtain ⟨e1, e2⟩ := h
  obtain ⟨x, hx⟩ : ∃ x, xs[k]? = some x := ⟨_, List.getElem?_eq_getElem (by rw [e1]; exact (List.getElem?_eq_some_iff.1 hk).1)⟩
  obtain ⟨y', hy', hs⟩ := e2 k x hx
  rw [hk] at hy'; obtain rfl := Option.some.inj hy'
  exact ⟨x, hx, hs⟩

/-- Without rights, and seen from another ghost in which no less is stable. -/
theorem VRel.strip_to {w : World} {G G2 : Ghost} (hs : ∀ b k, stab G b k → stab G2 b k) {v : Value} {x : AVal} (r : VRel w G v x) :
    ∀ {y : AVal}, strip x = some y → VRel w G2 v y := by
  induction r with
  | bool b => intro y h; simp [strip] at h; subst h; exact .bool b
  | int k n => intro y h; simp [strip] at h; subst h; exact .int k n
  | str s => intro y h; simp [strip] at h; subst h; exact .str s
  | nilptr => intro y h; simp [strip] at h; subst h; exact .nilptr
  | ptr id off _ => intro y h; simp [strip] at h
  | rp => intro y h; simp [strip] at h
  | nilsl t ht => intro y h; rcases ht with rfl | rfl <;> simp [strip] at h <;> subst h <;> exact .nilsl _ (by simp)
  | sl b off cap sz xs t u h0 h1 h2 h3 h4 h5 hc hn ho ih =>
    intro y h
    have e : y = .sl xs .none := by
      cases t with
      | none => simp [strip] at h; exact h.symm
      | nil => exact absurd rfl hn
      | own a b => simp [strip] at h; exact h.symm
    subst e
    exact .sl b off cap sz xs .none u h0 h1 (fun k c hk => ih k c hk (h5 c (List.mem_of_getElem? hk))) (fun k hk => hs _ _ (h3 k hk)) h4 h5 hc (by simp) (fun _ _ hh => by simp at hh)
  | ref => intro y h; simp [strip] at h
  | ref0 => intro y h; simp [strip] at h
  | fn f cs as hl _ ih =>
    intro y h; simp [strip] at h
    obtain ⟨as', h', rfl⟩ := h
    have hk := stripL_ok h'
    refine .fn f cs as' (hl.trans hk.1) fun k c a hc ha => ?_
    obtain ⟨x, hx, hx'⟩ := back_get hk ha
    exact ih k c x hc hx hx'
  | nilfn => intro y h; simp [strip] at h; subst h; exact .nilfn
  | nilif => intro y h; simp [strip] at h; subst h; exact .nilif
  | agg cs as hl _ h4 ih =>
    intro y h; simp [strip] at h
    obtain ⟨as', h', rfl⟩ := h
    have hk := stripL_ok h'
    refine .agg cs as' (hl.trans hk.1) (fun k c a hc ha => ?_) (stripL_one h' h4)
    obtain ⟨x, hx, hx'⟩ := back_get hk ha
    exact ih k c x hc hx hx'
  | tup cs as hl _ ih =>
    intro y h; simp [strip] at h
    obtain ⟨as', h', rfl⟩ := h
    have hk := stripL_ok h'
    refine .tup cs as' (hl.trans hk.1) fun k c a hc ha => ?_
    obtain ⟨x, hx, hx'⟩ := back_get hk ha
    exact ih k c x hc hx hx'
  | bad v => intro y h; simp [strip] at h

theorem stripL_of_all {xs : List AVal} (h : ∀ x ∈ xs, strip x = some x) : stripL xs = some xs := by
  induction xs with
  | nil => rfl
  | cons x xs ih => simp [stripL, h x (by simp), ih (fun y hy => h y (by simp [hy]))]

/-- What a value comes to at a call's end has no rights and no rows. -/
theorem VRel.purify_strip {w : World} {G : Ghost} {h : Heap} {v : Value} {x : AVal} (r : VRel w G v x) : ∀ {y : AVal}, purify h x = some y → strip y = some y := by
  have key : ∀ {as as' : List AVal} {cs : Array Value}, cs.size = as.length → (∀ (k : Nat) (c : Value) (a : AVal), cs[k]? = some c → as[k]? = some a → ∀ {y}, purify h a = some y → strip y = some y) →
      purifyL h as = some as' → stripL as' = some as' := by
    intro as as' cs hl ih h'
    have hk := purifyL_ok h'
    refine stripL_of_all fun y hy => ?_
    obtain ⟨k, hk'⟩ := mem_get hy
    obtain ⟨x, hx, hx'⟩ := back_get hk hk'
    obtain ⟨c, hc⟩ : ∃ c, cs[k]? = some c := ⟨_, Array.getElem?_eq_getElem (by rw [hl]; exact (List.getElem?_eq_some_iff.1 hx).1)⟩
    exact ih k c x hc hx hx'
  induction r with
  | ptr => intro y e; simp [purify] at e
  | rp => intro y e; simp [purify] at e
  | nilsl t ht => intro y e; rcases ht with rfl | rfl <;> simp [purify] at e <;> subst e <;> rfl
  | sl b off cap sz xs t => intro y e; cases t <;> simp [purify] at e <;> subst e <;> rfl
  | ref id off len sz => intro y e; simp [purify] at e; obtain ⟨_, _, rfl⟩ := e; rfl
  | ref0 id off sz => intro y e; simp [purify] at e; obtain ⟨_, _, rfl⟩ := e; rfl
  | fn f cs as hl _ ih => intro y e; simp [purify] at e; obtain ⟨as', h', rfl⟩ := e; simp [strip, key hl ih h']
  | agg cs as hl _ h4 ih => intro y e; simp [purify] at e; obtain ⟨as', h', rfl⟩ := e; simp [strip, key hl ih h']
  | tup cs as hl _ ih => intro y e; simp [purify] at e; obtain ⟨as', h', rfl⟩ := e; simp [strip, key hl ih h']
  | bad => intro y e; simp [purify] at e
  | _ => intro y e; simp [purify] at e; subst e; rfl

theorem VRel.strip_strip {w : World} {G : Ghost} {v : Value} {x : AVal} (r : VRel w G v x) : ∀ {y : AVal}, strip x = some y → strip y = some y := by
  have key : ∀ {as as' : List AVal} {cs : Array Value}, cs.size = as.length → (∀ (k : Nat) (c : Value) (a : AVal), cs[k]? = some c → as[k]? = some a → ∀ {y}, strip a = some y → strip y = some y) →
      stripL as = some as' → stripL as' = some as' := by
    intro as as' cs hl ih h'
    have hk := stripL_ok h'
    refine stripL_of_all fun y hy => ?_
    obtain ⟨k, hk'⟩ := mem_get hy
    obtain ⟨x, hx, hx'⟩ := back_get hk hk'
    obtain ⟨c, hc⟩ : ∃ c, cs[k]? = some c := ⟨_, Array.getElem?_eq_getElem (by rw [hl]; exact (List.getElem?_eq_some_iff.1 hx).1)⟩
    exact ih k c x hc hx hx'
  induction r with
  | ptr => intro y e; simp [strip] at e
  | rp => intro y e; simp [strip] at e
  | nilsl t ht => intro y e; rcases ht with rfl | rfl <;> simp [strip] at e <;> subst e <;> rfl
  | sl b off cap sz xs t => intro y e; cases t <;> simp [strip] at e <;> subst e <;> rfl
  | ref id off len sz => intro y e; simp [strip] at e
  | ref0 id off sz => intro y e; simp [strip] at e
  | fn f cs as hl _ ih => intro y e; simp [strip] at e; obtain ⟨as', h', rfl⟩ := e; simp [strip, key hl ih h']
  | agg cs as hl _ h4 ih => intro y e; simp [strip] at e; obtain ⟨as', h', rfl⟩ := e; simp [strip, key hl ih h']
  | tup cs as hl _ ih => intro y e; simp [strip] at e; obtain ⟨as', h', rfl⟩ := e; simp [strip, key hl ih h']
  | bad => intro y e; simp [strip] at e
  | _ => intro y e; simp [strip] at e; subst e; rfl

/-! ### lists of elements and lists of cells -/

theorem chunk_ok {sz : Nat} {ag : Bool} : ∀ {n : Nat} {cs xs : List AVal}, chunk sz ag n cs = some xs → (∀ c ∈ cs, c.one = true) → xs.length = n ∧ flat xs = cs.take (n * sz) ∧ (∀ x ∈ xs, x.cells.length = sz) ∧ n * sz ≤ cs.length
  | 0, cs, xs, h, _ => by simp [chunk] at h; subst h; simp [flat]
  | n + 1, cs, xs, h, ho => by
    simp only [chunk] at h
    split at h
    · rename_i x xs' h1 h2
      split at h
      · rename_i hx
        obtain rfl := Option.some.inj h
        obtain ⟨e1, e2, e3, e4⟩ := chunk_ok h2 (fun c hc => ho c (List.mem_of_mem_drop hc))
        have hcells : x.cells = cs.take sz := by
          cases ag with
          | true => simp [mk] at h1; subst h1; rfl
          | false =>
            simp only [mk, Bool.false_eq_true, if_false] at h1
            split at h1
            · rename_i c hc
              obtain rfl := Option.some.inj h1
              rw [hc]
              exact one_cells (ho c (List.mem_of_mem_take (by rw [hc]; simp)))
            · simp at h1
        have hlen : sz ≤ cs.length := by rw [hcells] at hx; simp at hx; omega
        refine ⟨by simp [e1], ?_, ?_, ?_⟩
        · have : flat (x :: xs') = x.cells ++ flat xs' := by simp [flat]
          rw [this, hcells, e2, Nat.succ_mul, Nat.add_comm, List.take_add]
        · intro y hy
          rcases List.mem_cons.1 hy with rfl | hy
          · exact hx
          · exact e3 y hy
        · simp at e4; rw [Nat.succ_mul]; omega
      · simp at h
    · simp at h

theorem flat_len {sz : Nat} {xs : List AVal} (h : ∀ x ∈ xs, x.cells.length = sz) : (flat xs).length = xs.length * sz := by
  induction xs with
  | nil => simp [flat]
  | cons x xs ih =>
    have : flat (x :: xs) = x.cells ++ flat xs := by simp [flat]
    rw [this, List.length_append, h x (by simp), ih (fun y hy => h y (by simp [hy])), List.length_cons, Nat.succ_mul, Nat.add_comm]

theorem flat_append (xs ys : List AVal) : flat (xs ++ ys) = flat xs ++ flat ys := by simp [flat]

theorem flat_get {sz : Nat} {xs : List AVal} (h : ∀ x ∈ xs, x.cells.length = sz) {i j : Nat} {x : AVal} (hi : xs[i]? = some x) (hj : j < sz) : (flat xs)[i * sz + j]? = x.cells[j]? := by
  induction xs generalizing i with
  | nil => simp at hi
  | cons y ys ih =>
    have e : flat (y :: ys) = y.cells ++ flat ys := by simp [flat]
    have hy := h y (by simp)
    rw [e]
    cases i with
    | zero =>
      simp at hi; subst hi
      rw [List.getElem?_append_left (by rw [hy]; omega)]; simp
    | succ i =>
      rw [Nat.succ_mul, List.getElem?_append_right (by rw [hy]; omega), hy, show i * sz + sz + j - sz = i * sz + j by omega]
      exact ih (fun z hz => h z (by simp [hz])) (by simpa using hi)

/-- A row's part as a plain list. -/
theorem readRef_ok {w : World} {G G2 : Ghost} {h : Heap} (H : HRel w G h) (hs : ∀ b k, stab G b k → stab G2 b k) {id off len sz cap : Nat} {xs : List AVal}
    (e : readRef h id off len sz = some xs) (hst : ∀ k, stab G2 (G.loc id) k) (hc : len ≤ cap) : VRel w G2 (.slice (some ⟨G.loc id, off, none⟩) len cap) (.sl xs .none) := by
  unfold readRef at e
  split at e
  · rename_i mu s ag cs hg
    split at e
    · rename_i hb
      split at e
      · rename_i cs' hstrip
        obtain ⟨_, h2, h3, h4, _⟩ := H.obj id _ hg
        have hk := stripL_ok hstrip
        have h3' := stripL_one hstrip h3
        obtain ⟨c1, c2, c3, c4⟩ := chunk_ok e (fun c hc => h3' c (List.mem_of_mem_drop hc))
        have hflat : ∀ (k : Nat) (c : AVal), (flat xs)[k]? = some c → cs'[off + k]? = some c := by
          intro k c hk'
          rw [c2, List.getElem?_take] at hk'
          split at hk'
          · rwa [List.getElem?_drop] at hk'
          · simp at hk'
        have hu : ∀ (k : Nat) (c : AVal), (flat xs)[k]? = some c → ∃ u, w.cell? ⟨G.loc id, off + k, none⟩ = some u ∧ VRel w G2 u c := by
          intro k c hk'
          obtain ⟨x, hx, hx'⟩ := back_get hk (hflat k c hk')
          obtain ⟨u, hu1, hu2⟩ := h2 _ x hx
          exact ⟨u, hu1, hu2.strip_to hs hx'⟩
        subst c1
        refine .sl (G.loc id) off cap sz xs .none (fun k => (w.cell? ⟨G.loc id, off + k, none⟩).getD (.bool false)) c3 (fun k c hk' => ?_) (fun k c hk' => ?_) (fun k _ => hst _) (fun c hc' => ?_) (fun c hc' => ?_) hc (by simp) (fun _ _ hh => by simp at hh)
        · obtain ⟨u, hu1, _⟩ := hu k c hk'
          simp [hu1]
        · obtain ⟨u, hu1, hu2⟩ := hu k c hk'
          simp only [hu1, Option.getD_some]; exact hu2
        · obtain ⟨k, hk'⟩ := mem_get hc'
          exact h3' c (List.mem_of_getElem? (hflat k c hk'))
        · obtain ⟨k, hk'⟩ := mem_get hc'
          obtain ⟨x, hx, hx'⟩ := back_get hk (hflat k c hk')
          obtain ⟨u, _, hu2⟩ := h2 _ x hx
          exact hu2.strip_strip hx'
      · simp at e
    · simp at e
  · simp at e

theorem vrel_sl0 {w : World} {G : Ghost} (b bo : Nat) : VRel w G (.slice (some ⟨b, bo, none⟩) 0 0) (.sl [] .none) :=
  .sl b bo 0 0 [] .none (fun _ => .bool false) (by simp) (by simp [flat]) (by simp [flat]) (by simp [flat]) (by simp [flat]) (by simp [flat]) (by simp) (by simp) (by simp)

theorem VRel.purify_to {w : World} {G G2 : Ghost} {h : Heap} (H : HRel w G h) (hs : ∀ b k, stab G b k → stab G2 b k) {v : Value} {x : AVal} (r : VRel w G v x) :
    (∀ id ∈ refIds x, ∀ k, stab G2 (G.loc id) k) → ∀ {y : AVal}, purify h x = some y → VRel w G2 v y := by
  induction r with
  | bool b => intro _ y e; simp [purify] at e; subst e; exact .bool b
  | int k n => intro _ y e; simp [purify] at e; subst e; exact .int k n
  | str s => intro _ y e; simp [purify] at e; subst e; exact .str s
  | nilptr => intro _ y e; simp [purify] at e; subst e; exact .nilptr
  | ptr id off _ => intro _ y e; simp [purify] at e
  | rp => intro _ y e; simp [purify] at e
  | nilsl t ht => intro _ y e; rcases ht with rfl | rfl <;> simp [purify] at e <;> subst e <;> exact .nilsl _ (by simp)
  | sl b off cap sz xs t u h0 h1 h2 h3 h4 h5 hc hn ho ih =>
    intro _ y e
    have e : y = .sl xs .none := by
      cases t with
      | none => simp [purify] at e; exact e.symm
      | nil => exact absurd rfl hn
      | own a b => simp [purify] at e; exact e.symm
    subst e
    exact .sl b off cap sz xs .none u h0 h1 (fun k c hk => (h2 k c hk).strip_to hs (h5 c (List.mem_of_getElem? hk))) (fun k hk => hs _ _ (h3 k hk)) h4 h5 hc (by simp) (fun _ _ hh => by simp at hh)
  | ref id off len sz cap hid hc hsz =>
    intro hst y e
    simp [purify] at e
    obtain ⟨xs, hx, rfl⟩ := e
    exact readRef_ok H hs hx (hst id (by simp [refIds])) hc
  | ref0 id off sz b bo hid =>
    intro hst y e
    simp [purify] at e
    obtain ⟨xs, hx, rfl⟩ := e
    have hxs : xs = [] := by
      unfold readRef at hx
      split at hx
      · split at hx
        · split at hx
          · simp [chunk] at hx; exact hx
          · simp at hx
        · simp at hx
      · simp at hx
    subst hxs
    exact vrel_sl0 b bo
  | fn f cs as hl _ ih =>
    intro hst y e; simp [purify] at e
    obtain ⟨as', h', rfl⟩ := e
    have hk := purifyL_ok h'
    refine .fn f cs as' (hl.trans hk.1) fun k c a hc ha => ?_
    obtain ⟨x, hx, hx'⟩ := back_get hk ha
    exact ih k c x hc hx (fun id hid => hst id (by simp only [refIds]; exact refIdsL_mem hx hid)) hx'
  | nilfn => intro _ y e; simp [purify] at e; subst e; exact .nilfn
  | nilif => intro _ y e; simp [purify] at e; subst e; exact .nilif
  | agg cs as hl _ h4 ih =>
    intro hst y e; simp [purify] at e
    obtain ⟨as', h', rfl⟩ := e
    have hk := purifyL_ok h'
    refine .agg cs as' (hl.trans hk.1) (fun k c a hc ha => ?_) (purifyL_one h' h4)
    obtain ⟨x, hx, hx'⟩ := back_get hk ha
    exact ih k c x hc hx (fun id hid => hst id (by simp only [refIds]; exact refIdsL_mem hx hid)) hx'
  | tup cs as hl _ ih =>
    intro hst y e; simp [purify] at e
    obtain ⟨as', h', rfl⟩ := e
    have hk := purifyL_ok h'
    refine .tup cs as' (hl.trans hk.1) fun k c a hc ha => ?_
    obtain ⟨x, hx, hx'⟩ := back_get hk ha
    exact ih k c x hc hx (fun id hid => hst id (by simp only [refIds]; exact refIdsL_mem hx hid)) hx'
  | bad v => intro _ y e; simp [purify] at e
end Go.Abs
