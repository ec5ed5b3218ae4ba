/-
  Rows of typed elements.
-/
import Derived.Test.YtcammfdljiingaaAbsAuto
set_option linter.unusedSimpArgs false
set_option linter.unusedVariables false
set_option linter.unusedSectionVars false
namespace Go.Abs

variable {α : Type} [Inhabited α] {f : α → AVal} {sz : Nat}

theorem flat_cons (x : AVal) (xs : List AVal) : flat (x :: xs) = x.cells ++ flat xs := rfl
theorem flat_nil : flat [] = [] := rfl
theorem flat_append (xs ys : List AVal) : flat (xs ++ ys) = flat xs ++ flat ys := by simp [flat]
theorem flatm_len (hf : ∀ x, (f x).cells.length = sz) : ∀ l : List α, (flat (l.map f)).length = l.length * sz
  | [] => by simp [flat]
  | x :: l => by
    have := flatm_len hf l
    simp only [List.map_cons, flat_cons, List.length_append, hf, this, List.length_cons, Nat.add_mul]
    omega

theorem flatm_drop (hf : ∀ x, (f x).cells.length = sz) : ∀ (l : List α) (n : Nat), (flat (l.map f)).drop (n * sz) = flat ((l.drop n).map f)
  | l, 0 => by simp
  | [], n + 1 => by simp [flat]
  | x :: l, n + 1 => by
    have := flatm_drop hf l n
    simp only [List.map_cons, flat_cons, List.drop_succ_cons]
    rw [← this, Nat.add_mul, Nat.one_mul, Nat.add_comm (n * sz) sz, ← List.drop_drop, List.drop_left' (hf x)]

theorem flatm_get (hf : ∀ x, (f x).cells.length = sz) (l : List α) {n k m : Nat} (hn : n < l.length) (hk : k + m ≤ sz) :
    ((flat (l.map f)).drop (n * sz + k)).take m = ((f (nth l n)).cells.drop k).take m := by
  rw [← List.drop_drop, flatm_drop hf, List.drop_eq_getElem_cons hn, List.map_cons, flat_cons, nth_eq hn]
  have := hf l[n]
  rw [List.drop_append_of_le_length (by omega), List.take_append_of_le_length (by simp; omega)]

theorem flatm_bound (hf : ∀ x, (f x).cells.length = sz) (l : List α) {n k m : Nat} (hn : n < l.length) (hk : k + m ≤ sz) : n * sz + k + m ≤ (flat (l.map f)).length := by
  rw [flatm_len hf]
  have : (n + 1) * sz ≤ l.length * sz := Nat.mul_le_mul_right _ hn
  rw [Nat.add_mul] at this
  omega

theorem loadG_flat (hf : ∀ x, (f x).cells.length = sz) (l : List α) {n k m : Nat} (ag : Bool) (mu : Bool) (s : Nat) (a : Bool) (hn : n < l.length) (hk : k + m ≤ sz) :
    loadG m ag (n * sz + k) (some (.row mu s a (flat (l.map f)))) = mk ag (((f (nth l n)).cells.drop k).take m) := by
  rw [loadG_row, if_pos (flatm_bound hf l hn hk), flatm_get hf l hn hk]
theorem loadG_flat0 (hf : ∀ x, (f x).cells.length = sz) (l : List α) {n m : Nat} (ag : Bool) (mu : Bool) (s : Nat) (a : Bool) (hn : n < l.length) (hk : m ≤ sz) :
    loadG m ag (n * sz) (some (.row mu s a (flat (l.map f)))) = mk ag ((f (nth l n)).cells.take m) := by
  have := loadG_flat hf l ag mu s a hn (k := 0) (m := m) (by omega)
  simpa using this
theorem loadG_flat1 (hf : ∀ x, (f x).cells.length = 1) (l : List α) {n m : Nat} (ag : Bool) (mu : Bool) (s : Nat) (a : Bool) (hn : n < l.length) (hk : m ≤ 1) :
    loadG m ag (n * 1) (some (.row mu s a (flat (l.map f)))) = mk ag ((f (nth l n)).cells.take m) := loadG_flat0 hf l ag mu s a hn hk

theorem setCells_append_right : ∀ (ys a b : List AVal) (k : Nat), setCells (a ++ b) (a.length + k) ys = a ++ setCells b k ys
  | [], a, b, k => by simp [setCells]
  | y :: ys, a, b, k => by
    simp only [setCells]
    rw [List.set_append_right _ _ (by omega), show a.length + k - a.length = k by omega, show a.length + k + 1 = a.length + (k + 1) by omega, setCells_append_right ys]
theorem setCells_append_left : ∀ (ys a b : List AVal) (k : Nat), k + ys.length ≤ a.length → setCells (a ++ b) k ys = setCells a k ys ++ b
  | [], a, b, k, _ => by simp [setCells]
  | y :: ys, a, b, k, h => by
    simp only [setCells, List.length_cons] at h ⊢
    rw [List.set_append_left _ _ (by omega), setCells_append_left ys _ _ _ (by simp; omega)]
theorem setCells_length : ∀ (ys a : List AVal) (k : Nat), (setCells a k ys).length = a.length
  | [], a, k => rfl
  | y :: ys, a, k => by simp only [setCells]; rw [setCells_length ys]; simp

/-- A store into an element. -/
theorem setCells_flat (hf : ∀ x, (f x).cells.length = sz) : ∀ (l : List α) {n k : Nat} {ys : List AVal} {x' : α} (hn : n < l.length) (hk : k + ys.length ≤ sz) (hx : (f x').cells = setCells (f (nth l n)).cells k ys),
    setCells (flat (l.map f)) (n * sz + k) ys = flat ((l.set n x').map f)
  | [], n, k, ys, x', hn, _, _ => by simp at hn
  | x :: l, 0, k, ys, x', hn, hk, hx => by
    have h0 : nth (x :: l) 0 = x := rfl
    rw [h0] at hx
    simp only [List.map_cons, flat_cons, Nat.zero_mul, Nat.zero_add, List.set_cons_zero]
    rw [setCells_append_left _ _ _ _ (by rw [hf]; exact hk), hx]
  | x :: l, n + 1, k, ys, x', hn, hk, hx => by
    have h0 : nth (x :: l) (n + 1) = nth l n := rfl
    rw [h0] at hx
    have ih := setCells_flat hf l (n := n) (k := k) (ys := ys) (x' := x') (by simpa using hn) hk hx
    simp only [List.map_cons, flat_cons, List.set_cons_succ]
    rw [← ih, show (n + 1) * sz + k = (f x).cells.length + (n * sz + k) by rw [hf, Nat.add_mul]; omega, setCells_append_right]

theorem storeG_flat (hf : ∀ x, (f x).cells.length = sz) (l : List α) {n k m id : Nat} {v : AVal} {h : Heap} (s : Nat) (a : Bool) (x' : α) (hn : n < l.length) (hv : v.cells.length = m) (hk : k + m ≤ sz) (ho : v.cells.all AVal.one = true) (hx : (f x').cells = setCells (f (nth l n)).cells k v.cells) :
    storeG m id (n * sz + k) v h (some (.row true s a (flat (l.map f)))) = some (h.put id (some (.row true s a (flat ((l.set n x').map f))))) := by
  rw [storeG_row, if_pos ⟨hv, flatm_bound hf l hn hk, ho⟩, setCells_flat hf l hn (by omega) hx]

/-- The whole element is stored. -/
theorem storeG_flatw (hf : ∀ x, (f x).cells.length = sz) (l : List α) {n id : Nat} {h : Heap} (s : Nat) (a : Bool) (x' : α) (hn : n < l.length) (ho : (f x').cells.all AVal.one = true) :
    storeG sz id (n * sz) (f x') h (some (.row true s a (flat (l.map f)))) = some (h.put id (some (.row true s a (flat ((l.set n x').map f))))) := by
  have hs : ∀ (ys zs : List AVal), zs.length = ys.length → setCells zs 0 ys = ys := by
    intro ys
    have gen : ∀ (ys pre zs : List AVal), zs.length = ys.length → setCells (pre ++ zs) pre.length ys = pre ++ ys := by
      intro ys
      induction ys with
      | nil => intro pre zs h; simp at h; subst h; simp [setCells]
      | cons y ys ih =>
        intro pre zs h
        cases zs with
        | nil => simp at h
        | cons z zs =>
          simp only [setCells]
          rw [List.set_append_right _ _ (Nat.le_refl _), Nat.sub_self, List.set_cons_zero]
          have := ih (pre ++ [y]) zs (by simpa using h)
          simpa using this
    intro zs hz
    simpa using gen ys [] zs hz
  have := storeG_flat hf l (n := n) (k := 0) (m := sz) (id := id) (v := f x') (h := h) s a x' hn (hf x') (by omega) ho (hs _ _ (by rw [hf, hf])).symm
  simpa using this

/-- A row is read again, element by element. -/
theorem chunkm (hf : ∀ x, (f x).cells.length = sz) (ag : Bool) (hm : ∀ x, mk ag (f x).cells = some (f x)) : ∀ (l : List α) (rest : List AVal), chunk sz ag l.length (flat (l.map f) ++ rest) = some (l.map f)
  | [], rest => rfl
  | x :: l, rest => by
    have ht : (flat ((x :: l).map f) ++ rest).take sz = (f x).cells := by
      simp only [List.map_cons, flat_cons, List.append_assoc]
      rw [List.take_left' (hf x)]
    have hd : (flat ((x :: l).map f) ++ rest).drop sz = flat (l.map f) ++ rest := by
      simp only [List.map_cons, flat_cons, List.append_assoc]
      rw [List.drop_left' (hf x)]
    simp only [List.length_cons, chunk, ht, hd, hm, chunkm hf ag hm l rest, hf, if_true]
    rfl

theorem stripm {g : α → AVal} (hs : ∀ x, stripL (f x).cells = some (g x).cells) : ∀ (l : List α), stripL (flat (l.map f)) = some (flat (l.map g))
  | [] => rfl
  | x :: l => by
    simp only [List.map_cons, flat_cons]
    exact stripL_append (hs x) (stripm hs l)

/-- The first elements of a row, as a plain slice. -/
theorem readRef_flat {g : α → AVal} (hf : ∀ x, (f x).cells.length = sz) (hg : ∀ x, (g x).cells.length = sz) (ag : Bool) (hm : ∀ x, mk ag (g x).cells = some (g x)) (hs : ∀ x, stripL (f x).cells = some (g x).cells) {h : Heap} {id n : Nat} {mu : Bool} (l : List α) (hr : h.get id = some (.row mu sz ag (flat (l.map f)))) (hn : n ≤ l.length) :
    readRef h id 0 n sz = some ((l.take n).map g) := by
  have hl := flatm_len hf l
  have hle : 0 + n * sz ≤ (flat (l.map f)).length := by rw [hl, Nat.zero_add]; exact Nat.mul_le_mul_right _ hn
  have hst := stripm hs l
  unfold readRef
  simp only [hr, hle, and_self, if_true, hst]
  have e1 : flat (l.map g) = flat ((l.take n).map g) ++ flat ((l.drop n).map g) := by
    rw [← flat_append, ← List.map_append, List.take_append_drop]
  have := chunkm hg ag hm (l.take n) (flat ((l.drop n).map g))
  rw [List.length_take, Nat.min_eq_left hn, ← e1] at this
  rw [List.drop_zero]
  exact this

/-- A new row of zeros. -/
theorem repl_flat {zs : List AVal} (z : α) (hz : (f z).cells = zs) : ∀ n, repl n zs = flat ((List.replicate n z).map f)
  | 0 => rfl
  | n + 1 => by
    have := repl_flat z hz n
    simp only [repl] at this ⊢
    rw [List.replicate_succ, List.replicate_succ, List.flatten_cons, List.map_cons, flat_cons, this, hz]

theorem nth_set_self {l : List α} {i : Nat} {x : α} (h : i < l.length) : nth (l.set i x) i = x := by rw [nth_eq (by simpa using h)]; simp
theorem nth_set_ne {l : List α} {i j : Nat} {x : α} (h : i ≠ j) : nth (l.set i x) j = nth l j := by simp [nth, List.getD_eq_getElem?_getD, List.getElem?_set_ne h]
theorem nth_append_left {l m : List α} {i : Nat} (h : i < l.length) : nth (l ++ m) i = nth l i := by simp [nth, List.getD_eq_getElem?_getD, List.getElem?_append_left h]
theorem nth_append_right {l m : List α} {i : Nat} (h : l.length ≤ i) : nth (l ++ m) i = nth m (i - l.length) := by simp [nth, List.getD_eq_getElem?_getD, List.getElem?_append_right h]
theorem nth_replicate {n i : Nat} {x : α} (h : i < n) : nth (List.replicate n x) i = x := by rw [nth_eq (by simpa using h)]; simp
theorem nth_take {l : List α} {n i : Nat} (h : i < n) : nth (l.take n) i = nth l i := by simp [nth, List.getD_eq_getElem?_getD, List.getElem?_take, h]

/-! ### appends -/
/-- A list that may grow, on the heap. -/
def Grow (h : Heap) (ty sz : Nat) (tk : Tok) : Prop := tk = .nil ∨ ∃ id, tk = .own id sz ∧ h.get id = some (.tok ty)

theorem append_own {h : Heap} {ty bytes : Nat} {ag : Bool} {l : List α} {tk : Tok} {y : AVal} {ys : List α} (hf : ∀ x, (f x).cells.length = sz) (hm : ∀ x, mk ag (f x).cells = some (f x)) (hs : ∀ x, stripL (f x).cells = some (f x).cells)
    (hy : lenA y = some ys.length) (hn : elemsA h sz y = some (flat (ys.map f))) (hg : Grow h ty sz tk) (hnil : tk = .nil → l = []) (hlen : l.length + ys.length ≤ 1000000) (hb : bytes ≤ 10000) (h0 : 0 < sz) (h1 : sz < 1000000) (hne : ys ≠ []) :
    ∃ h', appendA false ty bytes sz ag (.sl (l.map f) tk) y h = some (.sl ((l ++ ys).map f) (.own h.next sz), h') ∧ h'.next = h.next + 1 ∧ h'.get h.next = some (.tok ty) ∧ (∀ j, j < h.next → (∀ i s, tk = .own i s → j ≠ i) → h'.get j = h.get j) := by
  have hc := chunkm hf ag hm ys []
  rw [List.append_nil] at hc
  have hst := stripm hs ys
  have hroom := roomOk_of (n := l.length + ys.length) hlen hb
  have hroom2 := roomOk_of (n := 0 + ys.length) (bytes := bytes) (by omega) hb
  have hys : ¬ ys.length = 0 := by simpa using hne
  have hsm : small sz = true := by simp [small, h1]
  rcases hg with rfl | ⟨i, rfl, hg⟩
  · have hl := hnil rfl
    subst hl
    refine ⟨h.push (.tok ty), ?_, rfl, get_push _ _, fun j hj _ => get_push_ne (by omega)⟩
    simp only [appendA, hy, hn, hys, if_false, List.map_nil, List.length_nil, hroom2, h0, hsm, decide_true, Bool.and_self, Bool.not_true, Bool.false_eq_true, hst, hc, if_true, List.nil_append]
  · refine ⟨(h.put i none).push (.tok ty), ?_, by rw [push_next, put_next], get_push_eq (by rw [put_next]), fun j hj hne' => ?_⟩
    · simp only [appendA, hy, hn, hys, if_false, List.length_map, hroom, h0, hsm, decide_true, Bool.and_self, Bool.not_true, Bool.false_eq_true, hst, hc, hg, and_self, if_true, List.map_append]
    · rw [get_push_ne (by rw [put_next]; omega), get_put_ne (hne' i _ rfl)]

theorem elems_sl {h : Heap} {l : List α} {t : Tok} (hf : ∀ x, (f x).cells.length = sz) : elemsA h sz (.sl (l.map f) t) = some (flat (l.map f)) := by
  simp only [elemsA]
  rw [if_pos]
  intro y hy
  cases l with
  | nil => simp at hy
  | cons x l => simp at hy; subst hy; exact hf x
theorem lenA_sl {l : List α} {t : Tok} : lenA (.sl (l.map f) t) = some l.length := by simp [lenA]

theorem append_K {K : AVal → Heap → Prop} {h : Heap} {ty bytes : Nat} {ag : Bool} {tk : Tok} {y : AVal} (l ys : List α) (hf : ∀ x, (f x).cells.length = sz) (hm : ∀ x, mk ag (f x).cells = some (f x)) (hs : ∀ x, stripL (f x).cells = some (f x).cells)
    (hy : lenA y = some ys.length) (hn : elemsA h sz y = some (flat (ys.map f))) (hg : Grow h ty sz tk) (hnil : tk = .nil ↔ l = []) (hlen : l.length + ys.length ≤ 1000000) (hb : bytes ≤ 10000) (h0 : 0 < sz) (h1 : sz < 1000000)
    (q : ∀ h' tk', Grow h' ty sz tk' → (tk' = .nil ↔ l ++ ys = []) → h.next ≤ h'.next → (∀ j mu s a cs, h.get j = some (.row mu s a cs) → h'.get j = some (.row mu s a cs)) → (∀ j, j < h.next → (∀ i s, tk = .own i s → j ≠ i) → h'.get j = h.get j) → (∀ i s, tk' = .own i s → tk = .own i s ∨ i = h.next) → K (.sl ((l ++ ys).map f) tk') h') : bindH (appendA false ty bytes sz ag (.sl (l.map f) tk) y h) K := by
  by_cases hne : ys = []
  · subst hne
    refine ⟨_, h, by simp only [appendA, hy, hn, List.length_nil, if_true]; rfl, ?_⟩
    have := q h tk hg (by simpa using hnil) (Nat.le_refl _) (fun _ _ _ _ _ h => h) (fun _ _ _ => rfl) (fun i s e => .inl e)
    rwa [List.append_nil] at this
  · obtain ⟨h', e, e1, e2, e3⟩ := append_own (bytes := bytes) hf hm hs hy hn hg hnil.1 hlen hb h0 h1 hne
    refine ⟨_, h', e, q h' _ (.inr ⟨_, rfl, e2⟩) (by simp [hne]) (by omega) (fun j mu s a cs hj => ?_) e3 (fun i s e => by simp only [Tok.own.injEq] at e; exact .inr e.1.symm)⟩
    rw [e3 j (get_lt hj)]
    · exact hj
    · rintro i s' rfl rfl
      rcases hg with hg | ⟨i', hg, hg2⟩
      · simp at hg
      · simp at hg; rw [← hg.1] at hg2; rw [hg2] at hj; simp at hj

theorem Grow.put {h : Heap} {ty sz id : Nat} {tk : Tok} {mu : Bool} {s : Nat} {a : Bool} {cs : List AVal} (g : Grow h ty sz tk) (hr : h.get id = some (.row mu s a cs)) (o : Option Abs.Obj) : Grow (h.put id o) ty sz tk := by
  rcases g with g | ⟨i, g1, g2⟩
  · exact .inl g
  · exact .inr ⟨i, g1, by rw [get_put_ne]; exact g2; rintro rfl; rw [g2] at hr; simp at hr⟩
theorem Grow.push {h : Heap} {ty sz : Nat} {tk : Tok} (g : Grow h ty sz tk) (o : Abs.Obj) : Grow (h.push o) ty sz tk := by
  rcases g with g | ⟨i, g1, g2⟩
  · exact .inl g
  · exact .inr ⟨i, g1, get_push_old g2⟩

theorem ite_some {β : Type} {c : Prop} [Decidable c] (a : β) (hc : c) : (if c then some a else none) = some a := if_pos hc
theorem ite_mk {c : Prop} [Decidable c] (ag : Bool) (cs : List AVal) (hc : c) : (if c then mk ag cs else none) = mk ag cs := if_pos hc
/-- One cell of an element is stored. -/
theorem set_flat (hf : ∀ x, (f x).cells.length = sz) (l : List α) {n k : Nat} {c : AVal} (x' : α) (hn : n < l.length) (hk : k < sz) (hx : (f x').cells = (f (nth l n)).cells.set k c) : (flat (l.map f)).set (n * sz + k) c = flat ((l.set n x').map f) :=
  setCells_flat hf l (ys := [c]) hn (by simp; omega) hx
theorem ints_pick : ∀ (L : List Int) (j : Nat), j < L.length → ∃ v ∈ L, mk false (List.take 1 (List.drop (j * 1) (L.map (.int .i64)))) = some (.int .i64 v)
  | [], j, h => by simp at h
  | x :: L, 0, _ => ⟨x, by simp, rfl⟩
  | x :: L, j + 1, h => by
    obtain ⟨v, h1, h2⟩ := ints_pick L j (by simpa using h)
    exact ⟨v, by simp [h1], by simpa using h2⟩

/-! ### parts -/
theorem sslice_ab (s : List UInt8) (k k' : IntKind) (a b : Int) (h0 : 0 ≤ a) (h1 : a ≤ b) (h2 : b ≤ s.length) : ssliceA (.str s) (some (.int k a)) (some (.int k' b)) = some (.str ((s.drop a.toNat).take (b.toNat - a.toNat))) :=
  sslice_str s _ _ (boundA_int k' b _ _ (by omega) h2) (boundA_int k a _ _ h0 (by omega))
theorem sslice_a (s : List UInt8) (k : IntKind) (a : Int) (h0 : 0 ≤ a) (h2 : a ≤ s.length) : ssliceA (.str s) (some (.int k a)) none = some (.str (s.drop a.toNat)) := by
  rw [sslice_str s _ _ (boundA_none _ _) (boundA_int k a _ _ h0 h2), List.take_of_length_le (by simp)]
theorem sslice_b (s : List UInt8) (k : IntKind) (b : Int) (h0 : 0 ≤ b) (h2 : b ≤ s.length) : ssliceA (.str s) none (some (.int k b)) = some (.str (s.take b.toNat)) := by
  rw [sslice_str s _ _ (boundA_int k b _ _ h0 h2) (boundA_none _ _)]; rfl
theorem slice_sl_b (f : α → AVal) (l : List α) {sz : Nat} (t : Tok) (k : IntKind) (b : Int) (h0 : 0 ≤ b) (h2 : b ≤ l.length) (hf : ∀ x, (f x).cells.length = sz) (ht : t = .nil → l = []) : sliceA sz (.sl (l.map f) t) none (some (.int k b)) = some (.sl ((l.take b.toNat).map f) t.sub) := by
  have hb : boundA (some (.int k b)) l.length l.length = some b.toNat := boundA_int k b _ _ h0 h2
  simp only [sliceA, List.length_map, hb, boundA_none, List.drop_zero, Nat.sub_zero, ← List.map_take]
  rw [if_pos]
  refine ⟨fun x hx => ?_, fun e => by rw [ht e]; rfl⟩
  cases l with
  | nil => simp at hx
  | cons y l => simp at hx; subst hx; exact hf y
theorem slice_ref_b (id off len sz : Nat) (k : IntKind) (b : Int) (h0 : 0 ≤ b) (h2 : b ≤ len) : sliceA sz (.ref id off len sz) none (some (.int k b)) = some (.ref id off b.toNat sz) := by
  have hb : boundA (some (.int k b)) len len = some b.toNat := boundA_int k b _ _ h0 h2
  simp only [sliceA, hb, boundA_none, if_true, Nat.zero_mul, Nat.add_zero, Nat.sub_zero]
theorem slice_ref_a (id off len sz : Nat) (k : IntKind) (a : Int) (h0 : 0 ≤ a) (h2 : a ≤ len) : sliceA sz (.ref id off len sz) (some (.int k a)) none = some (.ref id (off + a.toNat * sz) (len - a.toNat) sz) := by
  have hb : boundA (some (.int k a)) 0 len = some a.toNat := boundA_int k a _ _ h0 h2
  simp only [sliceA, hb, boundA_none, if_true]

/-! ### literal slices -/
theorem repl_zero (z : List AVal) : repl 0 z = [] := rfl
theorem repl_succ (n : Nat) (z : List AVal) : repl (n + 1) z = z ++ repl n z := by simp [repl, List.replicate_succ]
def chunkO (sz : Nat) (ag : Bool) (n : Nat) : Option (List AVal) → Option (List AVal)
  | some cs => chunk sz ag n cs
  | none => none
def consO (sz : Nat) : Option AVal → Option (List AVal) → Option (List AVal)
  | some x, some xs => if x.cells.length = sz then some (x :: xs) else none
  | _, _ => none
theorem chunkO_some (sz : Nat) (ag : Bool) (n : Nat) (cs : List AVal) : chunkO sz ag n (some cs) = chunk sz ag n cs := _root_.id rfl
theorem consO_some (sz : Nat) (x : AVal) (xs : List AVal) : consO sz (some x) (some xs) = if x.cells.length = sz then some (x :: xs) else none := _root_.id rfl
theorem chunk_z (sz : Nat) (ag : Bool) (cs : List AVal) : chunk sz ag 0 cs = some [] := _root_.id rfl
theorem chunk_s (sz : Nat) (ag : Bool) (n : Nat) (cs : List AVal) : chunk sz ag (n + 1) cs = consO sz (mk ag (cs.take sz)) (chunk sz ag n (cs.drop sz)) := by
  rw [chunk]; unfold consO
  cases mk ag (cs.take sz) <;> cases chunk sz ag n (cs.drop sz) <;> rfl
theorem lit0 {ty n sz : Nat} {ag : Bool} {z cs : List AVal} {h : Heap} (hk : (decide (z.length = sz) && z.all AVal.one && decide (n * sz ≤ 16777216) && small sz) = true) :
    litA 0 ty n sz ag z (some cs) h = (chunkO sz ag n (stripL cs)).map (fun xs => (.sl xs .none, h)) := by
  simp only [litA, hk]
  cases stripL cs with
  | none => rfl
  | some cs => simp only [chunkO]; cases chunk sz ag n cs <;> rfl
theorem lit2 {ty n sz : Nat} {ag : Bool} {z cs : List AVal} {h : Heap} (hk : (decide (z.length = sz) && z.all AVal.one && decide (n * sz ≤ 16777216) && small sz) = true) :
    litA 2 ty n sz ag z (some cs) h = some (.ref h.next 0 n sz, h.push (.row true sz ag cs)) := by
  simp only [litA, hk]; rfl

end Go.Abs
