/-
  How the abstract machine's values and heap stand for the model's: relations that every step keeps.
-/
import Derived.Test.YtcammfdljiingaaAbsComp
import Derived.Laws.World
namespace Go.Abs

structure Ghost where
  n : Nat
  loc : Nat → Nat
  tip : Nat → Nat
  lim : Nat → Option Nat

/-- A cell that nobody will write any more. -/
def stab (G : Ghost) (b k : Nat) : Prop := ∀ m, G.lim b = some m → k < m

inductive VRel (w : World) (G : Ghost) : Value → AVal → Prop
  | bool (b : Bool) : VRel w G (.bool b) (.bool b)
  | int (k : IntKind) (n : Int) : VRel w G (.int k n) (.int k n)
  | str (s : ByteArray) : VRel w G (.string s) (.str s.data.toList)
  | nilptr : VRel w G (.pointer none) .nilptr
  | ptr (id off : Nat) (h : id < G.n) : VRel w G (.pointer (some ⟨G.loc id, off, none⟩)) (.ptr id off)
  | rp (b off : Nat) (cs : List AVal) (u : Nat → Value) (h1 : ∀ k c, cs[k]? = some c → w.cell? ⟨b, off + k, none⟩ = some (u k))
      (h2 : ∀ k c, cs[k]? = some c → VRel w G (u k) c) (h3 : ∀ k, k < cs.length → stab G b (off + k)) (h4 : ∀ c ∈ cs, c.one = true) :
      VRel w G (.pointer (some ⟨b, off, none⟩)) (.rp cs)
  | nilsl (t : Tok) (ht : t = .nil ∨ t = .none) : VRel w G (.slice none 0 0) (.sl [] t)
  | sl (b off cap sz : Nat) (xs : List AVal) (t : Tok) (u : Nat → Value) (h0 : ∀ x ∈ xs, x.cells.length = sz)
      (h1 : ∀ k c, (flat xs)[k]? = some c → w.cell? ⟨b, off + k, none⟩ = some (u k))
      (h2 : ∀ k c, (flat xs)[k]? = some c → VRel w G (u k) c) (h3 : ∀ k, k < (flat xs).length → stab G b (off + k)) (h4 : ∀ c ∈ flat xs, c.one = true)
      (h5 : ∀ c ∈ flat xs, strip c = some c) (hc : xs.length ≤ cap) (hn : t ≠ .nil)
      (ho : ∀ id s, t = .own id s → s = sz ∧ off = 0 ∧ id < G.n ∧ G.loc id = b ∧ G.tip id = off + xs.length * sz ∧ ∃ e n, w.shape? b = some (e, n) ∧ off + cap * sz ≤ n) :
      VRel w G (.slice (some ⟨b, off, none⟩) xs.length cap) (.sl xs t)
  | ref (id off len sz cap : Nat) (h : id < G.n) (hc : len ≤ cap) (hs : ∃ e n, w.shape? (G.loc id) = some (e, n) ∧ off + cap * sz ≤ n) :
      VRel w G (.slice (some ⟨G.loc id, off, none⟩) len cap) (.ref id off len sz)
  | ref0 (id off sz b bo : Nat) (h : id < G.n) : VRel w G (.slice (some ⟨b, bo, none⟩) 0 0) (.ref id off 0 sz)
  | fn (f : Nat) (cs : Array Value) (as : List AVal) (hl : cs.size = as.length) (h : ∀ (k : Nat) (c : Value) (a : AVal), cs[k]? = some c → as[k]? = some a → VRel w G c a) :
      VRel w G (.func (.func f) #[] cs) (.fn f as)
  | nilfn : VRel w G .nilFunc .nilfn
  | nilif : VRel w G .nilIface .nilif
  | agg (cs : Array Value) (as : List AVal) (hl : cs.size = as.length) (h : ∀ (k : Nat) (c : Value) (a : AVal), cs[k]? = some c → as[k]? = some a → VRel w G c a) (h4 : ∀ c ∈ as, c.one = true) :
      VRel w G (.agg cs) (.agg as)
  | tup (cs : Array Value) (as : List AVal) (hl : cs.size = as.length) (h : ∀ (k : Nat) (c : Value) (a : AVal), cs[k]? = some c → as[k]? = some a → VRel w G c a) :
      VRel w G (.tuple cs) (.tup as)
  | bad (v : Value) : VRel w G v .bad

/-- The frozen range of a block. -/
def fzr (w : World) (b : Nat) : Nat × Nat := match w.heap[b]? with
  | some (.cells _ _ f) => f
  | _ => (0, 0)

theorem fzr_frozen {w : World} {b k : Nat} (h : (fzr w b).2 ≤ k) : w.frozen? ⟨b, k, none⟩ = false := by
  simp only [fzr] at h
  simp only [World.frozen?]
  split
  · rename_i c e lo hi he
    rw [he] at h
    simp only [Bool.and_eq_false_iff, decide_eq_false_iff_not]
    exact .inr (by simpa using h)
  · rfl

/-- The object of the abstract heap lies in its block. -/
def OkObj (w : World) (G : Ghost) (id : Nat) : Obj → Prop
  | .row mu sz _ cs => G.lim (G.loc id) = (if mu then some 0 else none) ∧ (∀ k c, cs[k]? = some c → ∃ u, w.cell? ⟨G.loc id, k, none⟩ = some u ∧ VRel w G u c) ∧
      (∀ c ∈ cs, c.one = true) ∧ ((∃ e n, w.shape? (G.loc id) = some (e, n) ∧ cs.length ≤ n ∧ ∀ T, sz = typed T → e = T ∧ n = cs.length)) ∧ (mu = true → ∀ k e n, w.shape? (G.loc id) = some (e, n) → k < n → w.frozen? ⟨G.loc id, k, none⟩ = false)
  | .tok ty => G.lim (G.loc id) = some (G.tip id) ∧ (∃ n, w.shape? (G.loc id) = some (ty, n) ∧ G.tip id ≤ n) ∧
      (fzr w (G.loc id)).2 ≤ G.tip id

structure HRel (w : World) (G : Ghost) (h : Heap) : Prop where
  n_eq : G.n = h.next
  lt : ∀ id o, h.get id = some o → G.loc id < w.heap.size
  obj : ∀ id o, h.get id = some o → OkObj w G id o
  inj : ∀ i j oi oj, h.get i = some oi → h.get j = some oj → G.loc i = G.loc j → i = j

def owned (G : Ghost) (h : Heap) (b : Nat) : Prop := ∃ id o, h.get id = some o ∧ G.loc id = b

structure Ext (w : World) (G : Ghost) (h : Heap) (w' : World) (G' : Ghost) (h' : Heap) : Prop where
  os : w'.os = w.os
  tape : w'.tape = w.tape
  out : w'.output = w.output
  size : w.heap.size ≤ w'.heap.size
  keep : ∀ b, b < w.heap.size → ¬ owned G h b → w'.heap[b]? = w.heap[b]? ∧ G'.lim b = G.lim b
  stable : ∀ b k, b < w.heap.size → stab G b k → w'.cell? ⟨b, k, none⟩ = w.cell? ⟨b, k, none⟩ ∧ stab G' b k
  shape : ∀ b, b < w.heap.size → w'.shape? b = w.shape? b
  n_le : G.n ≤ G'.n
  ids : ∀ id, id < G.n → G'.loc id = G.loc id ∧ G'.tip id = G.tip id
  fresh : ∀ b, b < w.heap.size → owned G' h' b → owned G h b

theorem Ext.refl (w : World) (G : Ghost) (h : Heap) : Ext w G h w G h :=
  ⟨rfl, rfl, rfl, Nat.le_refl _, fun _ _ _ => ⟨rfl, rfl⟩, fun _ _ _ hs => ⟨rfl, hs⟩, fun _ _ => rfl, Nat.le_refl _, fun _ _ => ⟨rfl, rfl⟩, fun _ _ h => h⟩

theorem Ext.trans {w G h w1 G1 h1 w2 G2 h2} (a : Ext w G h w1 G1 h1) (b : Ext w1 G1 h1 w2 G2 h2) : Ext w G h w2 G2 h2 where
  os := b.os.trans a.os
  tape := b.tape.trans a.tape
  out := b.out.trans a.out
  size := Nat.le_trans a.size b.size
  keep := fun k hk hn => by
    have h1 := a.keep k hk hn
    have h2 := b.keep k (Nat.lt_of_lt_of_le hk a.size) (fun h => hn (a.fresh k hk h))
    exact ⟨h2.1.trans h1.1, h2.2.trans h1.2⟩
  stable := fun c k hc hs => by
    have h1 := a.stable c k hc hs
    have h2 := b.stable c k (Nat.lt_of_lt_of_le hc a.size) h1.2
    exact ⟨h2.1.trans h1.1, h2.2⟩
  shape := fun c hc => (b.shape c (Nat.lt_of_lt_of_le hc a.size)).trans (a.shape c hc)
  n_le := Nat.le_trans a.n_le b.n_le
  ids := fun id hid => by
    have h1 := a.ids id hid
    have h2 := b.ids id (Nat.lt_of_lt_of_le hid a.n_le)
    exact ⟨h2.1.trans h1.1, h2.2.trans h1.2⟩
  fresh := fun c hc ho => a.fresh c hc (b.fresh c (Nat.lt_of_lt_of_le hc a.size) ho)

theorem cell_lt {w : World} {b k : Nat} {v : Value} (h : w.cell? ⟨b, k, none⟩ = some v) : b < w.heap.size := by
  rcases Nat.lt_or_ge b w.heap.size with h' | h'
  · exact h'
  · simp [World.cell?, Array.getElem?_eq_none h'] at h

theorem shape_lt {w : World} {b : Nat} {v : TypeId × Nat} (h : w.shape? b = some v) : b < w.heap.size := by
  rcases Nat.lt_or_ge b w.heap.size with h' | h'
  · exact h'
  · simp [World.shape?, Array.getElem?_eq_none h'] at h

theorem VRel.mono {w G h w' G' h'} (x : Ext w G h w' G' h') {v : Value} {a : AVal} (r : VRel w G v a) : VRel w' G' v a := by
  induction r with
  | bool b => exact .bool b
  | int k n => exact .int k n
  | str s => exact .str s
  | nilptr => exact .nilptr
  | ptr id off hid => rw [← (x.ids id hid).1]; exact .ptr id off (Nat.lt_of_lt_of_le hid x.n_le)
  | rp b off cs u h1 h2 h3 h4 ih =>
    refine .rp b off cs u (fun k c hk => ?_) (fun k c hk => ih k c hk) (fun k hk => ?_) h4
    · have hc := h1 k c hk
      rw [(x.stable b (off + k) (cell_lt hc) (h3 k (List.getElem?_eq_some_iff.1 hk).1)).1]; exact hc
    · obtain ⟨c, hc⟩ : ∃ c, cs[k]? = some c := ⟨_, List.getElem?_eq_getElem hk⟩
      exact (x.stable b (off + k) (cell_lt (h1 k c hc)) (h3 k hk)).2
  | nilsl t ht => exact .nilsl t ht
  | sl b off cap sz xs t u h0 h1 h2 h3 h4 h5 hc hn ho ih =>
    refine .sl b off cap sz xs t u h0 (fun k c hk => ?_) (fun k c hk => ih k c hk) (fun k hk => ?_) h4 h5 hc hn (fun id s hs => ?_)
    · have hc := h1 k c hk
      rw [(x.stable b (off + k) (cell_lt hc) (h3 k (List.getElem?_eq_some_iff.1 hk).1)).1]; exact hc
    · obtain ⟨c, hc⟩ : ∃ c, (flat xs)[k]? = some c := ⟨_, List.getElem?_eq_getElem hk⟩
      exact (x.stable b (off + k) (cell_lt (h1 k c hc)) (h3 k hk)).2
    · obtain ⟨e1, e0, e2, e3, e4, e, n, e5, e6⟩ := ho id s hs
      have hi := x.ids id e2
      exact ⟨e1, e0, Nat.lt_of_lt_of_le e2 x.n_le, hi.1.trans e3, hi.2.trans e4, e, n, (x.shape b (shape_lt e5)).trans e5, e6⟩
  | ref id off len sz cap hid hc hs =>
    obtain ⟨e, n, h1, h2⟩ := hs
    rw [← (x.ids id hid).1] at h1 ⊢
    refine .ref id off len sz cap (Nat.lt_of_lt_of_le hid x.n_le) hc ⟨e, n, ?_, h2⟩
    rw [x.shape _ (shape_lt h1)]; exact h1
  | ref0 id off sz b bo hid => exact .ref0 id off sz b bo (Nat.lt_of_lt_of_le hid x.n_le)
  | fn f cs as hl _ ih => exact .fn f cs as hl ih
  | nilfn => exact .nilfn
  | nilif => exact .nilif
  | agg cs as hl _ h4 ih => exact .agg cs as hl ih h4
  | tup cs as hl _ ih => exact .tup cs as hl ih
  | bad v => exact .bad v

/-! ### the abstract heap -/

theorem Heap.get_lt {h : Heap} {id : Nat} {o : Obj} (e : h.get id = some o) : id < h.next := by
  unfold Heap.get at e; split at e
  · assumption
  · simp at e

theorem Heap.get_push (h : Heap) (o : Obj) : (h.push o).get h.next = some o := by
  simp [Heap.get, Heap.push]

theorem Heap.get_push_old {h : Heap} (o : Obj) {id : Nat} (hid : id < h.next) : (h.push o).get id = h.get id := by
  have e : h.next + 1 - 1 - id = (h.next - 1 - id) + 1 := by omega
  simp only [Heap.get, Heap.push, e, List.getElem?_cons_succ]
  rw [if_pos (by omega), if_pos hid]

theorem Heap.get_push_some {h : Heap} {o o' : Obj} {id : Nat} (e : (h.push o).get id = some o') : (id = h.next ∧ o' = o) ∨ (id < h.next ∧ h.get id = some o') := by
  have hl := Heap.get_lt e
  simp only [Heap.push] at hl
  by_cases hid : id < h.next
  · exact .inr ⟨hid, by rwa [Heap.get_push_old _ hid] at e⟩
  · obtain rfl : id = h.next := by omega
    rw [Heap.get_push] at e
    exact .inl ⟨rfl, (Option.some.inj e).symm⟩

@[simp] theorem Heap.next_push (h : Heap) (o : Obj) : (h.push o).next = h.next + 1 := rfl
@[simp] theorem Heap.next_put (h : Heap) (id : Nat) (o : Option Obj) : (h.put id o).next = h.next := by unfold Heap.put; split <;> rfl

theorem Heap.get_put {h : Heap} {id : Nat} {o1 : Obj} (o : Option Obj) (e : h.get id = some o1) : (h.put id o).get id = o := by
  have hl := Heap.get_lt e
  unfold Heap.get at e
  rw [if_pos hl] at e
  have : h.next - 1 - id < h.l.length := by
    rcases Nat.lt_or_ge (h.next - 1 - id) h.l.length with h' | h'
    · exact h'
    · simp [List.getElem?_eq_none h'] at e
  simp [Heap.get, Heap.put, hl, this]

theorem Heap.get_put_other {h : Heap} {id j : Nat} (o : Option Obj) (hne : j ≠ id) : (h.put id o).get j = h.get j := by
  unfold Heap.put
  split
  · rename_i hl
    simp only [Heap.get]
    split
    · rename_i hj
      rw [List.getElem?_set_ne (by omega)]
    · rfl
  · rfl

theorem Heap.get_empty (id : Nat) : Heap.empty.get id = none := by simp [Heap.get, Heap.empty]

theorem owned_lt {w : World} {G : Ghost} {h : Heap} (H : HRel w G h) {b : Nat} (ho : owned G h b) : b < w.heap.size := by
  obtain ⟨id, o, e, rfl⟩ := ho
  exact H.lt id o e

theorem OkObj.mono {w G h w' G' h'} (x : Ext w G h w' G' h') {id : Nat} {o : Obj} (hid : id < G.n) (hlt : G.loc id < w.heap.size)
    (hkeep : w'.heap[G.loc id]? = w.heap[G.loc id]?) (hlim : G'.lim (G.loc id) = G.lim (G.loc id)) (r : OkObj w G id o) : OkObj w' G' id o := by
  have hi := x.ids id hid
  have hcell : ∀ k, w'.cell? ⟨G.loc id, k, none⟩ = w.cell? ⟨G.loc id, k, none⟩ := fun k => by simp [World.cell?, hkeep]
  have hfr : ∀ k, w'.frozen? ⟨G.loc id, k, none⟩ = w.frozen? ⟨G.loc id, k, none⟩ := fun k => by simp [World.frozen?, hkeep]
  have hsh : w'.shape? (G.loc id) = w.shape? (G.loc id) := x.shape _ hlt
  cases o with
  | row mu sz ag cs =>
    obtain ⟨h1, h2, h3, h4, h5⟩ := r
    unfold OkObj
    simp only [hi.1, hlim, hcell, hfr, hsh]
    exact ⟨h1, fun k c hk => (h2 k c hk).imp fun u hu => ⟨hu.1, hu.2.mono x⟩, h3, h4, h5⟩
  | tok =>
    obtain ⟨h1, h2, h3⟩ := r
    unfold OkObj
    simp only [hi.1, hi.2, hlim, hsh]
    exact ⟨h1, h2, by simpa [fzr, hkeep] using h3⟩

/-! ### the four ways in which the state grows -/

/-- A draw. -/
theorem Ext.drew {w G h w' G' h'} (x : Ext w.drew G h w' G' h') : Ext w G h w' G' h' := ⟨x.os, x.tape, x.out, x.size, x.keep, x.stable, x.shape, x.n_le, x.ids, x.fresh⟩

theorem VRel.of_heap {w w' : World} {G : Ghost} (e : w'.heap = w.heap ∧ w'.os = w.os ∧ w'.tape = w.tape ∧ w'.output = w.output) {v : Value} {a : AVal} (r : VRel w G v a) : VRel w' G v a := by
  have x : Ext w G Heap.empty w' G Heap.empty := ⟨e.2.1, e.2.2.1, e.2.2.2, by rw [e.1]; exact Nat.le_refl _, fun _ _ _ => ⟨by rw [e.1], rfl⟩, fun _ _ _ hs => ⟨by simp [World.cell?, e.1], hs⟩, fun _ _ => by simp [World.shape?, e.1], Nat.le_refl _, fun _ _ => ⟨rfl, rfl⟩, fun _ _ h => h⟩
  exact r.mono x

theorem Ext.of_heap {w w' : World} {G : Ghost} {h : Heap} (e : w'.heap = w.heap ∧ w'.os = w.os ∧ w'.tape = w.tape ∧ w'.output = w.output) : Ext w G h w' G h :=
  ⟨e.2.1, e.2.2.1, e.2.2.2, by rw [e.1]; exact Nat.le_refl _, fun _ _ _ => ⟨by rw [e.1], rfl⟩, fun _ _ _ hs => ⟨by simp [World.cell?, e.1], hs⟩, fun _ _ => by simp [World.shape?, e.1], Nat.le_refl _, fun _ _ => ⟨rfl, rfl⟩, fun _ _ h => h⟩

theorem OkObj.of_heap {w w' : World} {G : Ghost} (e : w'.heap = w.heap ∧ w'.os = w.os ∧ w'.tape = w.tape ∧ w'.output = w.output) {id : Nat} {o : Obj} (r : OkObj w G id o) : OkObj w' G id o := by
  have hcell : ∀ a, w'.cell? a = w.cell? a := fun k => by simp [World.cell?, e.1]
  have hfr : ∀ a, w'.frozen? a = w.frozen? a := fun k => by simp [World.frozen?, e.1]
  have hsh : ∀ b, w'.shape? b = w.shape? b := fun b => by simp [World.shape?, e.1]
  cases o with
  | row mu sz ag cs =>
    obtain ⟨h1, h2, h3, h4, h5⟩ := r
    unfold OkObj
    simp only [hcell, hfr, hsh]
    exact ⟨h1, fun k c hk => (h2 k c hk).imp fun u hu => ⟨hu.1, hu.2.of_heap e⟩, h3, h4, h5⟩
  | tok => unfold OkObj; simp only [hsh, fzr, e.1]; exact r

theorem HRel.of_heap {w w' : World} {G : Ghost} {h : Heap} (e : w'.heap = w.heap ∧ w'.os = w.os ∧ w'.tape = w.tape ∧ w'.output = w.output) (H : HRel w G h) : HRel w' G h :=
  ⟨H.n_eq, fun id o ho => by rw [e.1]; exact H.lt id o ho, fun id o ho => (H.obj id o ho).of_heap e, H.inj⟩

/-- A new block for a new object. -/
def Ghost.new (G : Ghost) (b tip : Nat) (lim : Option Nat) : Ghost :=
  { n := G.n + 1, loc := fun i => if i = G.n then b else G.loc i, tip := fun i => if i = G.n then tip else G.tip i, lim := fun c => if c = b then lim else G.lim c }

theorem heap_push_old (w : World) (o : Go.Obj) {b : Nat} (h : b < w.heap.size) : (w.alloc o).heap[b]? = w.heap[b]? := by
  show (w.heap.push o)[b]? = _
  rw [Array.getElem?_push]; simp [Nat.ne_of_lt h]

theorem Ext.alloc_obj {w : World} {G : Ghost} {h : Heap} (H : HRel w G h) (c : Array Value) (e : TypeId) (tip : Nat) (lim : Option Nat) (o : Obj) :
    Ext w G h (w.alloc (.cells c e)) (G.new w.heap.size tip lim) (h.push o) where
  os := rfl
  tape := rfl
  out := rfl
  size := by simp
  keep := fun b hb _ => ⟨heap_push_old _ _ hb, by simp [Ghost.new, Nat.ne_of_lt hb]⟩
  stable := fun b k hb hs => ⟨World.cell?_alloc_lt _ _ _ hb, by unfold stab Ghost.new; simp [Nat.ne_of_lt hb]; exact hs⟩
  shape := fun b hb => by simp [World.shape?, heap_push_old _ _ hb]
  n_le := by simp [Ghost.new]
  ids := fun id hid => by simp [Ghost.new, Nat.ne_of_lt hid]
  fresh := fun b hb ho => by
    obtain ⟨id, o', ho', rfl⟩ := ho
    rcases Heap.get_push_some ho' with ⟨rfl, _⟩ | ⟨hid, ho''⟩
    · simp [Ghost.new, H.n_eq] at hb
    · refine ⟨id, o', ho'', ?_⟩
      simp [Ghost.new, H.n_eq, Nat.ne_of_lt hid]

theorem HRel.alloc_obj {w : World} {G : Ghost} {h : Heap} (H : HRel w G h) (c : Array Value) (e : TypeId) (tip : Nat) (lim : Option Nat) (o : Obj)
    (ho : OkObj (w.alloc (.cells c e)) (G.new w.heap.size tip lim) G.n o) : HRel (w.alloc (.cells c e)) (G.new w.heap.size tip lim) (h.push o) where
  n_eq := by simp [Ghost.new, H.n_eq]
  lt := fun id o' h' => by
    rcases Heap.get_push_some h' with ⟨rfl, _⟩ | ⟨hid, h''⟩
    · simp [Ghost.new, H.n_eq]
    · have := H.lt id o' h''
      simp [Ghost.new, H.n_eq, Nat.ne_of_lt hid]; omega
  obj := fun id o' h' => by
    rcases Heap.get_push_some h' with ⟨rfl, rfl⟩ | ⟨hid, h''⟩
    · rw [← H.n_eq]; exact ho
    · have hlt := H.lt id o' h''
      exact OkObj.mono (Ext.alloc_obj H c e tip lim o) (by rw [H.n_eq]; exact hid) hlt (heap_push_old _ _ hlt) (by simp [Ghost.new, Nat.ne_of_lt hlt]) (H.obj id o' h'')
  inj := fun i j oi oj hi hj he => by
    rcases Heap.get_push_some hi with ⟨rfl, _⟩ | ⟨hi', hi''⟩ <;> rcases Heap.get_push_some hj with ⟨rfl, _⟩ | ⟨hj', hj''⟩
    · rfl
    · have := H.lt j oj hj''
      simp [Ghost.new, H.n_eq, Nat.ne_of_lt hj'] at he; omega
    · have := H.lt i oi hi''
      simp [Ghost.new, H.n_eq, Nat.ne_of_lt hi'] at he; omega
    · simp only [Ghost.new, H.n_eq, Nat.ne_of_lt hi', Nat.ne_of_lt hj', if_false] at he
      exact H.inj i j oi oj hi'' hj'' he

/-- A block that is nobody's object, immutable from the start: a literal. -/
theorem Ext.alloc_free {w : World} {G : Ghost} {h : Heap} (c : Array Value) (e : TypeId) (fz : Nat × Nat := (0, 0)) :
    Ext w G h (w.alloc (.cells c e fz)) { G with lim := fun b => if b = w.heap.size then none else G.lim b } h where
  os := rfl
  tape := rfl
  out := rfl
  size := by simp
  keep := fun b hb _ => ⟨heap_push_old _ _ hb, by simp [Nat.ne_of_lt hb]⟩
  stable := fun b k hb hs => ⟨World.cell?_alloc_lt _ _ _ hb, by unfold stab; simp [Nat.ne_of_lt hb]; exact hs⟩
  shape := fun b hb => by simp [World.shape?, heap_push_old _ _ hb]
  n_le := Nat.le_refl _
  ids := fun id hid => ⟨rfl, rfl⟩
  fresh := fun b hb ho => ho

theorem HRel.alloc_free {w : World} {G : Ghost} {h : Heap} (H : HRel w G h) (c : Array Value) (e : TypeId) (fz : Nat × Nat := (0, 0)) :
    HRel (w.alloc (.cells c e fz)) { G with lim := fun b => if b = w.heap.size then none else G.lim b } h where
  n_eq := H.n_eq
  lt := fun id o h' => by have := H.lt id o h'; simp; omega
  obj := fun id o h' => by
    have hlt := H.lt id o h'
    exact OkObj.mono (Ext.alloc_free (h := h) c e fz) (by rw [H.n_eq]; exact Heap.get_lt h') hlt (heap_push_old _ _ hlt) (by simp [Nat.ne_of_lt hlt]) (H.obj id o h')
  inj := H.inj

/-- A world that differs in one block alone, and there neither in shape nor in a cell that is stable. -/
structure Turned (w : World) (G : Ghost) (b : Nat) (w' : World) (lim : Option Nat) : Prop where
  os : w'.os = w.os
  tape : w'.tape = w.tape
  out : w'.output = w.output
  size : w'.heap.size = w.heap.size
  other : ∀ c, c ≠ b → w'.heap[c]? = w.heap[c]?
  shape : w'.shape? b = w.shape? b
  cells : ∀ k, stab G b k → w'.cell? ⟨b, k, none⟩ = w.cell? ⟨b, k, none⟩
  up : ∀ k, stab G b k → ∀ m, lim = some m → k < m

theorem Turned.same {w : World} {G : Ghost} {b : Nat} {lim : Option Nat} (up : ∀ k, stab G b k → ∀ m, lim = some m → k < m) : Turned w G b w lim :=
  ⟨rfl, rfl, rfl, rfl, fun _ _ => rfl, rfl, fun _ _ => rfl, up⟩

def Ghost.at (G : Ghost) (b : Nat) (lim : Option Nat) : Ghost := { G with lim := fun c => if c = b then lim else G.lim c }

theorem Ext.update {w w' : World} {G : Ghost} {h : Heap} {id : Nat} {o0 : Obj} {lim : Option Nat} (hid : h.get id = some o0)
    (t : Turned w G (G.loc id) w' lim) (o1 : Option Obj) : Ext w G h w' (G.at (G.loc id) lim) (h.put id o1) where
  os := t.os
  tape := t.tape
  out := t.out
  size := Nat.le_of_eq t.size.symm
  keep := fun b _ hn => by
    have hne : b ≠ G.loc id := fun e => hn ⟨id, o0, hid, e.symm⟩
    exact ⟨t.other b hne, by simp [Ghost.at, hne]⟩
  stable := fun b k _ hs => by
    by_cases e : b = G.loc id
    · subst e; exact ⟨t.cells k hs, by unfold stab Ghost.at; simp; exact t.up k hs⟩
    · exact ⟨by simp [World.cell?, t.other b e], by unfold stab Ghost.at; simp [e]; exact hs⟩
  shape := fun b _ => by
    by_cases e : b = G.loc id
    · subst e; exact t.shape
    · simp [World.shape?, t.other b e]
  n_le := Nat.le_refl _
  ids := fun _ _ => ⟨rfl, rfl⟩
  fresh := fun b _ ho => by
    obtain ⟨j, o, hj, rfl⟩ := ho
    by_cases e : j = id
    · subst e; exact ⟨j, o0, hid, rfl⟩
    · rw [Heap.get_put_other _ e] at hj; exact ⟨j, o, hj, rfl⟩

theorem HRel.update {w w' : World} {G : Ghost} {h : Heap} (H : HRel w G h) {id : Nat} {o0 : Obj} {lim : Option Nat} (hid : h.get id = some o0)
    (t : Turned w G (G.loc id) w' lim) (o1 : Option Obj) (ho : ∀ o, o1 = some o → OkObj w' (G.at (G.loc id) lim) id o) :
    HRel w' (G.at (G.loc id) lim) (h.put id o1) where
  n_eq := by simp [Ghost.at, H.n_eq]
  lt := fun j o hj => by
    rw [t.size]
    by_cases e : j = id
    · subst e; exact H.lt j o0 hid
    · rw [Heap.get_put_other _ e] at hj; exact H.lt j o hj
  obj := fun j o hj => by
    by_cases e : j = id
    · subst e; rw [Heap.get_put _ hid] at hj; exact ho o hj
    · have hj' := hj
      rw [Heap.get_put_other _ e] at hj'
      have hne : G.loc j ≠ G.loc id := fun e' => e (H.inj j id o o0 hj' hid e')
      exact OkObj.mono (Ext.update hid t o1) (by rw [H.n_eq]; exact Heap.get_lt hj') (H.lt j o hj') (t.other _ hne) (by simp [Ghost.at, hne]) (H.obj j o hj')
  inj := fun i j oi oj hi hj he => by
    by_cases ei : i = id
    · by_cases ej : j = id
      · rw [ei, ej]
      · subst ei; rw [Heap.get_put_other _ ej] at hj; exact H.inj i j o0 oj hid hj he
    · rw [Heap.get_put_other _ ei] at hi
      by_cases ej : j = id
      · subst ej; exact H.inj i j oi o0 hi hid he
      · rw [Heap.get_put_other _ ej] at hj; exact H.inj i j oi oj hi hj he

theorem Ext.replace {w w' : World} {G : Ghost} {h : Heap} (H : HRel w G h) {id : Nat} {o0 : Obj} {lim : Option Nat} (hid : h.get id = some o0)
    (t : Turned w G (G.loc id) w' lim) (tip : Nat) (o : Obj) : Ext w G h w' (G.new (G.loc id) tip lim) ((h.put id none).push o) where
  os := t.os
  tape := t.tape
  out := t.out
  size := Nat.le_of_eq t.size.symm
  keep := fun b _ hn => by
    have hne : b ≠ G.loc id := fun e => hn ⟨id, o0, hid, e.symm⟩
    exact ⟨t.other b hne, by simp [Ghost.new, hne]⟩
  stable := fun b k _ hs => by
    by_cases e : b = G.loc id
    · subst e; exact ⟨t.cells k hs, by unfold stab Ghost.new; simp; exact t.up k hs⟩
    · exact ⟨by simp [World.cell?, t.other b e], by unfold stab Ghost.new; simp [e]; exact hs⟩
  shape := fun b _ => by
    by_cases e : b = G.loc id
    · subst e; exact t.shape
    · simp [World.shape?, t.other b e]
  n_le := by simp [Ghost.new]
  ids := fun j hj => by simp [Ghost.new, Nat.ne_of_lt hj]
  fresh := fun b _ ho => by
    obtain ⟨j, o', hj, rfl⟩ := ho
    rcases Heap.get_push_some hj with ⟨rfl, _⟩ | ⟨hj1, hj2⟩
    · exact ⟨id, o0, hid, by simp [Ghost.new, H.n_eq]⟩
    · rw [Heap.next_put] at hj1
      by_cases e : j = id
      · subst e; rw [Heap.get_put _ hid] at hj2; simp at hj2
      · rw [Heap.get_put_other _ e] at hj2; exact ⟨j, o', hj2, by simp [Ghost.new, H.n_eq, Nat.ne_of_lt hj1]⟩

theorem HRel.replace {w w' : World} {G : Ghost} {h : Heap} (H : HRel w G h) {id : Nat} {o0 : Obj} {lim : Option Nat} (hid : h.get id = some o0)
    (t : Turned w G (G.loc id) w' lim) (tip : Nat) (o : Obj) (ho : OkObj w' (G.new (G.loc id) tip lim) G.n o) :
    HRel w' (G.new (G.loc id) tip lim) ((h.put id none).push o) := by
  have key : ∀ j oj, ((h.put id none).push o).get j = some oj → (j = h.next ∧ oj = o) ∨ (j ≠ id ∧ j < h.next ∧ h.get j = some oj) := by
    intro j oj hj
    rcases Heap.get_push_some hj with ⟨h1, h2⟩ | ⟨hj1, hj2⟩
    · rw [Heap.next_put] at h1; exact .inl ⟨h1, h2⟩
    · rw [Heap.next_put] at hj1
      by_cases e : j = id
      · subst e; rw [Heap.get_put _ hid] at hj2; simp at hj2
      · rw [Heap.get_put_other _ e] at hj2; exact .inr ⟨e, hj1, hj2⟩
  refine ⟨by simp [Ghost.new, H.n_eq], fun j oj hj => ?_, fun j oj hj => ?_, fun i j oi oj hi hj he => ?_⟩
  · rw [t.size]
    rcases key j oj hj with ⟨rfl, _⟩ | ⟨_, hj1, hj2⟩
    · simp [Ghost.new, H.n_eq]; exact H.lt id o0 hid
    · simp [Ghost.new, H.n_eq, Nat.ne_of_lt hj1]; exact H.lt j oj hj2
  · rcases key j oj hj with ⟨rfl, rfl⟩ | ⟨hne, hj1, hj2⟩
    · rw [← H.n_eq]; exact ho
    · have hl : G.loc j ≠ G.loc id := fun e' => hne (H.inj j id oj o0 hj2 hid e')
      exact OkObj.mono (Ext.replace H hid t tip o) (by rw [H.n_eq]; exact hj1) (H.lt j oj hj2) (t.other _ hl) (by simp [Ghost.new, hl]) (H.obj j oj hj2)
  · rcases key i oi hi with ⟨rfl, _⟩ | ⟨hni, hi1, hi2⟩ <;> rcases key j oj hj with ⟨rfl, _⟩ | ⟨hnj, hj1, hj2⟩
    · rfl
    · simp only [Ghost.new, H.n_eq, if_true, Nat.ne_of_lt hj1, if_false] at he
      exact absurd (H.inj id j o0 oj hid hj2 he).symm hnj
    · simp only [Ghost.new, H.n_eq, if_true, Nat.ne_of_lt hi1, if_false] at he
      exact absurd (H.inj i id oi o0 hi2 hid he) hni
    · simp only [Ghost.new, H.n_eq, Nat.ne_of_lt hi1, Nat.ne_of_lt hj1, if_false] at he
      exact H.inj i j oi oj hi2 hj2 he
end Go.Abs
