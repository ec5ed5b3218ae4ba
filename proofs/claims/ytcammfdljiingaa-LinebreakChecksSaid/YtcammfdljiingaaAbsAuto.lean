/-
  Branches that the simplifier does not enter, heaps by their rows, slices of typed elements: the walk by program.
-/
import Derived.Test.YtcammfdljiingaaAbsSim
set_option linter.unusedSimpArgs false
set_option linter.unusedVariables false
namespace Go.Abs

variable {F : Nat → Option AEnt} {ev : Opd → AVal} {h : Heap} {K : AVal → Heap → Prop}

theorem XW_mono {op : AOp} {K' : AVal → Heap → Prop} (w : XW F op ev h K) (hi : ∀ r h', K r h' → K' r h') : XW F op ev h K' := by
  unfold XW at w ⊢
  obtain ⟨n, r, h', h1, h2⟩ := w
  exact ⟨n, r, h', h1, hi _ _ h2⟩

/-! ### what keeps the simplifier out: a congruence with a hypothesis that it always rewrites -/
def Dum : Prop := True
theorem Dum_eq : Dum ↔ True := ⟨fun _ => trivial, fun _ => trivial⟩
@[congr] theorem bindK_congrD {d : Prop} {o o' : Option AVal} (e0 : Dum = d) (e : o = o') : bindK o K h = bindK o' K h := by rw [e]
@[congr] theorem bindH_congrD {d : Prop} {o o' : Option (AVal × Heap)} (e0 : Dum = d) (e : o = o') : bindH o K = bindH o' K := by rw [e]

/-- The element at a place. -/
def nth {α : Type} [Inhabited α] (l : List α) (i : Nat) : α := l.getD i default
theorem nth_eq {α : Type} [Inhabited α] {l : List α} {i : Nat} (h : i < l.length) : nth l i = l[i] := by simp [nth, List.getD_eq_getElem?_getD, List.getElem?_eq_getElem h]
theorem nth_mem {α : Type} [Inhabited α] {l : List α} {i : Nat} (h : i < l.length) : nth l i ∈ l := by rw [nth_eq h]; exact List.getElem_mem h

/-! ### branches -/
/-- A branch, not entered by the simplifier. -/
def ifP (p : Prop) (A B : Prop) : Prop := (p → A) ∧ (¬ p → B)
@[congr] theorem ifP_congr {p q A B : Prop} {d : Prop} (e0 : Dum = d) (e : p = q) : ifP p A B = ifP q A B := by rw [e]
theorem ifP_true (A B : Prop) : ifP True A B = A := by simp [ifP]
theorem ifP_false (A B : Prop) : ifP False A B = B := by simp [ifP]
theorem ifP_not (p A B : Prop) : ifP (¬ p) A B = ifP p B A := by
  apply propext
  constructor
  · rintro ⟨a, b⟩; exact ⟨fun hp => b (fun h => h hp), fun hp => a hp⟩
  · rintro ⟨a, b⟩
    refine ⟨fun hp => b hp, fun hp => ?_⟩
    exact a (Classical.byContradiction hp)
theorem ifP_pos {p A B : Prop} (hp : p) (a : A) : ifP p A B := ⟨fun _ => a, fun h => absurd hp h⟩
theorem ifP_neg {p A B : Prop} (hp : ¬ p) (b : B) : ifP p A B := ⟨fun h => absurd h hp, fun _ => b⟩
theorem ifP_intro {p A B : Prop} (a : p → A) (b : ¬ p → B) : ifP p A B := ⟨a, b⟩

/-- A branch on a value. -/
def condP (v : AVal) (A B : Prop) : Prop := ∃ t, v = .bool t ∧ ifP (t = true) A B
@[congr] theorem condP_congr {v w : AVal} {A B : Prop} {d : Prop} (e0 : Dum = d) (e : v = w) : condP v A B = condP w A B := by rw [e]
theorem condP_bool (b : Bool) (A B : Prop) : condP (.bool b) A B = ifP (b = true) A B := by
  apply propext
  constructor
  · rintro ⟨t, e, q⟩; cases e; exact q
  · intro q; exact ⟨b, rfl, q⟩

theorem WP_condP {x : Opd} {a b : ACode} {vs : List AVal} {Q : AExit → List AVal → Heap → Prop} : WP F (.cond x a b) vs h Q ↔ condP (evOpd vs [] x) (WP F a vs h Q) (WP F b vs h Q) := by
  rw [WP_cond]
  constructor
  · rintro ⟨t, e, q⟩
    refine ⟨t, e, fun ht => ?_, fun ht => ?_⟩
    · subst ht; exact q
    · have : t = false := by simpa using ht
      subst this; exact q
  · rintro ⟨t, e, q1, q2⟩
    refine ⟨t, e, ?_⟩
    cases t with
    | true => exact q1 rfl
    | false => exact q2 (by simp)

/-- A guard on a value. -/
def guardP (v : AVal) (b : Bool) (A B : Prop) : Prop := ∃ t, wantV v b = some t ∧ ifP (t = true) A B
@[congr] theorem guardP_congr {v w : AVal} {b : Bool} {A B : Prop} {d : Prop} (e0 : Dum = d) (e : v = w) : guardP v b A B = guardP w b A B := by rw [e]
theorem guardP_t (c : Bool) (A B : Prop) : guardP (.bool c) true A B = ifP (c = true) A B := by
  apply propext
  constructor
  · rintro ⟨t, e, q⟩; simp only [wantV, Option.some.injEq] at e; subst e; simpa using q
  · intro q; exact ⟨c == true, rfl, by simpa using q⟩
theorem guardP_f (c : Bool) (A B : Prop) : guardP (.bool c) false A B = ifP (c = true) B A := by
  apply propext
  constructor
  · rintro ⟨t, e, q⟩
    simp only [wantV, Option.some.injEq] at e; subst e
    cases c <;> simpa [ifP] using q
  · intro q
    refine ⟨c == false, rfl, ?_⟩
    cases c <;> simpa [ifP] using q
theorem guardP_tup (b : Bool) (A B : Prop) : guardP (.tup []) b A B = B := by
  apply propext
  constructor
  · rintro ⟨t, e, q⟩; simp only [wantV, Option.some.injEq] at e; subst e; simpa [ifP] using q
  · intro q; exact ⟨false, rfl, by simpa [ifP] using q⟩

theorem RW_guardP {d : ADst} {op : AOp} {x : Opd} {b : Bool} {l : List AOper} {vs ts : List AVal} {K : List AVal → Heap → Prop} :
    RW F (⟨d, op, some (x, b)⟩ :: l) vs ts h K ↔ guardP (evOpd vs ts x) b (RW F (⟨d, op, none⟩ :: l) vs ts h K) (RW F (⟨d, .mov (.c (.tup [])), none⟩ :: l) vs ts h K) := by
  rw [RW_guard, want_V]
  constructor
  · rintro ⟨t, e, q⟩
    refine ⟨t, e, fun ht => ?_, fun ht => ?_⟩
    · subst ht; exact q
    · have : t = false := by simpa using ht
      subst this; exact q
  · rintro ⟨t, e, q1, q2⟩
    refine ⟨t, e, ?_⟩
    cases t with
    | true => exact q1 rfl
    | false => exact q2 (by simp)

theorem XW_pickP {c a b : Opd} : XW F (.pick c a b) ev h K ↔ condP (ev c) (K (ev a) h) (K (ev b) h) := by
  rw [XW_pick]
  constructor
  · rintro ⟨t, e, q⟩
    refine ⟨t, e, fun ht => ?_, fun ht => ?_⟩
    · subst ht; exact q
    · have : t = false := by simpa using ht
      subst this; exact q
  · rintro ⟨t, e, q1, q2⟩
    refine ⟨t, e, ?_⟩
    cases t with
    | true => exact q1 rfl
    | false => exact q2 (by simp)

/-! ### heaps -/
theorem push_next (h : Heap) (o : Obj) : (h.push o).next = h.next + 1 := _root_.id rfl
theorem put_next (h : Heap) (i : Nat) (o : Option Obj) : (h.put i o).next = h.next := by unfold Heap.put; split <;> rfl
theorem empty_next : Heap.empty.next = 0 := _root_.id rfl
theorem get_push_ne {h : Heap} {o : Obj} {j : Nat} (hj : j ≠ h.next) : (h.push o).get j = h.get j := by
  unfold Heap.get Heap.push
  by_cases hlt : j < h.next
  · have e1 : h.next + 1 - 1 - j = (h.next - 1 - j) + 1 := by omega
    simp only [e1, List.getElem?_cons_succ]
    rw [if_pos (by omega), if_pos hlt]
  · rw [if_neg (by simp; omega), if_neg hlt]
theorem get_put_self {h : Heap} {j : Nat} {o : Option Obj} (hj : j < h.next) (hw : h.l.length = h.next) : (h.put j o).get j = o := by
  unfold Heap.get Heap.put
  rw [if_pos hj]
  simp only [hj, if_true]
  rw [List.getElem?_set_self (by omega)]; rfl
theorem get_put_old {h : Heap} {j : Nat} {o1 : Obj} {o : Option Obj} (hj : h.get j = some o1) : (h.put j o).get j = o := by
  unfold Heap.get at hj
  split at hj
  · rename_i hlt
    have : (h.l[h.next - 1 - j]?).isSome := by
      cases hx : h.l[h.next - 1 - j]? with
      | none => rw [hx] at hj; simp at hj
      | some _ => rfl
    have hl : h.next - 1 - j < h.l.length := by simpa using this
    unfold Heap.get Heap.put
    rw [if_pos hlt]
    simp only [hlt, if_true]
    rw [List.getElem?_set_self hl]; rfl
  · simp at hj
theorem get_put_ne {h : Heap} {i j : Nat} {o : Option Obj} (hj : j ≠ i) : (h.put i o).get j = h.get j := by
  unfold Heap.put
  by_cases hi : i < h.next
  · rw [if_pos hi]
    unfold Heap.get
    show (if j < h.next then ((h.l.set (h.next - 1 - i) o)[h.next - 1 - j]?).join else none) = _
    by_cases hlt : j < h.next
    · rw [if_pos hlt, if_pos hlt, List.getElem?_set_ne (by omega)]
    · rw [if_neg hlt, if_neg hlt]
  · rw [if_neg hi]
theorem put_push_ne {h : Heap} {o : Obj} {j : Nat} (o' : Option Obj) (hj : j < h.next) : (h.push o).put j o' = (h.put j o').push o := put_push_old o' hj

/-- A load from a row. -/
def loadG (n : Nat) (ag : Bool) (off : Nat) : Option Obj → Option AVal
  | some (.row _ _ _ cs) => if off + n ≤ cs.length then mk ag ((cs.drop off).take n) else none
  | _ => none
theorem load_ptr (n : Nat) (ag : Bool) (id off : Nat) (h : Heap) : loadA n ag (.ptr id off) h = loadG n ag off (h.get id) := by
  simp only [loadA, loadG]
  cases h.get id with
  | none => rfl
  | some o => cases o <;> rfl
theorem loadG_row (n : Nat) (ag : Bool) (off : Nat) (mu : Bool) (s : Nat) (a : Bool) (cs : List AVal) : loadG n ag off (some (.row mu s a cs)) = if off + n ≤ cs.length then mk ag ((cs.drop off).take n) else none := rfl

/-- A store into a row. -/
def storeG (n id off : Nat) (x : AVal) (h : Heap) : Option Obj → Option Heap
  | some (.row true s ag cs) => if x.cells.length = n ∧ off + n ≤ cs.length ∧ x.cells.all AVal.one then some (h.put id (some (.row true s ag (setCells cs off x.cells)))) else none
  | _ => none
theorem store_ptr (n id off : Nat) (x : AVal) (h : Heap) : storeA n (.ptr id off) x h = storeG n id off x h (h.get id) := by
  simp only [storeA, storeG]
  cases h.get id with
  | none => rfl
  | some o => cases o with
    | row mu _ _ _ => cases mu <;> rfl
    | tok _ => rfl
theorem storeG_row (n id off : Nat) (x : AVal) (h : Heap) (s : Nat) (a : Bool) (cs : List AVal) : storeG n id off x h (some (.row true s a cs)) = if x.cells.length = n ∧ off + n ≤ cs.length ∧ x.cells.all AVal.one then some (h.put id (some (.row true s a (setCells cs off x.cells)))) else none := rfl

/-- The rows outside S stand as they stood. -/
def Fr (S : Nat → Prop) (h h' : Heap) : Prop := h.next ≤ h'.next ∧ ∀ j, j < h.next → ¬ S j → h'.get j = h.get j
theorem Fr.refl (S : Nat → Prop) (h : Heap) : Fr S h h := ⟨Nat.le_refl _, fun _ _ _ => rfl⟩
theorem Fr.trans {S : Nat → Prop} {h h1 h2 : Heap} (a : Fr S h h1) (b : Fr S h1 h2) : Fr S h h2 := ⟨Nat.le_trans a.1 b.1, fun j hj hs => (b.2 j (Nat.lt_of_lt_of_le hj a.1) hs).trans (a.2 j hj hs)⟩
theorem Fr.push {S : Nat → Prop} {h h1 : Heap} (a : Fr S h h1) (o : Obj) : Fr S h (h1.push o) := ⟨Nat.le_trans a.1 (Nat.le_succ _), fun j hj hs => by
  have := a.1
  rw [get_push_ne (by omega)]; exact a.2 j hj hs⟩
theorem Fr.put {S : Nat → Prop} {h h1 : Heap} (a : Fr S h h1) {i : Nat} (hi : S i ∨ h.next ≤ i) (o : Option Obj) : Fr S h (h1.put i o) := ⟨by rw [put_next]; exact a.1, fun j hj hs => by
  rw [get_put_ne]
  · exact a.2 j hj hs
  · rintro rfl
    rcases hi with h' | h'
    · exact hs h'
    · omega⟩
theorem Fr.mono {S T : Nat → Prop} {h h1 : Heap} (a : Fr S h h1) (hi : ∀ j, j < h.next → S j → T j) : Fr T h h1 := ⟨a.1, fun j hj hs => a.2 j hj (fun h' => hs (hi j hj h'))⟩
theorem Fr.get {S : Nat → Prop} {h h1 : Heap} (a : Fr S h h1) {j : Nat} {o : Obj} (hg : h.get j = some o) (hs : ¬ S j) : h1.get j = some o := by rw [a.2 j (get_lt hg) hs]; exact hg

/-! ### calls that touch the heap -/
/-- A call gives what K asks for. -/
def CV (F : Nat → Option AEnt) (g : Nat) (as : List AVal) (h : Heap) (K : AVal → Heap → Prop) : Prop := ∃ r h', Gives F g as h r h' ∧ K r h'
theorem CV_wp {g : Nat} {fn : AFunc} (hf : F g = some (.comp fn)) {args : List AVal} {h : Heap} {K : AVal → Heap → Prop}
    (w : WP F fn.body (fn.slots.map fun s => (args[s]?).getD (.tup [])) h (fun e vs h1 => (e = .normal ∨ e = .ret) ∧ K (resultsA fn.results vs) h1)) : CV F g args h K := gives_wp hf w
theorem CV_mono {g : Nat} {as : List AVal} {h : Heap} {K K' : AVal → Heap → Prop} (c : CV F g as h K) (hi : ∀ r h', K r h' → K' r h') : CV F g as h K' := by
  obtain ⟨r, h', c, k⟩ := c
  exact ⟨r, h', c, hi _ _ k⟩
def callK (F : Nat → Option AEnt) (f : AVal) (as : List AVal) (h : Heap) (K : AVal → Heap → Prop) : Prop := ∃ g cap, f = .fn g cap ∧ CV F g (as ++ cap) h K
@[congr] theorem callK_congr {f f' : AVal} {as as' : List AVal} {K : AVal → Heap → Prop} {d : Prop} (e0 : Dum = d) (e : f = f') (e2 : as = as') : callK F f as h K = callK F f' as' h K := by rw [e, e2]
@[congr] theorem CV_congr {g : Nat} {as as' : List AVal} {K : AVal → Heap → Prop} {d : Prop} (e0 : Dum = d) (e2 : as = as') : CV F g as h K = CV F g as' h K := by rw [e2]
theorem callK_fn (g : Nat) (cap as : List AVal) : callK F (.fn g cap) as h K = CV F g (as ++ cap) h K := by
  apply propext
  constructor
  · rintro ⟨g', c', e, q⟩; cases e; exact q
  · intro q; exact ⟨g, cap, rfl, q⟩
theorem XW_callK {f : Opd} {args : List Opd} : XW F (.call f args) ev h K ↔ callK F (ev f) (args.map ev) h K := by
  rw [XW_call]
  constructor
  · rintro ⟨g, cap, hf, r, h', e, q⟩
    exact ⟨g, cap, hf, r, h', of_GV e, q⟩
  · rintro ⟨g, cap, hf, r, h', e, q⟩
    exact ⟨g, cap, hf, r, h', GV_of e, q⟩
theorem PV_cv {g : Nat} {as : List AVal} {r : AVal} (c : CV F g as Heap.empty (fun r0 h' => purify h' r0 = some r)) : PV F g as = some r := by
  obtain ⟨r0, h', c, hp⟩ := c
  exact PV_of c hp
/-- A call of a function of plain values, on any heap. -/
theorem Gives_CV {g : Nat} {as : List AVal} {r : AVal} {h' : Heap} (c : Gives F g as h r h') (k : K r h') : CV F g as h K := ⟨r, h', c, k⟩

/-! ### more operations -/
theorem XW_build {z : List AVal} {ps : List (Nat × Nat × Opd)} : XW F (.build z ps) ev h K ↔ bindK ((fillA z (ps.map fun p => (p.1, p.2.1, ev p.2.2))).map .agg) K h := by
  refine XW_val (fun _ => rfl) ?_
  simp only [evalA, Option.map_map]; rfl
theorem fillA_nil (z : List AVal) : fillA z [] = some z := rfl
theorem fillA_cons (z : List AVal) (off n : Nat) (v : AVal) (l : List (Nat × Nat × AVal)) : fillA z ((off, n, v) :: l) = if v.cells.length = n ∧ off + n ≤ z.length ∧ v.cells.all AVal.one then fillA (setCells z off v.cells) l else none := rfl
theorem XW_field {off n : Nat} {ag : Bool} {x : Opd} : XW F (.field off n ag x) ev h K ↔ bindK (match ev x with | .agg cs => if off + n ≤ cs.length then mk ag ((cs.drop off).take n) else none | _ => none) K h := by
  refine XW_val (fun _ => rfl) ?_
  simp only [evalA]
  cases ev x <;> first | rfl | skip
  rename_i cs; by_cases h1 : off + n ≤ cs.length <;> simp [h1]
theorem XW_clo {f : Nat} {cap : List Opd} : XW F (.clo f cap) ev h K ↔ bindK (some (.fn f (cap.map ev))) K h := XW_val (fun _ => rfl) rfl
theorem XW_toInt {k : IntKind} {x : Opd} : XW F (.toInt k x) ev h K ↔ bindK (match ev x with | .int _ n => some (.int k (k.wrap n)) | _ => none) K h := by
  refine XW_val (fun _ => rfl) ?_
  simp only [evalA]; cases ev x <;> rfl
theorem XW_idstr {x : Opd} : XW F (.idstr x) ev h K ↔ bindK (match ev x with | .str s => some (.str s) | _ => none) K h := by
  refine XW_val (fun _ => rfl) ?_
  simp only [evalA]; cases ev x <;> rfl
theorem XW_slice {sz : Nat} {x : Opd} {lo hi : Option Opd} : XW F (.slice sz x lo hi) ev h K ↔ bindK (sliceA sz (ev x) (lo.map ev) (hi.map ev)) K h := XW_val (fun _ => rfl) rfl
theorem XW_sslice {x : Opd} {lo hi : Option Opd} : XW F (.sslice x lo hi) ev h K ↔ bindK (ssliceA (ev x) (lo.map ev) (hi.map ev)) K h := XW_val (fun _ => rfl) rfl
/-- A byte of a string. -/
def sidxA (x i : AVal) : Option AVal := match x, i with
  | .str s, .int _ n => if 0 ≤ n then (s[n.toNat]?).map (fun b => .int .u8 b.toNat) else none
  | _, _ => none
theorem XW_sidx {x i : Opd} : XW F (.sidx x i) ev h K ↔ bindK (sidxA (ev x) (ev i)) K h := by
  refine XW_val (fun _ => rfl) ?_
  simp only [evalA, sidxA]
  cases ev x <;> cases ev i <;> first | rfl | skip
  rename_i s k n
  by_cases h0 : 0 ≤ n
  · simp only [h0, if_true]
    cases s[n.toNat]? <;> rfl
  · simp only [h0, if_false]; rfl
theorem sidx_str (s : List UInt8) (k : IntKind) (n : Int) (h0 : 0 ≤ n) (h1 : n < s.length) : sidxA (.str s) (.int k n) = some (.int .u8 (nth s n.toNat).toNat) := by
  have : n.toNat < s.length := by omega
  simp [sidxA, h0, nth, List.getD_eq_getElem?_getD, List.getElem?_eq_getElem this]
theorem boundA_none (d y : Nat) : boundA none d y = some d := rfl
theorem boundA_int (k : IntKind) (i : Int) (d y : Nat) (h0 : 0 ≤ i) (h1 : i ≤ y) : boundA (some (.int k i)) d y = some i.toNat := by simp [boundA, h0, h1]
theorem sslice_str (s : List UInt8) (lo hi : Option AVal) {a b : Nat} (hb : boundA hi s.length s.length = some b) (ha : boundA lo 0 b = some a) : ssliceA (.str s) lo hi = some (.str ((s.drop a).take (b - a))) := by simp only [ssliceA, hb, ha]
theorem XW_appendK {arr : Bool} {ty bytes sz : Nat} {ag : Bool} {x y : Opd} : XW F (.append arr ty bytes sz ag x y) ev h K ↔ bindH (appendA arr ty bytes sz ag (ev x) (ev y) h) K := by
  rw [XW_eval (fun _ => rfl)]; rfl
theorem XW_copyK {sz : Nat} {x y : Opd} : XW F (.copy sz x y) ev h K ↔ bindH (copyA sz (ev x) (ev y) h) K := by
  rw [XW_eval (fun _ => rfl)]; rfl
/-- A new slice of rows. -/
def mkslA (bytes sz : Nat) (ag : Bool) (z : List AVal) (l c : AVal) (h : Heap) : Option (AVal × Heap) := match l, c with
  | .int _ a, .int _ b => if 0 ≤ a ∧ a ≤ b ∧ b < 9223372036854775808 ∧ bytes * b ≤ 281474976710656 ∧ z.length = sz ∧ z.all AVal.one ∧ small sz then some (.ref h.next 0 a.toNat sz, h.push (.row true sz ag (repl a.toNat z))) else none
  | _, _ => none
theorem XW_mksl {bytes sz : Nat} {ag : Bool} {z : List AVal} {l c : Opd} : XW F (.mksl bytes sz ag z l c) ev h K ↔ bindH (mkslA bytes sz ag z (ev l) (ev c) h) K := by
  rw [XW_eval (fun _ => rfl)]
  have : evalA (.mksl bytes sz ag z l c) ev h = mkslA bytes sz ag z (ev l) (ev c) h := by
    simp only [evalA, mkslA]
    cases ev l <;> cases ev c <;> rfl
  rw [this]; rfl
theorem mksl_int (bytes sz : Nat) (ag : Bool) (z : List AVal) (k k' : IntKind) (a : Int) (h : Heap) (h0 : 0 ≤ a) (h1 : a < 1000000000) (hb : bytes ≤ 100000) (hz : z.length = sz) (ho : z.all AVal.one = true) (hs : small sz = true) : mkslA bytes sz ag z (.int k a) (.int k' a) h = some (.ref h.next 0 a.toNat sz, h.push (.row true sz ag (repl a.toNat z))) := by
  have : (bytes : Int) * a ≤ 281474976710656 := by
    have h2 : (bytes : Int) * a ≤ 100000 * 1000000000 := Int.mul_le_mul (by omega) (by omega) h0 (by omega)
    omega
  have h3 : a < 9223372036854775808 := by omega
  simp [mkslA, h0, h3, this, hz, ho, hs]

/-- A literal slice. -/
def litA (mode ty n sz : Nat) (ag : Bool) (z : List AVal) (fl : Option (List AVal)) (h : Heap) : Option (AVal × Heap) := match fl with
    | some cs =>
      if !(decide (z.length = sz) && z.all AVal.one && decide (n * sz ≤ 16777216) && small sz) then none else
      if mode = 2 then some (.ref h.next 0 n sz, h.push (.row true sz ag cs))
      else if mode = 3 then (match purifyL h cs, freeze h (refIdsL cs) with
        | some cs, some h => match chunk sz ag n cs with
          | none => none
          | some xs => some (.sl xs .none, h)
        | _, _ => none)
      else match stripL cs with
        | none => none
        | some cs => match chunk sz ag n cs with
          | none => none
          | some xs => if mode = 1 then some (.sl xs (.own h.next sz), h.push (.tok ty)) else some (.sl xs .none, h)
    | none => none
theorem XW_lit {mode ty n sz : Nat} {ag : Bool} {z : List AVal} {ps : List (Nat × Opd)} : XW F (.lit mode ty n sz ag z ps) ev h K ↔ bindH (litA mode ty n sz ag z (fillA (repl n z) (ps.map fun p => (p.1 * sz, sz, ev p.2))) h) K := by
  rw [XW_eval (fun _ => rfl)]; rfl
theorem lit_none {mode ty n sz : Nat} {ag : Bool} {z : List AVal} {cs cs' xs : List AVal} {h : Heap} (hs : stripL cs = some cs') (hc : chunk sz ag n cs' = some xs) (hm : mode = 0) (hk : (decide (z.length = sz) && z.all AVal.one && decide (n * sz ≤ 16777216) && small sz) = true) :
    litA mode ty n sz ag z (some cs) h = some (.sl xs .none, h) := by
  subst hm
  simp only [litA, hk, hs, hc]; rfl
theorem lit_own {mode ty n sz : Nat} {ag : Bool} {z : List AVal} {cs cs' xs : List AVal} {h : Heap} (hs : stripL cs = some cs') (hc : chunk sz ag n cs' = some xs) (hm : mode = 1) (hk : (decide (z.length = sz) && z.all AVal.one && decide (n * sz ≤ 16777216) && small sz) = true) :
    litA mode ty n sz ag z (some cs) h = some (.sl xs (.own h.next sz), h.push (.tok ty)) := by
  subst hm
  simp only [litA, hk, hs, hc]; rfl
theorem lit_ref {mode ty n sz : Nat} {ag : Bool} {z : List AVal} {cs : List AVal} {h : Heap} (hm : mode = 2) (hk : (decide (z.length = sz) && z.all AVal.one && decide (n * sz ≤ 16777216) && small sz) = true) :
    litA mode ty n sz ag z (some cs) h = some (.ref h.next 0 n sz, h.push (.row true sz ag cs)) := by
  subst hm
  simp only [litA, hk]; rfl

/-! ### slices of typed elements -/
theorem iaddr_map {α : Type} [Inhabited α] (x i : Opd) {sz : Nat} {l : List α} {f : α → AVal} {t : Tok} {k : IntKind} {n : Int} (h : Heap) (h0 : 0 ≤ n) (h1 : n < l.length) :
    valA (.iaddr sz x i) (.sl (l.map f) t) (.int k n) h = if (f (nth l n.toNat)).cells.length = sz then some (.rp (f (nth l n.toNat)).cells) else none := by
  have hlt : n.toNat < l.length := by omega
  have : (l.map f)[n.toNat]? = some (f (nth l n.toNat)) := by
    simp [nth, List.getD_eq_getElem?_getD, List.getElem?_eq_getElem hlt]
  simp only [valA]
  rw [if_pos ⟨h0, by simp; omega⟩]
  simp only [this]
theorem iaddr_refP (x i : Opd) {sz id off len s : Nat} {k : IntKind} {n : Int} (h : Heap) (h0 : 0 ≤ n) (hy : n < len) (hs : s = sz) : valA (.iaddr sz x i) (.ref id off len s) (.int k n) h = some (.ptr id (off + n.toNat * sz)) := by
  simp only [valA, h0, hy, true_and, hs, if_true]

/-! ### plain results -/
theorem pu_agg (h : Heap) (cs : List AVal) : purify h (.agg cs) = (purifyL h cs).map .agg := by simp only [purify]
theorem pu_tup (h : Heap) (cs : List AVal) : purify h (.tup cs) = (purifyL h cs).map .tup := by simp only [purify]
theorem puL_nil (h : Heap) : purifyL h [] = some [] := by simp only [purifyL]
theorem puL_cons (h : Heap) (x : AVal) (xs : List AVal) : purifyL h (x :: xs) = sc (purify h x) (purifyL h xs) := by
  rw [purifyL]; unfold sc; cases purify h x <;> cases purifyL h xs <;> rfl
theorem pu_ref (h : Heap) (id off len sz : Nat) : purify h (.ref id off len sz) = (readRef h id off len sz).map (.sl · .none) := by simp only [purify]
theorem st_tup (cs : List AVal) : strip (.tup cs) = (stripL cs).map .tup := by simp only [strip]
theorem resA_none (vs : List AVal) : resultsA [] vs = .tup [] := rfl
theorem resA_two (i j : Nat) (vs : List AVal) : resultsA [i, j] vs = .tup [(vs[i]?).getD .bad, (vs[j]?).getD .bad] := rfl
theorem resA_three (i j k : Nat) (vs : List AVal) : resultsA [i, j, k] vs = .tup [(vs[i]?).getD .bad, (vs[j]?).getD .bad, (vs[k]?).getD .bad] := rfl
theorem get_push_eq {h : Heap} {o : Obj} {j : Nat} (hj : j = h.next) : (h.push o).get j = some o := by subst hj; exact get_push h o
theorem put_push_eq {h : Heap} {o o' : Obj} {j : Nat} (hj : j = h.next) : (h.push o).put j (some o') = h.push o' := by subst hj; exact put_push h o o'
theorem ifP_notB (b : Bool) (A B : Prop) : ifP ((!b) = true) A B = ifP (b = true) B A := by cases b <;> simp [ifP]
theorem bin_eql_b (a b : Bool) : binA .eql .bool (.bool a) (.bool b) = some (.bool (a == b)) := rfl
theorem bin_neq_b (a b : Bool) : binA .neq .bool (.bool a) (.bool b) = some (.bool (!(a == b))) := rfl
theorem bin_struct_eql (ks : List CK) (xs ys : List AVal) : binA .eql (.struct ks) (.agg xs) (.agg ys) = (cellsEq ks xs ys).map .bool := rfl
theorem bin_struct_neq (ks : List CK) (xs ys : List AVal) : binA .neq (.struct ks) (.agg xs) (.agg ys) = (cellsEq ks xs ys).map (fun b => .bool (!b)) := rfl
theorem bin_add_s (a b : List UInt8) (hl : a.length + b.length ≤ 9223372036854775807) : binA .add .arith (.str a) (.str b) = some (.str (a ++ b)) := by simp [binA, strBin, hl]
theorem bin_and_i (k : IntKind) (a b : Int) : binA .and .arith (.int k a) (.int k b) = some (.int k (k.wrap (BitVec.ofInt k.bits a &&& BitVec.ofInt k.bits b).toNat)) := by simp [binA, intBin]
theorem bin_fn (op : BinOp) (x y : AVal) : binA op .fn x y = cmpA op (fnEq x y) := rfl
theorem bin_sl (op : BinOp) (x y : AVal) : binA op .sl x y = cmpA op (slEq x y) := rfl
theorem bin_ptr (op : BinOp) (x y : AVal) : binA op .ptr x y = cmpA op (ptrEq x y) := rfl
/-! ### regions, with the temporaries the newest first -/
def evS (n : Nat) (vs ts : List AVal) : Opd → AVal
  | .v i => (vs[i]?).getD .bad
  | .t k => if k < n then (ts[n - 1 - k]?).getD .bad else .bad
  | .c x => x
def padT (n : Nat) (ts : List AVal) : List AVal := ts.take n ++ List.replicate (n - ts.length) .bad
theorem padT_length (n : Nat) (ts : List AVal) : (padT n ts).length = n := by simp [padT]; omega
theorem padT_cons (n : Nat) (r : AVal) (ts : List AVal) : padT (n + 1) (r :: ts) = r :: padT n ts := by simp [padT]
theorem padT_get (n i : Nat) (ts : List AVal) (hi : i < n) : ((padT n ts)[i]?).getD .bad = (ts[i]?).getD .bad := by
  unfold padT
  by_cases h1 : i < ts.length
  · rw [List.getElem?_append_left (by simp; omega), List.getElem?_take, if_pos hi]
  · rw [List.getElem?_append_right (by simp; omega), List.getElem?_replicate, List.getElem?_eq_none (by omega : ts.length ≤ i)]
    split <;> rfl
theorem evS_eq {n : Nat} {vs ts : List AVal} : evOpd vs (padT n ts).reverse = evS n vs ts := by
  funext x
  cases x with
  | v i => rfl
  | c x => rfl
  | t k =>
    simp only [evOpd, evS]
    have hn := padT_length n ts
    by_cases hk : k < n
    · rw [if_pos hk, List.getElem?_reverse (by omega), hn, padT_get _ _ _ (by omega)]
    · rw [if_neg hk, List.getElem?_eq_none (by simp; omega)]; rfl
/-- A region whose temporaries lie newest first. -/
def RV (F : Nat → Option AEnt) (l : List AOper) (n : Nat) (vs ts : List AVal) (h : Heap) (K : List AVal → Heap → Prop) : Prop := RW F l vs (padT n ts).reverse h K
@[congr] theorem RV_congr {l : List AOper} {n n' : Nat} {vs vs' ts ts' : List AVal} {h h' : Heap} {K : List AVal → Heap → Prop} {d : Prop} (e0 : Dum = d) (e1 : n = n') (e2 : vs = vs') (e3 : ts = ts') (e4 : h = h') : RV F l n vs ts h K = RV F l n' vs' ts' h' K := by rw [e1, e2, e3, e4]
@[congr] theorem WP_congr {c : ACode} {vs vs' : List AVal} {h h' : Heap} {Q : AExit → List AVal → Heap → Prop} {d : Prop} (e0 : Dum = d) (e2 : vs = vs') (e4 : h = h') : WP F c vs h Q = WP F c vs' h' Q := by rw [e2, e4]
theorem WP_opsV {l : List AOper} {vs : List AVal} {Q : AExit → List AVal → Heap → Prop} : WP F (.ops l) vs h Q ↔ RV F l 0 vs [] h (Q .normal) := by
  rw [WP_ops]
  exact Iff.rfl
theorem RV_nil {n : Nat} {vs ts : List AVal} {K : List AVal → Heap → Prop} : RV F [] n vs ts h K ↔ K vs h := by
  unfold RV
  rw [RW_nil]
theorem RV_exec {n : Nat} {d : ADst} {op : AOp} {l : List AOper} {vs ts : List AVal} {K : List AVal → Heap → Prop} :
    RV F (⟨d, op, none⟩ :: l) n vs ts h K ↔ XW F op (evS n vs ts) h (fun r h' => RV F l (n + 1) (putV d vs r) (putT d r :: ts) h' K) := by
  unfold RV
  rw [RW_exec, evS_eq]
  simp only [padT_cons, List.reverse_cons]
theorem RV_guardP {n : Nat} {d : ADst} {op : AOp} {x : Opd} {b : Bool} {l : List AOper} {vs ts : List AVal} {K : List AVal → Heap → Prop} :
    RV F (⟨d, op, some (x, b)⟩ :: l) n vs ts h K ↔ guardP (evS n vs ts x) b (RV F (⟨d, op, none⟩ :: l) n vs ts h K) (RV F (⟨d, .mov (.c (.tup [])), none⟩ :: l) n vs ts h K) := by
  unfold RV
  rw [RW_guardP, evS_eq]
theorem evS_v (n : Nat) (vs ts : List AVal) (i : Nat) : evS n vs ts (.v i) = (vs[i]?).getD .bad := _root_.id rfl
theorem evS_t (n : Nat) (vs ts : List AVal) (k : Nat) : evS n vs ts (.t k) = if k < n then (ts[n - 1 - k]?).getD .bad else .bad := _root_.id rfl
theorem evS_c (n : Nat) (vs ts : List AVal) (x : AVal) : evS n vs ts (.c x) = x := _root_.id rfl
attribute [irreducible] RV
theorem toNat_pred (a : Int) : (a - 1).toNat = a.toNat - 1 := by omega
theorem toNat_succ (i : Nat) : ((i : Int) + 1).toNat = i + 1 := by omega
theorem decide_tt {p : Prop} [Decidable p] (h : p) : decide p = true := decide_eq_true h

end Go.Abs
