/-
  Rules for single operations on values that are not known.
-/
import Derived.Test.YtcammfdljiingaaAbsWP
import Derived.IntWalk
set_option linter.unusedSimpArgs false
set_option linter.unusedVariables false
namespace Go.Abs

variable {F : Nat → Option AEnt} {ev : Opd → AVal} {h : Heap} {K : AVal → Heap → Prop}

theorem wrap_in64 {x : Int} (h1 : -9223372036854775808 ≤ x) (h2 : x < 9223372036854775808) : IntKind.i64.wrap x = x := IntWalk.i64_in x ⟨h1, by omega⟩

/-! ### moves and numbers -/
theorem x_mov {x : Opd} (q : K (ev x) h) : XW F (.mov x) ev h K := x_eval _ _ rfl q
theorem x_len {x : Opd} {xs : List AVal} {t : Tok} (hx : ev x = .sl xs t) (q : K (.int .i64 xs.length) h) : XW F (.len x) ev h K := x_eval _ _ (by simp only [evalA, hx]) q
theorem x_len_ref {x : Opd} {id off n sz : Nat} (hx : ev x = .ref id off n sz) (q : K (.int .i64 n) h) : XW F (.len x) ev h K := x_eval _ _ (by simp only [evalA, hx]) q
theorem x_slen {x : Opd} {s : List UInt8} (hx : ev x = .str s) (q : K (.int .i64 s.length) h) : XW F (.slen x) ev h K := x_eval _ _ (by simp only [evalA, hx]) q
theorem x_ext {x : Opd} {vs : List AVal} {i : Nat} {r : AVal} (hx : ev x = .tup vs) (hi : vs[i]? = some r) (q : K r h) : XW F (.ext x i) ev h K := x_eval _ _ (by simp only [evalA, hx, hi]; rfl) q
theorem x_add {x y : Opd} {a b : Int} (hx : ev x = .int .i64 a) (hy : ev y = .int .i64 b) (h1 : -9223372036854775808 ≤ a + b) (h2 : a + b < 9223372036854775808) (q : K (.int .i64 (a + b)) h) : XW F (.bin .add .arith x y) ev h K :=
  x_eval _ _ (by simp [evalA, hx, hy, binA, intBin, wrap_in64 h1 h2]) q
theorem x_sub {x y : Opd} {a b : Int} (hx : ev x = .int .i64 a) (hy : ev y = .int .i64 b) (h1 : -9223372036854775808 ≤ a - b) (h2 : a - b < 9223372036854775808) (q : K (.int .i64 (a - b)) h) : XW F (.bin .sub .arith x y) ev h K :=
  x_eval _ _ (by simp [evalA, hx, hy, binA, intBin, wrap_in64 h1 h2]) q
theorem x_mul {x y : Opd} {a b : Int} (hx : ev x = .int .i64 a) (hy : ev y = .int .i64 b) (h1 : -9223372036854775808 ≤ a * b) (h2 : a * b < 9223372036854775808) (q : K (.int .i64 (a * b)) h) : XW F (.bin .mul .arith x y) ev h K :=
  x_eval _ _ (by simp [evalA, hx, hy, binA, intBin, wrap_in64 h1 h2]) q
theorem x_quo {x y : Opd} {a b : Int} (hx : ev x = .int .i64 a) (hy : ev y = .int .i64 b) (h0 : b ≠ 0) (h1 : -9223372036854775808 ≤ a.tdiv b) (h2 : a.tdiv b < 9223372036854775808) (q : K (.int .i64 (a.tdiv b)) h) : XW F (.bin .quo .arith x y) ev h K :=
  x_eval _ _ (by simp [evalA, hx, hy, binA, intBin, wrap_in64 h1 h2, h0]) q
theorem x_rem {x y : Opd} {a b : Int} (hx : ev x = .int .i64 a) (hy : ev y = .int .i64 b) (h0 : b ≠ 0) (q : K (.int .i64 (a.tmod b)) h) : XW F (.bin .rem .arith x y) ev h K :=
  x_eval _ _ (by simp [evalA, hx, hy, binA, intBin, h0]) q
theorem x_neg {x : Opd} {a : Int} (hx : ev x = .int .i64 a) (h1 : -9223372036854775808 ≤ -a) (h2 : -a < 9223372036854775808) (q : K (.int .i64 (-a)) h) : XW F (.un .neg x) ev h K :=
  x_eval _ _ (by simp [evalA, hx, unA, wrap_in64 h1 h2]) q
theorem x_lss {x y : Opd} {k : IntKind} {a b : Int} (hx : ev x = .int k a) (hy : ev y = .int k b) (q : K (.bool (decide (a < b))) h) : XW F (.bin .lss .arith x y) ev h K := x_eval _ _ (by simp [evalA, hx, hy, binA, intBin]) q
theorem x_leq {x y : Opd} {k : IntKind} {a b : Int} (hx : ev x = .int k a) (hy : ev y = .int k b) (q : K (.bool (decide (a ≤ b))) h) : XW F (.bin .leq .arith x y) ev h K := x_eval _ _ (by simp [evalA, hx, hy, binA, intBin]) q
theorem x_gtr {x y : Opd} {k : IntKind} {a b : Int} (hx : ev x = .int k a) (hy : ev y = .int k b) (q : K (.bool (decide (b < a))) h) : XW F (.bin .gtr .arith x y) ev h K := x_eval _ _ (by simp [evalA, hx, hy, binA, intBin]) q
theorem x_geq {x y : Opd} {k : IntKind} {a b : Int} (hx : ev x = .int k a) (hy : ev y = .int k b) (q : K (.bool (decide (b ≤ a))) h) : XW F (.bin .geq .arith x y) ev h K := x_eval _ _ (by simp [evalA, hx, hy, binA, intBin]) q
theorem x_eql {x y : Opd} {k : IntKind} {a b : Int} (hx : ev x = .int k a) (hy : ev y = .int k b) (q : K (.bool (decide (a = b))) h) : XW F (.bin .eql .arith x y) ev h K := x_eval (.bool (decide (a = b))) h (by simp [evalA, hx, hy, binA, intBin]; by_cases e : a = b <;> simp [e]) q
theorem x_neq {x y : Opd} {k : IntKind} {a b : Int} (hx : ev x = .int k a) (hy : ev y = .int k b) (q : K (.bool (decide (a ≠ b))) h) : XW F (.bin .neq .arith x y) ev h K := x_eval (.bool (decide (a ≠ b))) h (by simp [evalA, hx, hy, binA, intBin]; by_cases e : a = b <;> simp [e]) q
theorem x_lss_t {x y : Opd} {k : IntKind} {a b : Int} (hx : ev x = .int k a) (hy : ev y = .int k b) (hc : a < b) (q : K (.bool true) h) : XW F (.bin .lss .arith x y) ev h K := x_lss hx hy (by rw [decide_eq_true hc]; exact q)
theorem x_lss_f {x y : Opd} {k : IntKind} {a b : Int} (hx : ev x = .int k a) (hy : ev y = .int k b) (hc : b ≤ a) (q : K (.bool false) h) : XW F (.bin .lss .arith x y) ev h K := x_lss hx hy (by rw [decide_eq_false (by omega)]; exact q)
theorem x_leq_t {x y : Opd} {k : IntKind} {a b : Int} (hx : ev x = .int k a) (hy : ev y = .int k b) (hc : a ≤ b) (q : K (.bool true) h) : XW F (.bin .leq .arith x y) ev h K := x_leq hx hy (by rw [decide_eq_true hc]; exact q)
theorem x_leq_f {x y : Opd} {k : IntKind} {a b : Int} (hx : ev x = .int k a) (hy : ev y = .int k b) (hc : b < a) (q : K (.bool false) h) : XW F (.bin .leq .arith x y) ev h K := x_leq hx hy (by rw [decide_eq_false (by omega)]; exact q)
theorem x_gtr_t {x y : Opd} {k : IntKind} {a b : Int} (hx : ev x = .int k a) (hy : ev y = .int k b) (hc : b < a) (q : K (.bool true) h) : XW F (.bin .gtr .arith x y) ev h K := x_gtr hx hy (by rw [decide_eq_true hc]; exact q)
theorem x_gtr_f {x y : Opd} {k : IntKind} {a b : Int} (hx : ev x = .int k a) (hy : ev y = .int k b) (hc : a ≤ b) (q : K (.bool false) h) : XW F (.bin .gtr .arith x y) ev h K := x_gtr hx hy (by rw [decide_eq_false (by omega)]; exact q)
theorem x_geq_t {x y : Opd} {k : IntKind} {a b : Int} (hx : ev x = .int k a) (hy : ev y = .int k b) (hc : b ≤ a) (q : K (.bool true) h) : XW F (.bin .geq .arith x y) ev h K := x_geq hx hy (by rw [decide_eq_true hc]; exact q)
theorem x_geq_f {x y : Opd} {k : IntKind} {a b : Int} (hx : ev x = .int k a) (hy : ev y = .int k b) (hc : a < b) (q : K (.bool false) h) : XW F (.bin .geq .arith x y) ev h K := x_geq hx hy (by rw [decide_eq_false (by omega)]; exact q)
theorem x_eql_t {x y : Opd} {k : IntKind} {a b : Int} (hx : ev x = .int k a) (hy : ev y = .int k b) (hc : a = b) (q : K (.bool true) h) : XW F (.bin .eql .arith x y) ev h K := x_eql hx hy (by rw [decide_eq_true hc]; exact q)
theorem x_eql_f {x y : Opd} {k : IntKind} {a b : Int} (hx : ev x = .int k a) (hy : ev y = .int k b) (hc : a ≠ b) (q : K (.bool false) h) : XW F (.bin .eql .arith x y) ev h K := x_eql hx hy (by rw [decide_eq_false (by omega)]; exact q)
theorem x_neq_t {x y : Opd} {k : IntKind} {a b : Int} (hx : ev x = .int k a) (hy : ev y = .int k b) (hc : a ≠ b) (q : K (.bool true) h) : XW F (.bin .neq .arith x y) ev h K := x_neq hx hy (by rw [decide_eq_true hc]; exact q)
theorem x_neq_f {x y : Opd} {k : IntKind} {a b : Int} (hx : ev x = .int k a) (hy : ev y = .int k b) (hc : a = b) (q : K (.bool false) h) : XW F (.bin .neq .arith x y) ev h K := x_neq hx hy (by rw [decide_eq_false (by omega)]; exact q)
theorem x_eql_s {x y : Opd} {a b : List UInt8} (hx : ev x = .str a) (hy : ev y = .str b) (q : K (.bool (decide (a = b))) h) : XW F (.bin .eql .arith x y) ev h K := x_eval (.bool (decide (a = b))) h (by simp [evalA, hx, hy, binA, strBin]; by_cases e : a = b <;> simp [e]) q
theorem x_neq_s {x y : Opd} {a b : List UInt8} (hx : ev x = .str a) (hy : ev y = .str b) (q : K (.bool (decide (a ≠ b))) h) : XW F (.bin .neq .arith x y) ev h K := x_eval (.bool (decide (a ≠ b))) h (by simp [evalA, hx, hy, binA, strBin]; by_cases e : a = b <;> simp [e]) q
theorem x_add_s {x y : Opd} {a b : List UInt8} (hx : ev x = .str a) (hy : ev y = .str b) (hl : a.length + b.length ≤ 9223372036854775807) (q : K (.str (a ++ b)) h) : XW F (.bin .add .arith x y) ev h K := x_eval _ _ (by simp [evalA, hx, hy, binA, strBin, hl]) q
theorem x_not {x : Opd} {a : Bool} (hx : ev x = .bool a) (q : K (.bool (!a)) h) : XW F (.un .not x) ev h K := x_eval _ _ (by simp [evalA, hx, unA]) q
theorem x_pick_t {c a b : Opd} (hc : ev c = .bool true) (q : K (ev a) h) : XW F (.pick c a b) ev h K := x_eval _ _ (by simp [evalA, hc]) q
theorem x_pick_f {c a b : Opd} (hc : ev c = .bool false) (q : K (ev b) h) : XW F (.pick c a b) ev h K := x_eval _ _ (by simp [evalA, hc]) q

/-! ### lists, rows -/
theorem x_iaddr {sz : Nat} {x i : Opd} {xs : List AVal} {t : Tok} {k : IntKind} {n : Int} {y : AVal} (hx : ev x = .sl xs t) (hi : ev i = .int k n) (h0 : 0 ≤ n) (hy : xs[n.toNat]? = some y) (hs : y.cells.length = sz) (q : K (.rp y.cells) h) : XW F (.iaddr sz x i) ev h K := by
  have hlt := (List.getElem?_eq_some_iff.1 hy).1
  exact x_eval _ _ (by simp only [evalA, hx, hi]; rw [if_pos ⟨h0, by omega⟩]; simp only [hy, hs, if_true]) q
theorem x_iaddr_ref {sz : Nat} {x i : Opd} {id off len : Nat} {k : IntKind} {n : Int} (hx : ev x = .ref id off len sz) (hi : ev i = .int k n) (h0 : 0 ≤ n) (h1 : n < len) (q : K (.ptr id (off + n.toNat * sz)) h) : XW F (.iaddr sz x i) ev h K :=
  x_eval _ _ (by simp only [evalA, hx, hi, and_true]; rw [if_pos ⟨h0, h1⟩]) q
theorem x_faddr_rp {off : Nat} {x : Opd} {cs : List AVal} (hx : ev x = .rp cs) (q : K (.rp (cs.drop off)) h) : XW F (.faddr off x) ev h K := x_eval _ _ (by simp [evalA, hx]) q
theorem x_faddr_ptr {off : Nat} {x : Opd} {id o : Nat} (hx : ev x = .ptr id o) (q : K (.ptr id (o + off)) h) : XW F (.faddr off x) ev h K := x_eval _ _ (by simp [evalA, hx]) q
theorem x_load_rp {n : Nat} {ag : Bool} {x : Opd} {cs : List AVal} {r : AVal} (hx : ev x = .rp cs) (hn : n ≤ cs.length) (hr : mk ag (cs.take n) = some r) (q : K r h) : XW F (.load n ag x) ev h K :=
  x_eval _ _ (by simp [evalA, hx, loadA, hn, hr]) q
theorem x_load_ptr {n : Nat} {ag : Bool} {x : Opd} {id off : Nat} {mu : Bool} {s : Nat} {a : Bool} {cs : List AVal} {r : AVal} (hx : ev x = .ptr id off) (hg : h.get id = some (.row mu s a cs)) (hn : off + n ≤ cs.length) (hr : mk ag ((cs.drop off).take n) = some r) (q : K r h) : XW F (.load n ag x) ev h K :=
  x_eval _ _ (by simp [evalA, hx, loadA, hg, hn, hr]) q
theorem x_store {n : Nat} {a x : Opd} {id off : Nat} {s : Nat} {ag : Bool} {cs : List AVal} (ha : ev a = .ptr id off) (hg : h.get id = some (.row true s ag cs)) (hl : (ev x).cells.length = n) (ho : (ev x).cells.all AVal.one = true) (hn : off + n ≤ cs.length)
    (q : K (.tup []) (h.put id (some (.row true s ag (setCells cs off (ev x).cells))))) : XW F (.store n a x) ev h K :=
  x_eval _ _ (by simp [evalA, ha, storeA, hg, hl, hn, ho]) q
theorem x_nilc_ptr {x : Opd} {id o : Nat} (hx : ev x = .ptr id o) (q : K (.ptr id o) h) : XW F (.nilc x) ev h K := x_eval _ _ (by simp [evalA, hx]) q
theorem x_nilc_fn {x : Opd} {f : Nat} {c : List AVal} (hx : ev x = .fn f c) (q : K (.fn f c) h) : XW F (.nilc x) ev h K := x_eval _ _ (by simp [evalA, hx]) q
theorem x_field {off n : Nat} {ag : Bool} {x : Opd} {cs : List AVal} {r : AVal} (hx : ev x = .agg cs) (hn : off + n ≤ cs.length) (hr : mk ag ((cs.drop off).take n) = some r) (q : K r h) : XW F (.field off n ag x) ev h K :=
  x_eval _ _ (by simp [evalA, hx, hn, hr]) q
theorem x_sidx {x i : Opd} {s : List UInt8} {k : IntKind} {n : Int} {b : UInt8} (hx : ev x = .str s) (hi : ev i = .int k n) (h0 : 0 ≤ n) (hb : s[n.toNat]? = some b) (q : K (.int .u8 b.toNat) h) : XW F (.sidx x i) ev h K :=
  x_eval _ _ (by simp [evalA, hx, hi, h0, hb]) q

/-- An element that lies in a slice by value: cells that bear no right, of one size. -/
def Elem (ag : Bool) (sz : Nat) (y : AVal) : Prop := mk ag y.cells = some y ∧ y.cells.length = sz ∧ stripL y.cells = some y.cells

theorem stripL_append : ∀ {a b a' b' : List AVal}, stripL a = some a' → stripL b = some b' → stripL (a ++ b) = some (a' ++ b')
  | [], b, a', b', h1, h2 => by simp [stripL] at h1; subst h1; simpa using h2
  | x :: a, b, a', b', h1, h2 => by
    simp only [stripL] at h1
    split at h1
    · rename_i y ys e1 e2
      simp at h1; subst h1
      simp only [List.cons_append, stripL, e1, stripL_append e2 h2]
    · simp at h1

theorem strip_flat {ag : Bool} {sz : Nat} : ∀ {ys : List AVal}, (∀ y ∈ ys, Elem ag sz y) → stripL (flat ys) = some (flat ys)
  | [], _ => rfl
  | y :: ys, hy => by
    simp only [flat, List.flatMap_cons]
    exact stripL_append (hy y (by simp)).2.2 (strip_flat (fun z hz => hy z (by simp [hz])))

theorem flat_length {ag : Bool} {sz : Nat} : ∀ {ys : List AVal}, (∀ y ∈ ys, Elem ag sz y) → (flat ys).length = ys.length * sz
  | [], _ => by simp [flat]
  | y :: ys, hy => by
    have := flat_length (ys := ys) (fun z hz => hy z (by simp [hz]))
    simp only [flat, List.flatMap_cons, List.length_append, List.length_cons] at this ⊢
    rw [this, (hy y (by simp)).2.1, Nat.add_mul]; omega

theorem chunk_flat {ag : Bool} {sz : Nat} : ∀ {ys : List AVal}, (∀ y ∈ ys, Elem ag sz y) → chunk sz ag ys.length (flat ys) = some ys
  | [], _ => rfl
  | y :: ys, hy => by
    have h1 := hy y (by simp)
    have ht : (flat (y :: ys)).take sz = y.cells := by
      simp only [flat, List.flatMap_cons]
      rw [← h1.2.1, List.take_left']; rfl
    have hd : (flat (y :: ys)).drop sz = flat ys := by
      simp only [flat, List.flatMap_cons]
      rw [← h1.2.1, List.drop_left']; rfl
    have hc := chunk_flat (ys := ys) (fun z hz => hy z (by simp [hz]))
    simp only [List.length_cons, chunk, ht, hd, h1.1, hc, h1.2.1, if_true]

/-- A list that may grow: nil and empty, or with its right. -/
def Lst (h : Heap) (ty sz : Nat) (xs : List AVal) (v : AVal) : Prop := (xs = [] ∧ v = .sl [] .nil) ∨ ∃ id, v = .sl xs (.own id sz) ∧ h.get id = some (.tok ty) ∧ id < h.next

/-- A token that gives no right. -/
def Pt (t : Tok) : Prop := t = .none ∨ t = .nil

theorem strip_pt {t : Tok} (ht : Pt t) {xs : List AVal} : strip (.sl xs t) = some (.sl xs t) := by
  rcases ht with rfl | rfl <;> rfl

theorem purify_pt {t : Tok} (ht : Pt t) {xs : List AVal} {h : Heap} : purify h (.sl xs t) = some (.sl xs t) := by
  rcases ht with rfl | rfl <;> rfl

theorem roomOk_of {n bytes : Nat} (h1 : n ≤ 1000000) (h2 : bytes ≤ 10000) : roomOk n bytes = true := by
  simp only [roomOk, Bool.and_eq_true, decide_eq_true_eq]
  refine ⟨by omega, ?_⟩
  calc (4 * n + 1024) * bytes ≤ (4 * 1000000 + 1024) * 10000 := Nat.mul_le_mul (by omega) h2
    _ ≤ 281474976710656 := by decide

theorem x_append {ty bytes sz : Nat} {ag : Bool} {x y : Opd} {xs ys : List AVal} {t2 : Tok} (hL : Lst h ty sz xs (ev x)) (hy : ev y = .sl ys t2) (he : ∀ e ∈ ys, Elem ag sz e) (room : roomOk (xs.length + ys.length) bytes = true) (hsz : 0 < sz) (hsm : small sz = true)
    (q : ∀ v' h', Lst h' ty sz (xs ++ ys) v' → h.next ≤ h'.next → (∀ j o, h.get j = some o → (∀ xs', ev x ≠ .sl xs' (.own j sz)) → h'.get j = some o) → K v' h') : XW F (.append false ty bytes sz ag x y) ev h K := by
  have hel : elemsA h sz (.sl ys t2) = some (flat ys) := by
    simp only [elemsA]
    rw [if_pos]
    intro e he'
    exact (he e (List.mem_of_head? he')).2.1
  have hst := strip_flat he
  have hch := chunk_flat he
  by_cases hm : ys.length = 0
  · have hys : ys = [] := List.eq_nil_of_length_eq_zero hm
    subst hys
    refine x_eval (ev x) h ?_ (q _ _ (by simpa using hL) (Nat.le_refl _) (fun j o hj _ => hj))
    simp only [evalA, appendA, hy, lenA, hel, List.length_nil]
    rcases hL with ⟨rfl, e⟩ | ⟨id, e, _, _⟩ <;> rw [e] <;> rfl
  · rcases hL with ⟨rfl, e⟩ | ⟨id, e, hg, hid⟩
    · refine x_eval (.sl ys (.own h.next sz)) (h.push (.tok ty)) ?_ (q _ _ (.inr ⟨h.next, rfl, ?_, ?_⟩) ?_ ?_)
      · simp only [evalA, appendA, hy, lenA, hel, e]
        rw [if_neg hm]
        rw [List.length_nil, Nat.zero_add] at room
        simp [room, hsz, hsm, hst, hch]
      · simp [Heap.get, Heap.push]
      · simp [Heap.push]
      · simp [Heap.push]
      · intro j o hj _
        have hlt : j < h.next := by
          unfold Heap.get at hj; split at hj
          · assumption
          · simp at hj
        have e1 : h.next + 1 - 1 - j = (h.next - 1 - j) + 1 := by omega
        simp only [Heap.get, Heap.push, e1, List.getElem?_cons_succ] at hj ⊢
        rw [if_pos hlt] at hj
        rw [if_pos (by omega)]; exact hj
    · refine x_eval (.sl (xs ++ ys) (.own h.next sz)) ((h.put id none).push (.tok ty)) ?_ (q _ _ (.inr ⟨h.next, rfl, ?_, ?_⟩) ?_ ?_)
      · simp only [evalA, appendA, hy, lenA, hel, e]
        rw [if_neg hm]
        simp [room, hsz, hsm, hst, hch, hg]
      · simp [Heap.get, Heap.push, Heap.put, hid]
      · simp [Heap.push, Heap.put, hid]
      · simp only [Heap.push, Heap.put, hid, if_true]; omega
      · intro j o hj hne
        have hji : j ≠ id := fun e' => by subst e'; exact hne xs e
        have hlt : j < h.next := by
          unfold Heap.get at hj; split at hj
          · assumption
          · simp at hj
        have e1 : h.next + 1 - 1 - j = (h.next - 1 - j) + 1 := by omega
        simp only [Heap.get, Heap.push, Heap.put, hid, if_true, e1, List.getElem?_cons_succ] at hj ⊢
        rw [if_pos hlt] at hj
        rw [if_pos (by omega), List.getElem?_set_ne (by omega)]; exact hj

/-! ### calls that see plain values alone -/

/-- A call on a heap of its own gives a plain value. -/
def PF (F : Nat → Option AEnt) (f : Nat) (as : List AVal) (r : AVal) : Prop := ∃ r0 h', Gives F f as Heap.empty r0 h' ∧ purify h' r0 = some r

theorem pf_of {f : Nat} {as : List AVal} {r : AVal} {h' : Heap} (c : Gives F f as Heap.empty r h') {r' : AVal} (hp : purify h' r = some r') : PF F f as r' := ⟨r, h', c, hp⟩

theorem x_pf {f : Nat} {args : List Opd} {as : List AVal} {r : AVal} (hs : stripL (args.map ev) = some as) (c : PF F f as r) (q : K r h) : XW F (.pcall f args) ev h K := by
  obtain ⟨r0, h', c1, c2⟩ := c
  exact x_pcall as hs r0 r h' c1 c2 q

theorem x_pf0 {f : Nat} {r : AVal} (c : PF F f [] r) (q : K r h) : XW F (.pcall f []) ev h K := x_pf rfl c q
theorem x_pf1 {f : Nat} {x1 : Opd} {a1 r : AVal} (h1 : strip (ev x1) = some a1) (c : PF F f [a1] r) (q : K r h) : XW F (.pcall f [x1]) ev h K := x_pf (by simp only [List.map, stripL, h1]) c q
theorem x_pf2 {f : Nat} {x1 x2 : Opd} {a1 a2 r : AVal} (h1 : strip (ev x1) = some a1) (h2 : strip (ev x2) = some a2) (c : PF F f [a1, a2] r) (q : K r h) : XW F (.pcall f [x1, x2]) ev h K := x_pf (by simp only [List.map, stripL, h1, h2]) c q
theorem x_pf3 {f : Nat} {x1 x2 x3 : Opd} {a1 a2 a3 r : AVal} (h1 : strip (ev x1) = some a1) (h2 : strip (ev x2) = some a2) (h3 : strip (ev x3) = some a3) (c : PF F f [a1, a2, a3] r) (q : K r h) : XW F (.pcall f [x1, x2, x3]) ev h K :=
  x_pf (by simp only [List.map, stripL, h1, h2, h3]) c q
theorem x_pf4 {f : Nat} {x1 x2 x3 x4 : Opd} {a1 a2 a3 a4 r : AVal} (h1 : strip (ev x1) = some a1) (h2 : strip (ev x2) = some a2) (h3 : strip (ev x3) = some a3) (h4 : strip (ev x4) = some a4) (c : PF F f [a1, a2, a3, a4] r) (q : K r h) : XW F (.pcall f [x1, x2, x3, x4]) ev h K :=
  x_pf (by simp only [List.map, stripL, h1, h2, h3, h4]) c q

theorem pf_wp {g : Nat} {fn : AFunc} (hf : F g = some (.comp fn)) {args : List AVal} {r : AVal}
    (w : WP F fn.body (fn.slots.map fun s => (args[s]?).getD (.tup [])) Heap.empty (fun e vs h1 => (e = .normal ∨ e = .ret) ∧ purify h1 (resultsA fn.results vs) = some r)) : PF F g args r := by
  obtain ⟨r0, h', c, hp⟩ := gives_wp (p := fun v h1 => purify h1 v = some r) hf w
  exact ⟨r0, h', c, hp⟩

/-! ### variables on the heap -/
theorem get_push (h : Heap) (o : Obj) : (h.push o).get h.next = some o := by simp [Heap.get, Heap.push]
theorem get_push_old {h : Heap} {o o' : Obj} {j : Nat} (hj : h.get j = some o') : (h.push o).get j = some o' := by
  have hlt : j < h.next := by
    unfold Heap.get at hj; split at hj
    · assumption
    · simp at hj
  have e1 : h.next + 1 - 1 - j = (h.next - 1 - j) + 1 := by omega
  simp only [Heap.get, Heap.push, e1, List.getElem?_cons_succ] at hj ⊢
  rw [if_pos hlt] at hj
  rw [if_pos (by omega)]; exact hj
theorem get_lt {h : Heap} {j : Nat} {o : Obj} (hj : h.get j = some o) : j < h.next := by
  unfold Heap.get at hj; split at hj
  · assumption
  · simp at hj
theorem put_push (h : Heap) (o o' : Obj) : (h.push o).put h.next (some o') = h.push o' := by
  simp [Heap.put, Heap.push]
theorem put_push_old {h : Heap} {o : Obj} {j : Nat} (o' : Option Obj) (hj : j < h.next) : (h.push o).put j o' = (h.put j o').push o := by
  have e1 : h.next + 1 - 1 - j = (h.next - 1 - j) + 1 := by omega
  simp only [Heap.put, Heap.push, hj, if_true, e1, List.set_cons_succ]
  rw [if_pos (by omega)]

theorem x_alloc {ty sz : Nat} {ag : Bool} {z : List AVal} (hz : z.length = sz) (ho : z.all AVal.one = true) (q : K (.ptr h.next 0) (h.push (.row true (typed ty) ag z))) : XW F (.alloc ty sz ag z) ev h K :=
  x_eval _ _ (by simp only [evalA]; rw [if_pos ⟨hz, ho⟩]) q
theorem x_box {sz : Nat} {ag : Bool} {x : Opd} (hz : (ev x).cells.length = sz) (ho : (ev x).cells.all AVal.one = true) (q : K (.ptr h.next 0) (h.push (.row true 0 ag (ev x).cells))) : XW F (.box sz ag x) ev h K :=
  x_eval _ _ (by simp only [evalA]; rw [if_pos ⟨hz, ho⟩]) q
/-- A load from the newest row. -/
theorem x_load_top {n : Nat} {ag : Bool} {x : Opd} {off : Nat} {mu : Bool} {s : Nat} {a : Bool} {cs : List AVal} {r : AVal} (hx : ev x = .ptr h.next off) (hn : off + n ≤ cs.length) (hr : mk ag ((cs.drop off).take n) = some r) (q : K r (h.push (.row mu s a cs))) : XW F (.load n ag x) ev (h.push (.row mu s a cs)) K :=
  x_load_ptr hx (get_push _ _) hn hr q
theorem x_store_top {n : Nat} {a x : Opd} {off : Nat} {s : Nat} {ag : Bool} {cs : List AVal} (ha : ev a = .ptr h.next off) (hl : (ev x).cells.length = n) (ho : (ev x).cells.all AVal.one = true) (hn : off + n ≤ cs.length)
    (q : K (.tup []) (h.push (.row true s ag (setCells cs off (ev x).cells)))) : XW F (.store n a x) ev (h.push (.row true s ag cs)) K :=
  x_store ha (get_push _ _) hl ho hn (by rw [put_push]; exact q)

end Go.Abs
