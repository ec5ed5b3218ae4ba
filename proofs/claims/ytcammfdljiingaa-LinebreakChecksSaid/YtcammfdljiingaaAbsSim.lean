/-
  Single operations as equivalences, for the simplifier: a region is walked by one call of it.
-/
import Derived.Test.YtcammfdljiingaaAbsRules
set_option linter.unusedSimpArgs false
set_option linter.unusedVariables false
namespace Go.Abs

variable {F : Nat → Option AEnt} {ev : Opd → AVal} {h : Heap} {K : AVal → Heap → Prop}

theorem ev_v (vs ts : List AVal) (i : Nat) : evOpd vs ts (.v i) = (vs[i]?).getD .bad := _root_.id rfl
theorem ev_t (vs ts : List AVal) (i : Nat) : evOpd vs ts (.t i) = (ts[i]?).getD .bad := _root_.id rfl
theorem ev_c (vs ts : List AVal) (x : AVal) : evOpd vs ts (.c x) = x := _root_.id rfl
theorem putV_tmp (vs : List AVal) (r : AVal) : putV .tmp vs r = vs := _root_.id rfl
theorem putV_no (vs : List AVal) (r : AVal) : putV .no vs r = vs := _root_.id rfl
theorem putV_var (vs : List AVal) (r : AVal) (i : Nat) : putV (.var i) vs r = vs.set i r := _root_.id rfl
theorem putT_tmp (r : AVal) : putT .tmp r = r := _root_.id rfl
theorem putT_no (r : AVal) : putT .no r = .bad := _root_.id rfl
theorem putT_var (r : AVal) (i : Nat) : putT (.var i) r = .bad := _root_.id rfl
theorem want_bool (vs ts : List AVal) (x : Opd) (b c : Bool) (hx : evOpd vs ts x = .bool c) : wantA (evOpd vs ts) (some (x, b)) = some (c == b) := by simp [wantA, hx]

/-- The decision of a guard. -/
def wantV : AVal → Bool → Option Bool
  | .bool c, b => some (c == b)
  | .tup [], _ => some false
  | _, _ => none
theorem want_V (vs ts : List AVal) (x : Opd) (b : Bool) : wantA (evOpd vs ts) (some (x, b)) = wantV (evOpd vs ts x) b := by
  simp only [wantA, wantV]
  cases evOpd vs ts x <;> first | rfl | skip
  rename_i l; cases l <;> rfl
theorem wantV_tt : wantV (.bool true) true = some true := rfl
theorem wantV_tf : wantV (.bool true) false = some false := rfl
theorem wantV_ft : wantV (.bool false) true = some false := rfl
theorem wantV_ff : wantV (.bool false) false = some true := rfl
theorem wantV_tup (b : Bool) : wantV (.tup []) b = some false := rfl

theorem XW_val {op : AOp} (hop : ∀ cf, execA cf op ev h = evalA op ev h) {f : Option AVal} (e : evalA op ev h = f.map (·, h)) : XW F op ev h K ↔ bindK f K h := by
  rw [XW_eval hop, e]
  simp only [Option.map_eq_some_iff, Prod.mk.injEq]
  constructor
  · rintro ⟨r, h', ⟨a, h1, rfl, rfl⟩, h2⟩; exact ⟨a, h1, h2⟩
  · rintro ⟨r, h1, h2⟩; exact ⟨r, h, ⟨r, h1, rfl, rfl⟩, h2⟩

theorem XW_heap {op : AOp} (hop : ∀ cf, execA cf op ev h = evalA op ev h) {p : Prop} [Decidable p] {v : AVal} {h1 : Heap} (e : evalA op ev h = if p then some (v, h1) else none) : XW F op ev h K ↔ p ∧ K v h1 := by
  rw [XW_eval hop, e]
  constructor
  · rintro ⟨r, h', he, q⟩
    split at he
    · rename_i hp
      simp only [Option.some.injEq, Prod.mk.injEq] at he
      obtain ⟨rfl, rfl⟩ := he
      exact ⟨hp, q⟩
    · simp at he
  · rintro ⟨hp, q⟩
    exact ⟨v, h1, if_pos hp, q⟩

theorem XW_mov {x : Opd} : XW F (.mov x) ev h K ↔ bindK (some (ev x)) K h := XW_val (fun _ => rfl) rfl
theorem XW_bin {op : BinOp} {bk : BK} {x y : Opd} : XW F (.bin op bk x y) ev h K ↔ bindK (binA op bk (ev x) (ev y)) K h := by
  exact XW_val (fun _ => rfl) rfl
theorem XW_un {op : UnOp} {x : Opd} : XW F (.un op x) ev h K ↔ bindK (unA op (ev x)) K h := by
  exact XW_val (fun _ => rfl) rfl
theorem XW_load {n : Nat} {ag : Bool} {x : Opd} : XW F (.load n ag x) ev h K ↔ bindK (loadA n ag (ev x) h) K h := by
  exact XW_val (fun _ => rfl) rfl
theorem XW_store {n : Nat} {a x : Opd} : XW F (.store n a x) ev h K ↔ bindH ((storeA n (ev a) (ev x) h).map fun h' => (.tup [], h')) K := by
  rw [XW_eval (fun _ => rfl)]
  rfl

/-- What an operation on values alone gives. -/
def valA (op : AOp) (a b : AVal) (h : Heap) : Option AVal :=
  match op with
  | .len _ => (match a with
    | .sl xs _ => some (.int .i64 xs.length)
    | .ref _ _ n _ => some (.int .i64 n)
    | _ => none)
  | .slen _ => (match a with
    | .str s => some (.int .i64 s.length)
    | _ => none)
  | .faddr off _ => (match a with
    | .ptr i o => some (.ptr i (o + off))
    | .rp cs => some (.rp (cs.drop off))
    | _ => none)
  | .nilc _ => (match a with
    | .ptr i o => some (.ptr i o)
    | .rp cs => some (.rp cs)
    | .fn f c => some (.fn f c)
    | _ => none)
  | .iaddr sz _ _ => (match a, b with
    | .sl xs _, .int _ n => if 0 ≤ n ∧ n < xs.length then (match xs[n.toNat]? with
      | some y => if y.cells.length = sz then some (.rp y.cells) else none
      | none => none) else none
    | .ref id off len s, .int _ n => if 0 ≤ n ∧ n < len ∧ s = sz then some (.ptr id (off + n.toNat * sz)) else none
    | _, _ => none)
  | .ext _ i => (match a with
    | .tup vs => vs[i]?
    | _ => none)
  | _ => none

theorem XW_len {x : Opd} : XW F (.len x) ev h K ↔ bindK (valA (.len x) (ev x) .bad h) K h := by
  refine XW_val (fun _ => rfl) ?_
  simp only [evalA, valA]
  cases ev x <;> rfl
theorem XW_slen {x : Opd} : XW F (.slen x) ev h K ↔ bindK (valA (.slen x) (ev x) .bad h) K h := by
  refine XW_val (fun _ => rfl) ?_
  simp only [evalA, valA]
  cases ev x <;> rfl
theorem XW_faddr {x : Opd} {off : Nat} : XW F (.faddr off x) ev h K ↔ bindK (valA (.faddr off x) (ev x) .bad h) K h := by
  refine XW_val (fun _ => rfl) ?_
  simp only [evalA, valA]
  cases ev x <;> rfl
theorem XW_nilc {x : Opd} : XW F (.nilc x) ev h K ↔ bindK (valA (.nilc x) (ev x) .bad h) K h := by
  refine XW_val (fun _ => rfl) ?_
  simp only [evalA, valA]
  cases ev x <;> rfl
theorem XW_ext {x : Opd} {i : Nat} : XW F (.ext x i) ev h K ↔ bindK (valA (.ext x i) (ev x) .bad h) K h := by
  refine XW_val (fun _ => rfl) ?_
  simp only [evalA, valA]
  cases ev x <;> rfl
theorem XW_pick {c a b : Opd} : XW F (.pick c a b) ev h K ↔ condB (ev c) (fun t => K (if t then ev a else ev b) h) := by
  rw [XW_eval (fun _ => rfl)]; simp only [evalA]
  constructor
  · rintro ⟨r, h', e, q⟩
    split at e
    · rename_i t ht
      simp only [Option.some.injEq, Prod.mk.injEq] at e
      obtain ⟨rfl, rfl⟩ := e
      exact ⟨t, ht, q⟩
    · simp at e
  · rintro ⟨t, ht, q⟩
    exact ⟨_, _, by rw [ht], q⟩
theorem XW_alloc {ty sz : Nat} {ag : Bool} {z : List AVal} : XW F (.alloc ty sz ag z) ev h K ↔ (z.length = sz ∧ z.all AVal.one = true) ∧ K (.ptr h.next 0) (h.push (.row true (typed ty) ag z)) := by
  exact XW_heap (fun _ => rfl) rfl
theorem XW_box {sz : Nat} {ag : Bool} {x : Opd} : XW F (.box sz ag x) ev h K ↔ ((ev x).cells.length = sz ∧ (ev x).cells.all AVal.one = true) ∧ K (.ptr h.next 0) (h.push (.row true 0 ag (ev x).cells)) := by
  exact XW_heap (fun _ => rfl) rfl

theorem bin_lss (k : IntKind) (a b : Int) : binA .lss .arith (.int k a) (.int k b) = some (.bool (decide (a < b))) := by simp [binA, intBin]
theorem bin_leq (k : IntKind) (a b : Int) : binA .leq .arith (.int k a) (.int k b) = some (.bool (decide (a ≤ b))) := by simp [binA, intBin]
theorem bin_gtr (k : IntKind) (a b : Int) : binA .gtr .arith (.int k a) (.int k b) = some (.bool (decide (b < a))) := by simp [binA, intBin]
theorem bin_geq (k : IntKind) (a b : Int) : binA .geq .arith (.int k a) (.int k b) = some (.bool (decide (b ≤ a))) := by simp [binA, intBin]
theorem bin_eql (k : IntKind) (a b : Int) : binA .eql .arith (.int k a) (.int k b) = some (.bool (decide (a = b))) := by simp [binA, intBin]; by_cases e : a = b <;> simp [e]
theorem bin_neq (k : IntKind) (a b : Int) : binA .neq .arith (.int k a) (.int k b) = some (.bool (decide (a ≠ b))) := by simp [binA, intBin]; by_cases e : a = b <;> simp [e]
theorem bin_add (a b : Int) : binA .add .arith (.int .i64 a) (.int .i64 b) = some (.int .i64 (IntKind.i64.wrap (a + b))) := by simp [binA, intBin]
theorem bin_sub (a b : Int) : binA .sub .arith (.int .i64 a) (.int .i64 b) = some (.int .i64 (IntKind.i64.wrap (a - b))) := by simp [binA, intBin]
theorem bin_mul (a b : Int) : binA .mul .arith (.int .i64 a) (.int .i64 b) = some (.int .i64 (IntKind.i64.wrap (a * b))) := by simp [binA, intBin]
theorem bin_eql_s (a b : List UInt8) : binA .eql .arith (.str a) (.str b) = some (.bool (decide (a = b))) := by simp [binA, strBin]; by_cases e : a = b <;> simp [e]
theorem bin_neq_s (a b : List UInt8) : binA .neq .arith (.str a) (.str b) = some (.bool (decide (a ≠ b))) := by simp [binA, strBin]; by_cases e : a = b <;> simp [e]
theorem bin_rem (a b : Int) (hb : b ≠ 0) : binA .rem .arith (.int .i64 a) (.int .i64 b) = some (.int .i64 (a.tmod b)) := by simp [binA, intBin, hb]
theorem bin_quo (a b : Int) (hb : b ≠ 0) : binA .quo .arith (.int .i64 a) (.int .i64 b) = some (.int .i64 (IntKind.i64.wrap (a.tdiv b))) := by simp [binA, intBin, hb]
theorem un_neg (a : Int) : unA .neg (.int .i64 a) = some (.int .i64 (IntKind.i64.wrap (-a))) := by simp [unA]
theorem un_not (a : Bool) : unA .not (.bool a) = some (.bool (!a)) := _root_.id rfl
theorem load_rp (n : Nat) (ag : Bool) (cs : List AVal) (h : Heap) : loadA n ag (.rp cs) h = if n ≤ cs.length then mk ag (cs.take n) else none := _root_.id rfl
theorem load_top (n off s : Nat) (ag mu a : Bool) (cs : List AVal) (h : Heap) : loadA n ag (.ptr h.next off) (h.push (.row mu s a cs)) = if off + n ≤ cs.length then mk ag ((cs.drop off).take n) else none := by simp [loadA, get_push]
theorem store_top (n off s : Nat) (a : Bool) (cs : List AVal) (x : AVal) (h : Heap) : storeA n (.ptr h.next off) x (h.push (.row true s a cs)) = if x.cells.length = n ∧ off + n ≤ cs.length ∧ x.cells.all AVal.one then some (h.push (.row true s a (setCells cs off x.cells))) else none := by
  simp only [storeA, get_push, put_push]
theorem mk_f (c : AVal) : mk false [c] = some c := _root_.id rfl
theorem mk_t (cs : List AVal) : mk true cs = some (.agg cs) := _root_.id rfl
theorem len_sl (x : Opd) (xs : List AVal) (t : Tok) (h : Heap) (b : AVal) : valA (.len x) (.sl xs t) b h = some (.int .i64 xs.length) := _root_.id rfl
theorem len_ref (x : Opd) (id off n sz : Nat) (h : Heap) (b : AVal) : valA (.len x) (.ref id off n sz) b h = some (.int .i64 n) := _root_.id rfl
theorem slen_str (x : Opd) (s : List UInt8) (h : Heap) (b : AVal) : valA (.slen x) (.str s) b h = some (.int .i64 s.length) := _root_.id rfl
theorem faddr_rp (x : Opd) (off : Nat) (cs : List AVal) (h : Heap) (b : AVal) : valA (.faddr off x) (.rp cs) b h = some (.rp (cs.drop off)) := _root_.id rfl
theorem faddr_ptr (x : Opd) (off i o : Nat) (h : Heap) (b : AVal) : valA (.faddr off x) (.ptr i o) b h = some (.ptr i (o + off)) := _root_.id rfl
theorem nilc_ptr (x : Opd) (i o : Nat) (h : Heap) (b : AVal) : valA (.nilc x) (.ptr i o) b h = some (.ptr i o) := _root_.id rfl
theorem nilc_fn (x : Opd) (f : Nat) (c : List AVal) (h : Heap) (b : AVal) : valA (.nilc x) (.fn f c) b h = some (.fn f c) := _root_.id rfl
theorem ext_tup (x : Opd) (i : Nat) (vs : List AVal) (h : Heap) (b : AVal) : valA (.ext x i) (.tup vs) b h = vs[i]? := _root_.id rfl
theorem XW_iaddr {sz : Nat} {x i : Opd} : XW F (.iaddr sz x i) ev h K ↔ bindK (valA (.iaddr sz x i) (ev x) (ev i) h) K h := by
  refine XW_val (fun _ => rfl) ?_
  simp only [evalA, valA]
  cases ev x <;> cases ev i <;> first | rfl | skip
  · rename_i xs tk k n
    by_cases h0 : 0 ≤ n ∧ n < xs.length
    · simp only [h0, and_self, if_true]
      cases xs[n.toNat]? with
      | none => rfl
      | some y => by_cases h1 : y.cells.length = sz <;> simp [h1]
    · simp only [h0, if_false]; rfl
  · rename_i id off len s k n
    by_cases h0 : 0 ≤ n ∧ n < len ∧ s = sz
    · simp only [h0, and_self, if_true]; rfl
    · simp only [h0, if_false]; rfl
theorem iaddr_sl (x i : Opd) {sz : Nat} {xs : List AVal} {t : Tok} {k : IntKind} {n : Int} {y : AVal} (h : Heap) (h0 : 0 ≤ n) (hy : xs[n.toNat]? = some y) : valA (.iaddr sz x i) (.sl xs t) (.int k n) h = if y.cells.length = sz then some (.rp y.cells) else none := by
  have hlt := (List.getElem?_eq_some_iff.1 hy).1
  simp only [valA]; rw [if_pos ⟨h0, by omega⟩]; simp only [hy]
theorem iaddr_ref (x i : Opd) {sz id off len s : Nat} {k : IntKind} {n : Int} (h : Heap) (h0 : 0 ≤ n) (hy : n < len) : valA (.iaddr sz x i) (.ref id off len s) (.int k n) h = if s = sz then some (.ptr id (off + n.toNat * sz)) else none := by
  simp only [valA, h0, hy, true_and]

theorem stripL_nil : stripL [] = some [] := rfl
theorem stripL_cons (x : AVal) (xs : List AVal) {y : AVal} {ys : List AVal} (h1 : strip x = some y) (h2 : stripL xs = some ys) : stripL (x :: xs) = some (y :: ys) := by simp only [stripL, h1, h2]

/-- Stripping, so that the simplifier can go through. -/
def sc (o : Option AVal) (p : Option (List AVal)) : Option (List AVal) := match o, p with
  | some y, some ys => some (y :: ys)
  | _, _ => none
theorem stripL_sc (x : AVal) (xs : List AVal) : stripL (x :: xs) = sc (strip x) (stripL xs) := by
  rfl
theorem sc_some (y : AVal) (ys : List AVal) : sc (some y) (some ys) = some (y :: ys) := rfl
theorem sc_none (p : Option (List AVal)) : sc none p = none := rfl
theorem sc_none' (y : AVal) : sc (some y) none = none := rfl
theorem st_int (k : IntKind) (n : Int) : strip (.int k n) = some (.int k n) := rfl
theorem st_bool (b : Bool) : strip (.bool b) = some (.bool b) := rfl
theorem st_str (s : List UInt8) : strip (.str s) = some (.str s) := rfl
theorem st_none (xs : List AVal) : strip (.sl xs .none) = some (.sl xs .none) := rfl
theorem st_nil (xs : List AVal) : strip (.sl xs .nil) = some (.sl xs .nil) := rfl
theorem st_own (xs : List AVal) (id sz : Nat) : strip (.sl xs (.own id sz)) = some (.sl xs .none) := rfl
theorem st_ref (a b c d : Nat) : strip (.ref a b c d) = none := rfl
theorem st_agg (cs : List AVal) : strip (.agg cs) = (stripL cs).map .agg := by simp only [strip]
theorem map_some' (cs : List AVal) : (some cs).map AVal.agg = some (.agg cs) := rfl
theorem resA_one (i : Nat) (vs : List AVal) : resultsA [i] vs = (vs[i]?).getD .bad := rfl
theorem pu_int (h : Heap) (k : IntKind) (n : Int) : purify h (.int k n) = some (.int k n) := rfl
theorem pu_bool (h : Heap) (b : Bool) : purify h (.bool b) = some (.bool b) := rfl
theorem pu_str (h : Heap) (s : List UInt8) : purify h (.str s) = some (.str s) := rfl
theorem pu_none (h : Heap) (xs : List AVal) : purify h (.sl xs .none) = some (.sl xs .none) := rfl
theorem pu_nil (h : Heap) (xs : List AVal) : purify h (.sl xs .nil) = some (.sl xs .nil) := rfl
theorem pu_own (h : Heap) (xs : List AVal) (id sz : Nat) : purify h (.sl xs (.own id sz)) = some (.sl xs .none) := rfl

end Go.Abs
