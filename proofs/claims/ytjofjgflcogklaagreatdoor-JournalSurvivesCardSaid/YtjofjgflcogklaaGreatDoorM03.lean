/-
  Merged from AbsLaw AbsShape AbsRow AbsSW JsTab_Tryz: From a run of the abstract machine to a row: the law answers true, and each argument reads as it read.
-/
import Derived.Test.YtjofjgflcogklaaGreatDoorM02
import Derived.ProofKit
import Derived.Deep.Slices
import Derived.Test.YtjofjgflcogklaaGreatDoorProg
import Derived.KernelRfl
set_option linter.unusedSimpArgs false
set_option linter.unusedVariables false
set_option linter.defProp false
set_option linter.constructorNameAsVariable false
/-
  From a run of the abstract machine to a row: the law answers true, and each argument reads as it read.
-/
namespace Go.Abs
open Go.ChangeShapes Go.WideShapes Go.ChangeAt Go.RowKit
variable {P : Program} {H : Type} {enc : TypeId × Value → H} {E : Env}
def G0 (E : Env) : Ghost := ⟨0, fun _ => 0, fun _ => 0, fun _ => none, E⟩
theorem hrel0 (W : World) {E : Env} (hg : ∀ g cs, E.glob g = some cs → VRel W (G0 E) (.pointer (some ⟨g, 0, none⟩)) (.rp cs) ∧ ∀ c ∈ cs, strip c = some c) : HRel W (G0 E) Heap.empty :=
  ⟨rfl, fun id o h => by rw [Heap.get_empty] at h; simp at h, fun id o h => by rw [Heap.get_empty] at h; simp at h, fun i j oi oj h => by rw [Heap.get_empty] at h; simp at h, hg⟩
theorem stab0 {E : Env} (b k : Nat) : stab (G0 E) b k := fun m h => by simp [G0] at h
inductive Arg where
  | int (n : Int)
  | ints (l : List Int) (t : Tok)
def Arg.val : Arg → AVal
  | .int n => .int .i64 n
  | .ints l t => .sl (l.map (.int .i64)) t
def Arg.wf : Arg → Prop
  | .int n => -9223372036854775808 ≤ n ∧ n < 9223372036854775808
  | .ints l t => (t = .none ∨ t = .nil ∧ l = []) ∧ l.length ≤ maxLen ∧ ∀ n ∈ l, -9223372036854775808 ≤ n ∧ n < 9223372036854775808
theorem wf_i64 {n : Int} (h : (Lit.int .i64 n).wf = true) : -9223372036854775808 ≤ n ∧ n < 9223372036854775808 := by
  simp only [Lit.wf, Bool.and_eq_true, decide_eq_true_eq] at h
  have h1 : IntKind.i64.min = -9223372036854775808 := rfl
  have h2 : IntKind.i64.max = 9223372036854775807 := rfl
  omega
theorem flat_ints (l : List Int) : flat (l.map (AVal.int .i64)) = l.map (AVal.int .i64) := by
  induction l with
  | nil => rfl
  | cons x l ih => simp only [flat, List.map_cons, List.flatMap_cons, AVal.cells] at ih ⊢; rw [ih]; rfl
theorem arg_int {W : World} {t : TypeId} {v : Value} {d : DataW H} {ps : List MemPlace} {base : Nat} (ht : P.underlying t = some (.int .i64)) (hval : Value.okWide P W .any base t v) (hd : DataW.Trod enc P W 0 (fun _ => true) true t v d ps) :
    ∃ n, VRel W (G0 E) v (Arg.val (.int n)) ∧ (Arg.int n).wf := by
  obtain ⟨n, rfl, rfl, rfl, hw⟩ := open_int ht hval hd
  exact ⟨n, .int _ _, wf_i64 hw⟩
theorem arg_ints {W : World} {t e : TypeId} {v : Value} {d : DataW H} {ps : List MemPlace} {base : Nat} (ht : P.underlying t = some (.slice e)) (he : P.underlying e = some (.int .i64)) (hc : P.cellsOf e = 1) (hval : Value.okWide P W .any base t v) (hd : DataW.Trod enc P W 0 (fun _ => true) true t v d ps) :
    ∃ l tk, VRel W (G0 E) v (Arg.val (.ints l tk)) ∧ (Arg.ints l tk).wf := by
  obtain ⟨a0, len0, cap0, rfl⟩ := okWide_slice ht hval
  obtain ⟨fuel, hf⟩ := hd
  rcases open_ints ht he hc hf with ⟨h1, h2⟩ | ⟨a, len, cap, zs, h1, h2, h3, h4, h5, h6, h7, h8⟩
  · simp [Value.cells] at h1
    obtain ⟨rfl, rfl, rfl⟩ := h1
    exact ⟨[], .nil, .nilsl _ (.inl rfl), .inr ⟨rfl, rfl⟩, by simp, by simp⟩
  · simp [Value.cells] at h1
    obtain ⟨rfl, rfl, rfl⟩ := h1
    simp only [if_true] at h5
    simp only [Value.okWide, ht, Cell.okWide, Cell.ok] at hval
    obtain ⟨b, off, sp⟩ := a
    obtain rfl : sp = none := hval.2.2.2.1
    have hl : (zs.take len0).length = len0 := by rw [List.length_take]; omega
    refine ⟨zs.take len0, .none, ?_, .inl rfl, by omega, fun n hn => wf_i64 (h8 n (List.mem_of_mem_take hn))⟩
    have hfl := flat_ints (zs.take len0)
    have key : VRel W (G0 E) (.slice (some ⟨b, off, none⟩) ((zs.take len0).map (AVal.int .i64)).length cap0) (.sl ((zs.take len0).map (AVal.int .i64)) .none) := by
      refine .sl b off cap0 1 _ .none (fun k => .int .i64 (zs.getD k 0)) (fun x hx => ?_) (fun k c hk => ?_) (fun k c hk => ?_) (fun k hk => stab0 _ _) (fun c hc' => ?_) (fun c hc' => ?_) (by rw [List.length_map, hl]; exact h3) (by simp) (by simp)
      · simp only [List.mem_map] at hx
        obtain ⟨n, _, rfl⟩ := hx
        rfl
      · rw [hfl] at hk
        have hlt := (List.getElem?_eq_some_iff.1 hk).1
        rw [List.length_map, hl] at hlt
        have := h7 k (by omega)
        rw [Addr.add_lit] at this
        exact this
      · rw [hfl] at hk
        have hlt := (List.getElem?_eq_some_iff.1 hk).1
        rw [List.length_map, hl] at hlt
        simp only [List.getElem?_map, List.getElem?_take, hlt, if_true, Option.map_eq_some_iff] at hk
        obtain ⟨n, hn, rfl⟩ := hk
        rw [List.getD_eq_getElem?_getD, hn]
        exact .int _ _
      · rw [hfl] at hc'
        simp only [List.mem_map] at hc'
        obtain ⟨n, _, rfl⟩ := hc'
        rfl
      · rw [hfl] at hc'
        simp only [List.mem_map] at hc'
        obtain ⟨n, _, rfl⟩ := hc'
        rfl
    rw [List.length_map, hl] at key
    exact key
theorem Below.trodAll (hl : laidOutB P = true) {W W' : World} (hb : Below W.heap.size W W') : ∀ {ts : List TypeId} {vs : List Value} {ds : List (DataW H)} {ps : List MemPlace}, (∀ t ∈ ts, P.readableRec t = true ∧ t < P.types.size) →
    (∀ x ∈ ps, x.block < W.heap.size) → DataW.TrodAll enc P W 0 (fun _ => true) true ts vs ds ps → DataW.TrodAll enc P W' 0 (fun b => decide (b < W.heap.size)) true ts vs ds ps
  | [], [], [], _, _, _, h => h
  | t :: ts, v :: vs, d :: ds, ps, ht, hp, h => by
    obtain ⟨p, q, h1, h2, rfl⟩ := h
    exact ⟨p, q, RowKit.Below.trod hl (ht t (by simp)).1 (ht t (by simp)).2 h1 hb (fun x hx => hp x (by simp [hx])), Below.trodAll hl hb (fun t' h' => ht t' (by simp [h'])) (fun x hx => hp x (by simp [hx])) h2, rfl⟩
  | [], _ :: _, _, _, _, _, h => h.elim
  | [], [], _ :: _, _, _, _, h => h.elim
  | _ :: _, [], _, _, _, _, h => h.elim
  | _ :: _, _ :: _, [], _, _, _, h => h.elim
theorem law_post {f : Func} {s : ChangeSpec} {W W' : World} {args : Array Value} {ds gs : List (DataW H)} {before : List MemPlace} {tb : TypeId} (hl : laidOutB P = true) (hts : ∀ t ∈ f.params.toList, P.readableRec t = true ∧ t < P.types.size)
    (hv : s.vars = []) (hr : f.resultTypes = #[tb]) (hb : P.underlying tb = some .bool) (hW : DataW.Whole enc P f.params.toList s.vars false W args.toList ds gs before) (hB : Below W.heap.size W W')
    (hs : s.fn H (ds ++ gs) = { results := [.lit (.bool true)], args := ds }) : s.post enc P f false true false false W args (.bool true) W' := by
  have hlt := hW.lt
  have hW0 := hW
  obtain ⟨p, q, hA, hV, rfl, hfz, hnd⟩ := hW
  rw [hv] at hV
  have hq : q = [] := by
    match gs, hV with
    | [], h => exact h
  subst hq
  refine ⟨ds, gs, p ++ [], [], p, [], hW0, ?_, ?_, ?_, hB.frame _, fun h => by simp at h⟩
  · rw [hr, hs]
    exact ⟨[], [], RowKit.shut_bool hb true, rfl, rfl⟩
  · rw [hs]
    exact Below.trodAll hl hB hts (fun x hx => hlt x (by simp [hx])) hA
  · rw [hv, hs]
    rfl
theorem law_calls {F : Nat → Option AEnt} {Hh : Hints} (hmix : P.follows .mixedOrders = true) (hT : Table P Hh F) {g : Nat} {W : World} {cargs : Array Value} {args : List Arg} (hgl : ∀ g cs, Hh.glob g = some cs → VRel W (G0 (envOf P Hh)) (.pointer (some ⟨g, 0, none⟩)) (.rp cs) ∧ ∀ c ∈ cs, strip c = some c) (hp : Pts W (G0 (envOf P Hh)) cargs (args.map Arg.val)) {h' : Heap}
    (c : Gives F g (args.map Arg.val) Heap.empty (.bool true) h') : Calls P g cargs W fun e W' => e = .returned (.bool true) ∧ Below W.heap.size W W' := by
  obtain ⟨n, hn⟩ := gives_run c
  refine (sound hmix hT hn W (G0 (envOf P Hh)) cargs rfl (hrel0 W hgl) hp).mono ?_
  rintro e W' ⟨v, G', rfl, hX, hH, hV⟩
  cases hV with
  | bool =>
    refine ⟨rfl, hX.os, hX.tape, hX.out, hX.size, fun k hk => (hX.keep k hk ?_).1⟩
    rintro ⟨id, o, h1, _⟩
    rw [Heap.get_empty] at h1
    simp at h1
end Go.Abs

namespace Go.Abs
open Go.ChangeShapes Go.WideShapes Go.ChangeAt Go.RowKit Go.Deep
def shapeOk (P : Program) : Nat → TypeId → Bool
  | 0, _ => false
  | n + 1, t => match P.underlying t with
    | some .bool | some (.int _) | some .string => P.cellsOf t == 1
    | some (.slice e) => P.cellsOf t == 1 && decide (0 < P.cellsOf e) && shapeOk P n e
    | some (.struct fs) => P.cellsOf t == fs.size && (List.range fs.size).all fun i => match fs[i]? with
      | some f => f.offset == i && P.cellsOf f.type == 1 && shapeOk P n f.type
      | none => false
    | _ => false
def isSt (P : Program) (t : TypeId) : Bool := match P.underlying t with
  | some (.struct _) => true
  | _ => false
def okA (P : Program) : Nat → TypeId → List AVal → Prop
  | 0, _, _ => False
  | n + 1, t, asx => match P.underlying t with
    | some .bool => ∃ b, asx = [.bool b]
    | some (.int k) => ∃ z, asx = [.int k z] ∧ (Lit.int k z).wf = true
    | some .string => ∃ s, asx = [.str s] ∧ s.length ≤ maxLen
    | some (.slice e) => ∃ xs tk, asx = [.sl xs tk] ∧ (tk = .none ∨ tk = .nil ∧ xs = []) ∧ xs.length ≤ maxLen ∧ ∀ x ∈ xs, mk (isSt P e) x.cells = some x ∧ okA P n e x.cells
    | some (.struct fs) => asx.length = fs.size ∧ ∀ (i : Nat) (f : Field), fs[i]? = some f → ∃ y, asx[i]? = some y ∧ okA P n f.type [y]
    | _ => False
variable {P : Program} {H : Type} {enc : TypeId × Value → H} {W : World} {E : Env}
theorem flat_find {sz : Nat} : ∀ {xs : List AVal}, (∀ x ∈ xs, x.cells.length = sz) → ∀ {k : Nat} {c : AVal}, (flat xs)[k]? = some c → ∃ (i j : Nat) (x : AVal), xs[i]? = some x ∧ x.cells[j]? = some c ∧ k = i * sz + j ∧ j < sz
  | [], _, k, c, h => by simp [flat] at h
  | x :: xs, h0, k, c, h => by
    have hx := h0 x (by simp)
    have hf : flat (x :: xs) = x.cells ++ flat xs := rfl
    rw [hf] at h
    by_cases hk : k < x.cells.length
    · rw [List.getElem?_append_left hk] at h
      exact ⟨0, k, x, rfl, h, by omega, by omega⟩
    · rw [List.getElem?_append_right (by omega)] at h
      obtain ⟨i, j, y, h1, h2, h3, h4⟩ := flat_find (fun y hy => h0 y (by simp [hy])) h
      exact ⟨i + 1, j, y, by simpa using h1, h2, by rw [Nat.add_mul]; omega, h4⟩
theorem pts1 {G : Ghost} {c : Value} {a : AVal} (h : VRel W G c a) : Pts W G #[c] [a] := ⟨rfl, fun k c' a' h1 h2 => by
  match k with
  | 0 => simp at h1 h2; subst h1; subst h2; exact h
  | k + 1 => simp at h2⟩
theorem cells_of_mk {ag : Bool} {cs : List AVal} {x : AVal} (h : mk ag cs = some x) (h1 : ∀ c ∈ cs, c.one = true) : x.cells = cs := by
  unfold mk at h
  split at h
  · simp at h; subst h; rfl
  · split at h
    · rename_i c
      simp at h; subst h
      have := h1 c (by simp)
      cases c <;> simp [AVal.one] at this <;> rfl
    · simp at h
theorem trod_cells : ∀ (n : Nat) {fuel : Nat} {t : TypeId} {cs : List Value} {x : DataW H × List MemPlace}, shapeOk P n t = true → DataW.trod enc P W 0 (fun _ => true) true fuel t cs = some x →
    ∃ asx, Pts W (G0 E) ⟨cs⟩ asx ∧ okA P n t asx ∧ (∀ a ∈ asx, a.one = true) ∧ (∀ a ∈ asx, strip a = some a) ∧ cs.length = P.cellsOf t ∧ (isSt P t = false → asx.length = 1)
  | 0, fuel, t, cs, x, hs, h => by simp [shapeOk] at hs
  | n + 1, fuel, t, cs, x, hs, h => by
    simp only [shapeOk] at hs
    split at hs
    · -- a bool
      rename_i hu
      cases fuel with
      | zero => simp [DataW.trod] at h
      | succ fuel =>
        unfold DataW.trod at h
        rw [hu] at h
        split at h <;> simp_all
        rename_i b
        exact ⟨[.bool b], pts1 (.bool b), by simp [okA, hu], by simp [AVal.one], by simp [strip], fun _ => rfl⟩
    · -- an int
      rename_i k hu
      cases fuel with
      | zero => simp [DataW.trod] at h
      | succ fuel =>
        unfold DataW.trod at h
        rw [hu] at h
        split at h <;> simp_all
        rename_i z _
        obtain ⟨⟨h1, h2⟩, _⟩ := h
        subst h1
        exact ⟨[.int _ z], pts1 (.int _ z), by simp [okA, hu, h2], by simp [AVal.one], by simp [strip], fun _ => rfl⟩
    · -- a string
      rename_i hu
      cases fuel with
      | zero => simp [DataW.trod] at h
      | succ fuel =>
        unfold DataW.trod at h
        rw [hu] at h
        split at h <;> simp_all
        rename_i s
        exact ⟨[.str s.data.toList], pts1 (.str s), by simp only [okA, hu]; exact ⟨_, rfl, by simpa using h.1⟩, by simp [AVal.one], by simp [strip], fun _ => rfl⟩
    · -- a slice
      rename_i e hu
      simp only [Bool.and_eq_true, beq_iff_eq, decide_eq_true_eq] at hs
      obtain ⟨⟨hc1, hpos⟩, hse⟩ := hs
      have hst : isSt P t = false := by simp [isSt, hu]
      rcases open_slice hu h with ⟨rfl, _⟩ | ⟨a, len, cap, m, f, D, Pl, rfl, _, hlc, hcm, hm, _, hel⟩
      · refine ⟨[.sl [] .nil], pts1 (.nilsl _ (.inl rfl)), ?_, by simp [AVal.one], by simp [strip], by simp [hc1], by simp⟩
        simp only [okA, hu]
        exact ⟨[], .nil, rfl, .inr ⟨rfl, rfl⟩, by simp, by simp⟩
      · simp only [if_true] at hm
        subst hm
        have hcells : ∀ i, i < m → ∃ xc : AVal × List AVal, mk (isSt P e) xc.1.cells = some xc.1 ∧ okA P n e xc.1.cells ∧ (∀ a ∈ xc.1.cells, a.one = true) ∧ (∀ a ∈ xc.1.cells, strip a = some a) ∧ xc.1.cells.length = P.cellsOf e ∧
            ∀ j c, xc.1.cells[j]? = some c → ∃ u, W.cell? ((a.add (i * P.cellsOf e)).add j) = some u ∧ VRel W (G0 E) u c := by
          intro i hi
          obtain ⟨cs', h1, h2⟩ := hel i hi
          obtain ⟨asx, p1, p2, p3, p4, p5, p6⟩ := trod_cells n hse h2
          obtain ⟨_, q1, q2⟩ := World.cells?_some h1
          have hlen : asx.length = P.cellsOf e := by rw [← p1.len]; simpa using q1
          obtain ⟨x, hx⟩ : ∃ x, mk (isSt P e) asx = some x := by
            unfold mk
            cases hst : isSt P e with
            | true => exact ⟨_, rfl⟩
            | false =>
              have := p6 hst
              match asx, this with
              | [y], _ => exact ⟨y, rfl⟩
          have hxc := cells_of_mk hx p3
          refine ⟨(x, []), ?_⟩
          simp only [hxc]
          refine ⟨hx, p2, p3, p4, hlen, fun j c hj => ?_⟩
          have hjl : j < P.cellsOf e := by rw [← hlen]; exact (List.getElem?_eq_some_iff.1 hj).1
          obtain ⟨u, hu'⟩ : ∃ u, cs'[j]? = some u := ⟨_, List.getElem?_eq_getElem (by omega)⟩
          exact ⟨u, by rw [q2 j hjl, hu'], p1.rel j u c (by simpa using hu') hj⟩
        obtain ⟨A, hA⟩ := choose_lt (α := AVal × List AVal) hcells
        have hok : ∀ x ∈ (List.range len).map (fun i => (A i).1), mk (isSt P e) x.cells = some x ∧ okA P n e x.cells := by
          intro x hx
          obtain ⟨i, hi, rfl⟩ := List.mem_map.1 hx
          have := hA i (by have := List.mem_range.1 hi; omega)
          exact ⟨this.1, this.2.1⟩
        by_cases hcap : m = 0
        · have hl0 : len = 0 := by omega
          subst hl0; subst hcap
          refine ⟨[.sl [] .none], pts1 (.emp a .none (.inl rfl)), ?_, by simp [AVal.one], by simp [strip], by simp [hc1], by simp⟩
          simp only [okA, hu]
          exact ⟨[], .none, rfl, .inl rfl, by simp, by simp⟩
        · -- the place is one of cells
          have hspot : a.spot = none := by
            obtain ⟨_, _, _, _, hl, hc⟩ := hA 0 (by omega)
            obtain ⟨c, hc'⟩ : ∃ c, (A 0).1.cells[0]? = some c := ⟨_, List.getElem?_eq_getElem (by omega)⟩
            obtain ⟨u, hu', _⟩ := hc 0 c hc'
            rw [Nat.zero_mul] at hu'
            have : (a.add 0).add 0 = a := by simp [Addr.add]
            rw [this] at hu'
            unfold World.cell? at hu'
            split at hu'
            · split at hu'
              · simp at hu'
              · rename_i q; simpa using q
            · simp at hu'
          obtain ⟨b, off, sp⟩ := a
          simp only at hspot
          subst hspot
          have hsz : ∀ x ∈ (List.range len).map (fun i => (A i).1), x.cells.length = P.cellsOf e := by
            intro x hx
            obtain ⟨i, hi, rfl⟩ := List.mem_map.1 hx
            exact (hA i (by have := List.mem_range.1 hi; omega)).2.2.2.2.1
          have hfind : ∀ (k : Nat) (c : AVal), (flat ((List.range len).map (fun i => (A i).1)))[k]? = some c → (∃ u, W.cell? ⟨b, off + k, none⟩ = some u ∧ VRel W (G0 E) u c) ∧ c.one = true ∧ strip c = some c := by
            intro k c hk
            obtain ⟨i, j, x, h1, h2, h3, h4⟩ := flat_find hsz hk
            rw [List.getElem?_map, Option.map_eq_some_iff] at h1
            obtain ⟨i', h1, rfl⟩ := h1
            have hi' : i = i' := by
              have := List.getElem?_eq_some_iff.1 h1
              obtain ⟨_, h⟩ := this
              simpa using h
            subst hi'
            have hil : i < len := by have := (List.getElem?_eq_some_iff.1 h1).1; simpa using this
            obtain ⟨a1, a2, a3, a4, a5, a6⟩ := hA i (by omega)
            obtain ⟨u, hu1, hu2⟩ := a6 j c h2
            have hmem : c ∈ (A i).1.cells := List.mem_of_getElem? h2
            refine ⟨⟨u, ?_, hu2⟩, a3 c hmem, a4 c hmem⟩
            rw [h3, ← hu1, Addr.add_lit, Addr.add_lit, Nat.add_assoc]
          refine ⟨[.sl ((List.range len).map (fun i => (A i).1)) .none], pts1 ?_, ?_, by simp [AVal.one], by simp [strip], by simp [hc1], by simp⟩
          · have hll : ((List.range len).map (fun i => (A i).1)).length = len := by simp
            have key : VRel W (G0 E) (.slice (some ⟨b, off, none⟩) ((List.range len).map (fun i => (A i).1)).length m) (.sl ((List.range len).map (fun i => (A i).1)) .none) := by
              refine .sl b off m (P.cellsOf e) _ .none (fun k => (W.cell? ⟨b, off + k, none⟩).getD (.bool false)) hsz (fun k c hk => ?_) (fun k c hk => ?_) (fun k hk => stab0 _ _) (fun c hc' => ?_) (fun c hc' => ?_) (by rw [hll]; exact hlc) (by simp) (by simp)
              · obtain ⟨⟨u, q1, q2⟩, _⟩ := hfind k c hk
                simp [q1]
              · obtain ⟨⟨u, q1, q2⟩, _⟩ := hfind k c hk
                simp [q1]; exact q2
              · obtain ⟨k, hk⟩ := List.getElem?_of_mem hc'
                exact (hfind k c hk).2.1
              · obtain ⟨k, hk⟩ := List.getElem?_of_mem hc'
                exact (hfind k c hk).2.2
            rwa [hll] at key
          · simp only [okA, hu]
            exact ⟨_, .none, rfl, .inl rfl, by simp; omega, hok⟩
    · -- a struct
      rename_i fs hu
      simp only [Bool.and_eq_true, beq_iff_eq, List.all_eq_true, List.mem_range] at hs
      obtain ⟨hc1, hfs⟩ := hs
      obtain ⟨xs, f, _, _, hl, hxl, hel⟩ := DataW.trod_struct hu h
      have hfield : ∀ i, i < fs.size → ∃ y : AVal, (∃ c, cs[i]? = some c ∧ VRel W (G0 E) c y) ∧ (∀ fd, fs[i]? = some fd → okA P n fd.type [y]) ∧ y.one = true ∧ strip y = some y := by
        intro i hi
        have hfi := hfs i hi
        obtain ⟨fd, hfd⟩ : ∃ fd, fs[i]? = some fd := ⟨_, Array.getElem?_eq_getElem hi⟩
        rw [hfd] at hfi
        simp only [Bool.and_eq_true, beq_iff_eq] at hfi
        obtain ⟨⟨f1, f2⟩, f3⟩ := hfi
        have hh := hel i fd hfd
        rw [f1, f2] at hh
        obtain ⟨c, hc⟩ : ∃ c, cs[i]? = some c := ⟨_, List.getElem?_eq_getElem (by omega)⟩
        have hcs : (cs.drop i).take 1 = [c] := by
          rw [List.take_one, List.head?_drop, hc]; rfl
        rw [hcs] at hh
        obtain ⟨y, hy⟩ : ∃ y, xs[i]? = some y := ⟨_, List.getElem?_eq_getElem (by omega)⟩
        rw [hy] at hh
        obtain ⟨asx, p1, p2, p3, p4, p5, p6⟩ := trod_cells n f3 hh
        have hl1 : asx.length = 1 := by rw [← p1.len]; rfl
        match asx, hl1 with
        | [y], _ =>
          refine ⟨y, ⟨c, hc, p1.rel 0 c y rfl rfl⟩, fun fd' hfd' => ?_, p3 y (by simp), p4 y (by simp)⟩
          rw [hfd] at hfd'
          obtain rfl := Option.some.inj hfd'
          exact p2
      obtain ⟨A, hA⟩ := choose_lt (α := AVal) hfield
      have hlen : cs.length = fs.size := by rw [hl, hc1]
      refine ⟨(List.range fs.size).map A, ⟨by simp [hlen], fun k c a h1 h2 => ?_⟩, ?_, fun a ha => ?_, fun a ha => ?_, hl, fun q => by simp [isSt, hu] at q⟩
      · rw [List.getElem?_map, Option.map_eq_some_iff] at h2
        obtain ⟨k', h2, rfl⟩ := h2
        obtain ⟨hk1, hk2⟩ := List.getElem?_eq_some_iff.1 h2
        simp at hk1 hk2
        subst hk2
        obtain ⟨⟨c', q1, q2⟩, _⟩ := hA k hk1
        have : c' = c := by
          have h1' : cs[k]? = some c := by simpa using h1
          rw [h1'] at q1; exact (Option.some.inj q1).symm
        subst this
        exact q2
      · simp only [okA, hu]
        refine ⟨by simp, fun i fd hfd => ?_⟩
        have hi : i < fs.size := (Array.getElem?_eq_some_iff.1 hfd).1
        exact ⟨A i, by simp [hi], (hA i hi).2.1 fd hfd⟩
      · obtain ⟨i, hi, rfl⟩ := List.mem_map.1 ha
        exact (hA i (by simpa using hi)).2.2.1
      · obtain ⟨i, hi, rfl⟩ := List.mem_map.1 ha
        exact (hA i (by simpa using hi)).2.2.2
    · simp at hs
theorem arg_shape (n : Nat) {t : TypeId} {v : Value} {d : DataW H} {ps : List MemPlace} {base : Nat} (hs : shapeOk P n t = true) (hval : Value.okWide P W .any base t v) (hd : DataW.Trod enc P W 0 (fun _ => true) true t v d ps) :
    ∃ x, VRel W (G0 E) v x ∧ mk (isSt P t) x.cells = some x ∧ okA P n t x.cells := by
  obtain ⟨fuel, hf⟩ := hd
  obtain ⟨asx, p1, p2, p3, p4, p5, p6⟩ := trod_cells n hs hf
  cases hst : isSt P t with
  | true =>
    refine ⟨.agg asx, ?_, rfl, p2⟩
    unfold isSt at hst
    split at hst
    · rename_i fs hu
      simp only [Value.okWide, hu] at hval
      obtain ⟨cs, rfl, _⟩ := hval
      exact .agg _ _ p1.len p1.rel p3
    · simp at hst
  | false =>
    have hl := p6 hst
    match asx, hl with
    | [y], _ =>
      have hc : y.cells = [y] := by
        have := p3 y (by simp)
        cases y <;> simp [AVal.one] at this <;> rfl
      refine ⟨y, ?_, by rw [hc]; rfl, by rw [hc]; exact p2⟩
      have hv : v.cells = #[v] := by
        cases v <;> first | rfl | skip
        rename_i cs
        cases n with
        | zero => simp [shapeOk] at hs
        | succ n =>
          simp only [shapeOk] at hs
          split at hs
          all_goals first
            | (simp at hs; done)
            | (rename_i hu; simp [isSt, hu] at hst; done)
            | (rename_i hu; simp [Value.okWide, Cell.okWide, Cell.ok, hu] at hval; done)
      have hr := p1.rel 0 v y (by simp [hv]) rfl
      exact hr
end Go.Abs

namespace Go.Abs
open Go.ChangeShapes Go.WideShapes Go.ChangeAt Go.RowKit Go.Deep
inductive ShArgs (P : Program) (n : Nat) : List TypeId → List AVal → Prop
  | nil : ShArgs P n [] []
  | cons {t : TypeId} {x : AVal} {ts : List TypeId} {xs : List AVal} (h1 : mk (isSt P t) x.cells = some x) (h2 : okA P n t x.cells) (h3 : ShArgs P n ts xs) : ShArgs P n (t :: ts) (x :: xs)
variable {P : Program} {H : Type} {enc : TypeId × Value → H} {W : World} {E : Env}
theorem pts_cons {v : Value} {vs : List Value} {x : AVal} {xs : List AVal} (h1 : VRel W (G0 E) v x) (h2 : Pts W (G0 E) ⟨vs⟩ xs) : Pts W (G0 E) ⟨v :: vs⟩ (x :: xs) := by
  refine ⟨by have := h2.1; simpa using this, fun k c a hc ha => ?_⟩
  cases k with
  | zero => simp at hc ha; subst hc; subst ha; exact h1
  | succ k => exact h2.2 k c a (by simpa using hc) (by simpa using ha)
theorem sh_args {n base : Nat} : ∀ {ts : List TypeId} {vs : List Value} {ds : List (DataW H)} {p : List MemPlace}, (∀ t ∈ ts, shapeOk P n t = true) → (∀ (j : Nat) t v, ts[j]? = some t → vs[j]? = some v → Value.okWide P W .any base t v) →
    DataW.TrodAll enc P W 0 (fun _ => true) true ts vs ds p → ∃ xs, ShArgs P n ts xs ∧ Pts W (G0 E) ⟨vs⟩ xs ∧ ds.length = ts.length
  | [], [], [], _, _, _, _ => ⟨[], .nil, ⟨rfl, fun k c a hc _ => by simp at hc⟩, rfl⟩
  | t :: ts, v :: vs, d :: ds, p, hs, hv, h => by
    obtain ⟨p0, q0, h1, h2, _⟩ := h
    obtain ⟨x, r1, r2, r3⟩ := arg_shape n (hs t (by simp)) (hv 0 t v rfl rfl) h1
    obtain ⟨xs, r4, r5, r6⟩ := sh_args (fun t' h' => hs t' (by simp [h'])) (fun j t' v' q1 q2 => hv (j + 1) t' v' (by simpa using q1) (by simpa using q2)) h2
    exact ⟨x :: xs, .cons r2 r3 r4, pts_cons r1 r5, by simp [r6]⟩
  | [], _ :: _, _, _, _, _, h => h.elim
  | [], [], _ :: _, _, _, _, h => h.elim
  | _ :: _, [], _, _, _, _, h => h.elim
  | _ :: _, _ :: _, [], _, _, _, h => h.elim
theorem law_callsA {F : Nat → Option AEnt} {Hh : Hints} (hmix : P.follows .mixedOrders = true) (hT : Table P Hh F) {g : Nat} {cargs : Array Value} {args : List AVal} (hgl : ∀ g cs, Hh.glob g = some cs → VRel W (G0 (envOf P Hh)) (.pointer (some ⟨g, 0, none⟩)) (.rp cs) ∧ ∀ c ∈ cs, strip c = some c) (hp : Pts W (G0 (envOf P Hh)) cargs args) {h' : Heap}
    (c : Gives F g args Heap.empty (.bool true) h') : Calls P g cargs W fun e W' => e = .returned (.bool true) ∧ Below W.heap.size W W' := by
  obtain ⟨n, hn⟩ := gives_run c
  refine (sound hmix hT hn W (G0 (envOf P Hh)) cargs rfl (hrel0 W hgl) hp).mono ?_
  rintro e W' ⟨v, G', rfl, hX, hH, hV⟩
  cases hV with
  | bool =>
    refine ⟨rfl, hX.os, hX.tape, hX.out, hX.size, fun k hk => (hX.keep k hk ?_).1⟩
    rintro ⟨id, o, h1, _⟩
    rw [Heap.get_empty] at h1
    simp at h1
theorem row_calls {F : Nat → Option AEnt} {Hh : Hints} (hgl : ∀ g cs, Hh.glob g = some cs → VRel W (G0 (envOf P Hh)) (.pointer (some ⟨g, 0, none⟩)) (.rp cs) ∧ ∀ c ∈ cs, strip c = some c) (hmix : P.follows .mixedOrders = true) (hT : Table P Hh F) (hl : laidOutB P = true) {g n : Nat} {f : Func} {ts : List TypeId} {tb : TypeId} {s : ChangeSpec}
    (hp : f.params.toList = ts) (hts : ∀ t ∈ ts, P.readableRec t = true ∧ t < P.types.size) (hsh : ∀ t ∈ ts, shapeOk P n t = true) (hr : f.resultTypes = #[tb]) (hb : P.underlying tb = some .bool) (hv : s.vars = [])
    (hs : ∀ (H : Type) (ds : List (DataW H)), ds.length = ts.length → s.fn H ds = { results := [.lit (.bool true)], args := ds })
    (hg : ∀ xs, ShArgs P n ts xs → ∃ h', Gives F g xs Heap.empty (.bool true) h')
    (base : Nat) (args : Array Value) (ds gs : List (DataW H)) (before : List MemPlace) (hval : ∀ (j : Nat) t v, f.params[j]? = some t → args[j]? = some v → Value.okWide P W .any base t v)
    (hW : DataW.Whole enc P f.params.toList s.vars false W args.toList ds gs before) :
    Calls P g args W fun e W' => ∃ v, e = .returned v ∧ s.post enc P f false true false false W args v W' := by
  have hW' := hW
  obtain ⟨p, q, hA, hV, hpq, hfz, hnd⟩ := hW
  rw [hp] at hA
  obtain ⟨lst⟩ := args
  obtain ⟨xs, r1, r2, r3⟩ := sh_args hsh (fun j t v q1 q2 => hval j t v (by rw [← hp] at q1; simpa using q1) (by simpa using q2)) hA
  obtain ⟨h', hh⟩ := hg xs r1
  refine (law_callsA hmix hT hgl r2 hh).mono ?_
  rintro e W' ⟨rfl, hB⟩
  refine ⟨_, rfl, law_post hl (by rw [hp]; exact hts) hv hr hb hW' hB ?_⟩
  rw [hv] at hV
  match gs, hV with
  | [], _ => rw [List.append_nil]; exact hs H ds r3
end Go.Abs

namespace Go.Abs
def seqL : Code → Code
  | .seq a _ => a
  | c => c
def seqR : Code → Code
  | .seq _ b => b
  | c => c
def bodyOf (P : Program) (g : Nat) : Code := ((P.funcs[g]?).bind (·.body)).getD .skip
def regOps : Code → Array Oper
  | .region _ ops _ => ops
  | _ => #[]
def regId : Code → Nat
  | .region id _ _ => id
  | _ => 0
variable {P : Program} {Hh : Hints} {F : Nat → Option AEnt}
def SW (P : Program) (Hh : Hints) (nt : Nat) (slots : List Nat) (c : Code) (vs : List AVal) (h : Heap) (Q : AExit → List AVal → Heap → Prop) : Prop :=
  ∀ (m : Nat) (a : Act) (w : World) (G : Ghost) (Qm : Exit → Act → World → Prop), G.env = envOf P Hh → CRel w G a nt slots vs h →
    (∀ e vs' h' a' w' G', Q e vs' h' → Ext w G h w' G' h' → CRel w' G' a' nt slots vs' h' → Marks w a.defers w' G' h' a'.defers → Qm (exitOf e) a' w') → c.wpIn (rF none) m P Qm a w
theorem SW.of_wp (hmix : P.follows .mixedOrders = true) (hT : Table P Hh F) {fid nt : Nat} {slots : List Nat} (hnd : slots.Nodup) {top : Bool} {k : Nat} {c : Code} (hs : top = true → SitesOk P fid nt k c) {vs : List AVal} {h : Heap} {Q : AExit → List AVal → Heap → Prop}
    (w0 : WP F (compCode P Hh fid nt slots top k c) vs h Q) : SW P Hh nt slots c vs h Q := by
  intro m a w G Qm hE hC hQ
  unfold WP at w0
  obtain ⟨n, e, vs', h', hr, hq⟩ := w0
  exact (all_ok hmix hT n).1 none m top fid nt slots k c vs h e vs' h' a w G Qm hnd (fun q => ⟨rfl, hs q⟩) hE hr hC (fun a' w' G' hX hC' hM => hQ e vs' h' a' w' G' hq hX hC' hM)
theorem SW.seq {nt : Nat} {slots : List Nat} {x y : Code} {vs : List AVal} {h : Heap} {Q : AExit → List AVal → Heap → Prop}
    (a0 : SW P Hh nt slots x vs h (fun e vs' h' => match e with
      | .normal => SW P Hh nt slots y vs' h' Q
      | e => Q e vs' h')) : SW P Hh nt slots (.seq x y) vs h Q := by
  intro m a w G Qm hE hC hQ
  refine wpIn_seq (a0 m a w G _ hE hC fun e vs' h' a' w' G' hq hX hC' hM => ?_)
  cases e with
  | normal => exact hq m a' w' G' Qm (hX.env.trans hE) hC' fun e2 vs2 h2 a2 w2 G2 hq2 hX2 hC2 hM2 => hQ e2 vs2 h2 a2 w2 G2 hq2 (hX.trans hX2) hC2 (hM.trans hX.size hX2 hM2)
  | exit i => exact hQ _ vs' h' a' w' G' hq hX hC' hM
  | ret => exact hQ _ vs' h' a' w' G' hq hX hC' hM
theorem cfOf_ok (hmix : P.follows .mixedOrders = true) (hT : Table P Hh F) (n : Nat) : CfOk P Hh (cfOf F n) := by
  have ih := all_ok hmix hT n
  refine ⟨fun g args h0 r h1 hc => ?_, fun id args h0 r h1 hc => ?_⟩
  · simp only [cfOf, tsk, Bool.false_eq_true, if_false] at hc
    cases hrun : run F n (.call g args h0) with
    | none => rw [hrun] at hc; simp at hc
    | some res =>
      rw [hrun] at hc
      cases res with
      | code _ _ _ => simp [Res.asVal] at hc
      | val r1 h2 =>
        simp only [Option.bind_some, Res.asVal, Option.some.injEq, Prod.mk.injEq] at hc
        obtain ⟨rfl, rfl⟩ := hc
        refine ⟨ih.2.1 g args h0 _ _ hrun, fun cargs w => ?_, fun hg => ?_⟩
        · cases n with
          | zero => simp [run] at hrun
          | succ n =>
            simp only [run] at hrun
            split at hrun
            · simp at hrun
            · rename_i s hs; exact (hT.hand hs).2 cargs w
            · rename_i af haf; exact callFunc_enter (hT.comp haf) cargs w
        · cases n with
          | zero => simp [run] at hrun
          | succ n =>
            simp only [run] at hrun
            split at hrun
            · simp at hrun
            · rename_i s hs
              have hq := hT g
              rw [hs] at hq
              simp only [Option.map_eq_some_iff] at hrun
              obtain ⟨p, hp, he⟩ := hrun
              simp only [Res.val.injEq] at he
              obtain ⟨rfl, rfl⟩ := he
              exact hq.2 hg _ _ _ _ hp
            · rename_i af haf
              have hq := hT g
              rw [haf] at hq
              rw [hq.2] at hg; simp at hg
  · simp only [cfOf, tsk, if_true] at hc
    cases hrun : run F n (.yield id args h0) with
    | none => rw [hrun] at hc; simp at hc
    | some res =>
      rw [hrun] at hc
      cases res with
      | code _ _ _ => simp [Res.asVal] at hc
      | val r1 h2 =>
        simp only [Option.bind_some, Res.asVal, Option.some.injEq, Prod.mk.injEq] at hc
        obtain ⟨rfl, rfl⟩ := hc
        exact ih.2.2 id args h0 _ _ hrun
theorem SW.region (hmix : P.follows .mixedOrders = true) (hT : Table P Hh F) {fid nt : Nat} {slots : List Nat} (hnd : slots.Nodup) {id : Nat} {ops : Array Oper} {asx : List AOper} (hc : compOpers P Hh fid slots ops.toList ops.toList 0 = some asx) (hd : dstsOk nt slots ops.toList = true)
    {pairs : List (Nat × Nat)} {reps : List (List Nat)} (hr : repsOk Hh ops.toList asx pairs reps = true) {vs : List AVal} {h : Heap} {Q : AExit → List AVal → Heap → Prop}
    (hw : ∀ r ∈ reps, ∃ l, renOpers r asx r = some l ∧ WP F (.ops l) vs h Q) : SW P Hh nt slots (.region id ops true) vs h Q := by
  intro m a w G Qm hE hC hQ
  have hl : asx.length = ops.size := by have := (compOpers_get hc).1; simpa using this
  refine wpIn_region_draw fun t => ?_
  rw [hmix]
  -- all the walks, on one measure of fuel
  have hfu : ∀ n, ∀ g args h r h', Hh.grow g = true → cfOf F n false g args h = some (r, h') → TokExt h h' := fun n g args h r h' hg e => ((cfOf_ok hmix hT n).1 g args h r h' e).2.2 hg
  have hall : ∀ rs : List (List Nat), (∀ r ∈ rs, r ∈ reps) → ∃ n, ∀ r ∈ rs, ∃ s', foldI (cfOf F n) asx r ⟨vs, List.replicate asx.length .bad, h⟩ = some s' ∧ Q .normal s'.vs s'.h := by
    intro rs
    induction rs with
    | nil => intro _; exact ⟨0, by simp⟩
    | cons r rs ih =>
      intro hrs
      obtain ⟨n1, h1⟩ := ih (fun x hx => hrs x (by simp [hx]))
      obtain ⟨l, hren, hwp⟩ := hw r (hrs r (by simp))
      unfold WP at hwp
      obtain ⟨n2, e, vs', h', hrun, hq⟩ := hwp
      cases n2 with
      | zero => simp [run] at hrun
      | succ n2 =>
        rw [run_ops] at hrun
        split at hrun
        rotate_left
        · simp at hrun
        rename_i s1 hs1
        simp only [Option.some.injEq, Res.code.injEq] at hrun
        obtain ⟨rfl, rfl, rfl⟩ := hrun
        simp only [repsOk, Bool.and_eq_true, List.all_eq_true] at hr
        obtain ⟨hrn, hrp⟩ := permOk_perm (hr.1.2 r (hrs r (by simp)))
        have hll := renOpers_len hren
        have hmem : ∀ k, k ∈ r ↔ k < asx.length := fun k => by rw [hrp.mem_iff, List.mem_range]
        obtain ⟨s1', r1, r2, r3⟩ := ren_fold (cf := cfOf F n2) (asx := asx) hrn 0 r l ⟨vs, List.replicate asx.length .bad, h⟩ ⟨vs, List.replicate l.length .bad, h⟩ s1 rfl hren rfl rfl (by simp [hll]) (fun k => by rw [hmem k]; simp) (fun k => by
          simp only [evOpd, List.getElem?_replicate]
          split <;> split <;> rfl) hs1
        refine ⟨max n1 n2, fun x hx => ?_⟩
        have mono : ∀ {n : Nat}, n ≤ max n1 n2 → ∀ {l : List Nat} {s τ : St}, foldI (cfOf F n) asx l s = some τ → foldI (cfOf F (max n1 n2)) asx l s = some τ := by
          intro n hle l
          induction l with
          | nil => intro s τ e; exact e
          | cons k l ihl =>
            intro s τ e
            simp only [foldI] at e ⊢
            split at e
            · rename_i ao ha
              split at e
              · rename_i s2 hs2
                rw [stepA_mono (cfOf_le fun _ _ q => run_mono hle q) hs2]
                exact ihl e
              · simp at e
            · simp at e
        rcases List.mem_cons.1 hx with rfl | hx
        · exact ⟨s1', mono (Nat.le_max_right _ _) r1, by rw [r2, r3]; exact hq⟩
        · obtain ⟨s', q1, q2⟩ := h1 x hx
          exact ⟨s', mono (Nat.le_max_left _ _) q1, q2⟩
  obtain ⟨n, hn⟩ := hall reps (fun r hr => hr)
  obtain ⟨r, hrm, hrt⟩ := draw_reps (hfu n) hl hr (s := ⟨vs, List.replicate asx.length .bad, h⟩) t
  obtain ⟨s', q1, q2⟩ := hn r hrm
  have hC' := hC.mono_refl
  refine fold_ok (s := ⟨vs, List.replicate asx.length .bad, h⟩) (cfOf_ok hmix hT n) hnd hd hc _ hE ⟨hC'.H, hC'.F, ⟨by simp [hl], fun k t o x h1 h2 h3 h4 => ?_⟩, hC'.size⟩ (hrt s' q1) fun a' w' G' hX S' hdf => ?_
  · simp only [List.getElem?_replicate] at h4
    split at h4
    · simp at h4; subst h4; exact .bad _
    · simp at h4
  · exact hQ .normal s'.vs s'.h a' w' G' q2 hX.drew ⟨S'.H, S'.F, S'.size⟩ (.of_eq hdf)
theorem SW.mono {nt : Nat} {slots : List Nat} {c : Code} {vs : List AVal} {h : Heap} {Q Q' : AExit → List AVal → Heap → Prop} (a0 : SW P Hh nt slots c vs h Q) (hi : ∀ e vs h, Q e vs h → Q' e vs h) : SW P Hh nt slots c vs h Q' :=
  fun m a w G Qm hE hC hQ => a0 m a w G Qm hE hC fun e vs' h' a' w' G' hq => hQ e vs' h' a' w' G' (hi _ _ _ hq)
theorem leavesM_mono {fn : Func} {tmps : Array Value} {m : Nat} {R R' : Ending → World → Prop} (hi : ∀ e w, R e w → R' e w) : ∀ (bs : List Nat) {w : World},
    LeavesInM (rF none) m P fn tmps R (bs.map (fun b => ({ target := .collected b, args := #[] } : Deferred))) .returning w → LeavesInM (rF none) m P fn tmps R' (bs.map (fun b => ({ target := .collected b, args := #[] } : Deferred))) .returning w
  | [], w, ⟨v, q1, q2⟩ => ⟨v, q1, hi _ _ q2⟩
  | b :: bs, w, ⟨h1, h2⟩ => by
    rcases h2 with ⟨r, w', e1, e2, e3⟩ | ⟨_, fv, cap, f, args, e1, _⟩
    · exact ⟨h1, .inl ⟨r, w', e1, e2, leavesM_mono hi bs e3⟩⟩
    · simp at e1
theorem calls_of_SW {g : Nat} {fn : Func} {c : Code} {slots : List Nat} {ris : List ResV} (hf : P.funcs[g]? = some fn) (hb : fn.body = some c) (hres : resRVs P slots fn.results.toList = some ris) {args : List AVal} {h : Heap} {K : AVal → Heap → Prop}
    (hw : SW P Hh fn.ntmps slots c (slots.map fun s => (args[s]?).getD (.tup [])) h (fun e vs h' => (e = .normal ∨ e = .ret) ∧ ∃ r, resultsA ris vs h' = some r ∧ K r h')) {w : World} {G : Ghost} {cargs : Array Value} (hE : G.env = envOf P Hh) (H : HRel w G h) (hp : Pts w G cargs args) :
    Calls P g cargs w (fun e w' => ∃ r h', K r h' ∧ ∃ v G', e = .returned v ∧ Ext w G h w' G' h' ∧ HRel w' G' h' ∧ VRel w' G' v r) := by
  refine (callsIn_wide (n := 0)).1 (callsIn_of_wp_marks (F := rF none) hf hb trivial ?_)
  have hget : ∀ s, (cargs ++ Array.replicate (fn.ntmps - cargs.size) undef).getD s undef = (cargs[s]?).getD undef := by
    intro s
    rw [Array.getD_eq_getD_getElem?]
    by_cases hs : s < cargs.size
    · rw [Array.getElem?_append_left hs]
    · rw [Array.getElem?_append_right (by omega : cargs.size ≤ s), Array.getElem?_replicate, Array.getElem?_eq_none (by omega : cargs.size ≤ s)]
      split <;> rfl
  have S0 : CRel w G { tmps := cargs ++ Array.replicate (fn.ntmps - cargs.size) undef, defers := [] } fn.ntmps slots (slots.map fun s => (args[s]?).getD (.tup [])) h := by
    refine ⟨H, ⟨by simp, fun i s x h1 h2 => ?_⟩, by simp; omega⟩
    simp only [List.getElem?_map, h1, Option.map_some, Option.some.injEq] at h2
    subst h2
    rw [hget]
    by_cases hs : s < cargs.size
    · obtain ⟨x, hx⟩ : ∃ x, args[s]? = some x := ⟨_, List.getElem?_eq_getElem (by rw [← hp.len]; exact hs)⟩
      rw [hx, Array.getElem?_eq_getElem hs]
      exact hp.rel s _ x (Array.getElem?_eq_getElem hs) hx
    · rw [Array.getElem?_eq_none (by omega), List.getElem?_eq_none (by rw [← hp.len]; omega)]
      exact .tup #[] [] rfl (by simp)
  refine hw 0 _ w G _ hE S0 fun e vs h' a' w' G' hq hX hC hM => ?_
  obtain ⟨he, r, hr, hK⟩ := hq
  obtain ⟨bs, e1, e2, e3⟩ := hM
  have key := leaves_ok hres hr (P := P) (m := 0) bs e2 (fun b hb => ⟨(e3 b hb).1, (e3 b hb).2.2.1, (e3 b hb).2.2.2⟩) hX hC.H hC.F
  have key2 : LeavesInM (rF none) 0 P fn a'.tmps (fun e w' => ∃ r h', K r h' ∧ ∃ v G', e = .returned v ∧ Ext w G h w' G' h' ∧ HRel w' G' h' ∧ VRel w' G' v r) a'.defers .returning w' := by
    rw [e1, List.append_nil]
    exact leavesM_mono (fun e w q => ⟨r, h', hK, q⟩) bs key
  rcases he with rfl | rfl
  · exact key2
  · exact key2
def handS (s : List AVal → Option AVal) (args : List AVal) (h : Heap) : Option (AVal × Heap) := match h with
  | ⟨0, []⟩ => (s args).map fun r => (r, Heap.empty)
  | _ => none
theorem drop_own {w w' : World} {G G1 : Ghost} {h0 : Heap} {v : Value} {r : AVal} (H : HRel w G Heap.empty) (hX : Ext w G Heap.empty w' G1 h0) (hv : VRel w' G1 v r) (hsc : scal r = true) :
    ∃ G', Ext w G Heap.empty w' G' Heap.empty ∧ HRel w' G' Heap.empty ∧ VRel w' G' v r := by
  have hempty : ∀ id o, Heap.empty.get id = some o → False := fun id o e => by rw [Heap.get_empty] at e; simp at e
  have hno : ∀ (G0 : Ghost) b, ¬ owned G0 Heap.empty b := fun G0 b ⟨id, o, e, _⟩ => hempty id o e
  have hkeep : ∀ b, b < w.heap.size → w'.heap[b]? = w.heap[b]? := fun b hb => (hX.keep b hb (hno G b)).1
  have hE : Ext w G Heap.empty w' { G with lim := fun b => if b < w.heap.size then G.lim b else none } Heap.empty := ⟨hX.os, hX.tape, hX.out, hX.size, fun b hb _ => ⟨hkeep b hb, by simp [hb]⟩, fun b k hb hst => ⟨by simp [World.cell?, hkeep b hb], fun m hm => by simp [hb] at hm; exact hst m hm⟩, fun b hb => by simp [World.shape?, hkeep b hb], Nat.le_refl _, fun _ _ => ⟨rfl, rfl⟩, fun b hb ho => ho, rfl⟩
  exact ⟨_, hE, ⟨H.n_eq, fun id o e => (hempty id o e).elim, fun id o e => (hempty id o e).elim, H.inj, fun g cs hg => ⟨(H.glob g cs hg).1.mono hE, (H.glob g cs hg).2⟩⟩, scal_to hv hsc⟩
theorem hand_of_SW {g : Nat} {fn : Func} {c : Code} {slots : List Nat} {ris : List ResV} (hf : P.funcs[g]? = some fn) (hb : fn.body = some c) (hn : (fn.name == "runtime.NumGoroutine") = false) (hres : resRVs P slots fn.results.toList = some ris) {s : List AVal → Option AVal}
    (hs : ∀ args r, s args = some r → scal r = true ∧ SW P Hh fn.ntmps slots c (slots.map fun i => (args[i]?).getD (.tup [])) Heap.empty (fun e vs h' => (e = .normal ∨ e = .ret) ∧ resultsA ris vs h' = some r)) : HandOkE P Hh g (handS s) := by
  refine ⟨fun args h r h' e w G cargs hE H hp => ?_, fun args w => ?_⟩
  · unfold handS at e
    split at e
    · simp only [Option.map_eq_some_iff, Prod.mk.injEq] at e
      obtain ⟨r0, e1, rfl, rfl⟩ := e
      obtain ⟨hsc, hw⟩ := hs args r0 e1
      refine (calls_of_SW (K := fun r h' => r = r0) hf hb hres (hw.mono fun e vs h' q => ⟨q.1, r0, q.2, rfl⟩) hE H hp).mono ?_
      rintro e w' ⟨r, h1, rfl, v, G1, he, hX, H1, hv⟩
      obtain ⟨G', q1, q2, q3⟩ := drop_own H hX hv hsc
      exact ⟨v, G', he, q1, q2, q3⟩
    · simp at e
  · have hn' : fn.name ≠ "runtime.NumGoroutine" := by simpa using hn
    simp [callFunc, hf, hb, hn']
end Go.Abs

set_option maxRecDepth 100000
namespace Go.Proofs.YtjofjgflcogklaaGreatDoor
open Go Go.Abs
def shaK : List AVal := [.int .u32 1116352408, .int .u32 1899447441, .int .u32 3049323471, .int .u32 3921009573, .int .u32 961987163, .int .u32 1508970993, .int .u32 2453635748, .int .u32 2870763221, .int .u32 3624381080, .int .u32 310598401, .int .u32 607225278, .int .u32 1426881987, .int .u32 1925078388, .int .u32 2162078206, .int .u32 2614888103, .int .u32 3248222580, .int .u32 3835390401, .int .u32 4022224774, .int .u32 264347078, .int .u32 604807628, .int .u32 770255983, .int .u32 1249150122, .int .u32 1555081692, .int .u32 1996064986, .int .u32 2554220882, .int .u32 2821834349, .int .u32 2952996808, .int .u32 3210313671, .int .u32 3336571891, .int .u32 3584528711, .int .u32 113926993, .int .u32 338241895, .int .u32 666307205, .int .u32 773529912, .int .u32 1294757372, .int .u32 1396182291, .int .u32 1695183700, .int .u32 1986661051, .int .u32 2177026350, .int .u32 2456956037, .int .u32 2730485921, .int .u32 2820302411, .int .u32 3259730800, .int .u32 3345764771, .int .u32 3516065817, .int .u32 3600352804, .int .u32 4094571909, .int .u32 275423344, .int .u32 430227734, .int .u32 506948616, .int .u32 659060556, .int .u32 883997877, .int .u32 958139571, .int .u32 1322822218, .int .u32 1537002063, .int .u32 1747873779, .int .u32 1955562222, .int .u32 2024104815, .int .u32 2227730452, .int .u32 2361852424, .int .u32 2428436474, .int .u32 2756734187, .int .u32 3204031479, .int .u32 3329325298]
def hints : Hints := ⟨fun f s => (f == 9 && s == 28) || (f == 33 && s == 28), fun f s => (f == 61 && s == 7) || (f == 62 && s == 7) || (f == 94 && s == 11), fun _ _ => false, fun f => [16, 18, 20, 23, 27, 29, 39, 40, 41, 49, 50, 51, 54, 55, 56, 57, 60, 75, 76, 77, 78, 79, 80, 92, 93, 94, 96, 102, 104, 105, 106, 110, 111, 123].contains f, fun _ => false, fun f r => if f == 5 && r == 12 then [0, 2, 3, 5, 1, 4, 6, 7, 8, 9, 10] else if f == 14 && r == 3 then [0, 2, 3, 4, 5, 1, 6, 7, 8, 10, 11, 12, 13, 9, 14, 15, 16, 17, 18, 19, 20, 21, 22, 23, 24, 26, 27, 28, 29, 25, 30, 31, 32, 33, 35, 36, 37, 38, 34, 39, 40, 41, 42, 43, 44, 45, 46, 47, 48] else if f == 38 && r == 1 then [0, 1, 2, 3, 5, 6, 7, 8, 4, 9, 10] else if f == 59 && r == 1 then [0, 1, 2, 3, 5, 6, 7, 8, 4, 9, 10] else [], fun f => [19, 21, 22, 24, 36, 37, 38, 42, 47, 52, 58, 59, 64].contains f, fun g => if g = 2 then some shaK else if g = 0 then some shaK else none, fun f r => if f == 6 && r == 32 then some ([(5, 8), (5, 10)], [[0, 1, 2, 3, 4, 5, 6, 7, 8, 9, 10, 11, 12], [0, 1, 2, 3, 4, 6, 7, 9, 10, 5, 8, 11, 12], [0, 1, 2, 3, 4, 6, 7, 8, 5, 9, 10, 11, 12], [0, 1, 2, 3, 4, 6, 7, 8, 9, 10, 5, 11, 12]]) else if f == 6 && r == 35 then some ([(3, 6)], [[0, 1, 2, 3, 4, 5, 6, 7, 8], [0, 1, 2, 4, 5, 6, 3, 7, 8]]) else none⟩
def c5 : AFunc := ⟨[0, 1, 2, 3, 4, 7, 10, 11, 12, 13, 14, 15, 17, 18, 19, 20, 21, 33, 43, 68, 93, 105], (.seq (.ops [⟨(.var 5), .box 6 true (.v 2), .none⟩, ⟨(.var 6), .mov (.c (.bool false)), .none⟩]) (.seq (.seq (.ops [⟨.tmp, .mov (.v 0), .none⟩, ⟨.tmp, .bin .gtr .arith (.t 0) (.c (.int .i64 200)), .none⟩, ⟨.tmp, .mov (.t 1), .none⟩, ⟨.tmp, .mov (.v 1), (some ((.t 2), false))⟩, ⟨.tmp, .len (.t 3), (some ((.t 2), false))⟩, ⟨.tmp, .bin .gtr .arith (.t 4) (.c (.int .i64 12)), (some ((.t 2), false))⟩, ⟨.tmp, .pick (.t 2) (.c (.bool true)) (.t 5), .none⟩, ⟨.tmp, .mov (.t 6), .none⟩, ⟨.tmp, .mov (.v 4), (some ((.t 7), false))⟩, ⟨.tmp, .len (.t 8), (some ((.t 7), false))⟩, ⟨.tmp, .bin .gtr .arith (.t 9) (.c (.int .i64 200)), (some ((.t 7), false))⟩, ⟨(.var 17), .pick (.t 7) (.c (.bool true)) (.t 10), .none⟩]) (.cond (.v 17) (.seq (.ops [⟨.tmp, .call (.c (.fn 7 [])) [], .none⟩, ⟨(.var 6), .mov (.t 0), .none⟩]) .ret) .skip)) (.seq (.ops [⟨.tmp, .mov (.v 0), .none⟩, ⟨.tmp, .mov (.v 1), .none⟩, ⟨.tmp, .call (.c (.fn 15 [])) [(.t 0), (.t 1)], .none⟩, ⟨.tmp, .mov (.t 2), .none⟩, ⟨.tmp, .ext (.t 3) 0, .none⟩, ⟨.tmp, .ext (.t 3) 1, .none⟩, ⟨.tmp, .ext (.t 3) 2, .none⟩, ⟨(.var 7), .mov (.t 4), .none⟩, ⟨(.var 8), .mov (.t 5), .none⟩, ⟨(.var 9), .mov (.t 6), .none⟩]) (.seq (.seq (.ops [⟨.tmp, .mov (.v 9), .none⟩, ⟨(.var 18), .un .not (.t 0), .none⟩]) (.cond (.v 18) (.seq (.ops [⟨.tmp, .call (.c (.fn 7 [])) [], .none⟩, ⟨.tmp, .mov (.t 0), .none⟩, ⟨.tmp, .mov (.v 0), (some ((.t 1), true))⟩, ⟨.tmp, .bin .lss .arith (.t 2) (.c (.int .i64 1)), (some ((.t 1), true))⟩, ⟨.tmp, .pick (.t 1) (.t 3) (.c (.bool false)), .none⟩, ⟨(.var 6), .mov (.t 4), .none⟩]) .ret) .skip)) (.seq (.ops [⟨.tmp, .mov (.v 7), .none⟩, ⟨.tmp, .call (.c (.fn 12 [])) [(.t 0)], .none⟩, ⟨.tmp, .mov (.t 1), .none⟩, ⟨.tmp, .ext (.t 2) 0, .none⟩, ⟨.tmp, .ext (.t 2) 1, .none⟩, ⟨(.var 10), .mov (.t 3), .none⟩, ⟨(.var 11), .mov (.t 4), .none⟩]) (.seq (.seq (.ops [⟨.tmp, .mov (.v 11), .none⟩, ⟨.tmp, .bin .neq .arith (.t 0) (.c (.int .i64 0)), .none⟩, ⟨.tmp, .mov (.t 1), .none⟩, ⟨.tmp, .mov (.v 10), (some ((.t 2), false))⟩, ⟨.tmp, .gcall 21 [(.t 3)], (some ((.t 2), false))⟩, ⟨.tmp, .mov (.v 8), (some ((.t 2), false))⟩, ⟨.tmp, .pcall 20 [(.t 4), (.t 5)], (some ((.t 2), false))⟩, ⟨.tmp, .un .not (.t 6), (some ((.t 2), false))⟩, ⟨.tmp, .pick (.t 2) (.c (.bool true)) (.t 7), .none⟩, ⟨.tmp, .mov (.t 8), .none⟩, ⟨.tmp, .mov (.v 10), (some ((.t 9), false))⟩, ⟨.tmp, .gcall 24 [(.t 10)], (some ((.t 9), false))⟩, ⟨.tmp, .len (.t 11), (some ((.t 9), false))⟩, ⟨.tmp, .bin .gtr .arith (.t 12) (.c (.int .i64 0)), (some ((.t 9), false))⟩, ⟨(.var 19), .pick (.t 9) (.c (.bool true)) (.t 13), .none⟩]) (.cond (.v 19) (.seq (.ops [⟨(.var 6), .mov (.c (.bool false)), .none⟩]) .ret) .skip)) (.seq (.ops [⟨.tmp, .mov (.v 7), .none⟩, ⟨.tmp, .mov (.v 3), .none⟩, ⟨.tmp, .toInt .i64 (.t 1), .none⟩, ⟨.tmp, .call (.c (.fn 25 [])) [(.t 0), (.t 2)], .none⟩]) (.seq (.ops [⟨.tmp, .mov (.v 10), .none⟩, ⟨.tmp, .load 6 true (.v 5), .none⟩, ⟨.tmp, .pcall 27 [(.t 1)], .none⟩, ⟨.tmp, .call (.c (.fn 26 [])) [(.t 0), (.t 2)], .none⟩, ⟨.tmp, .mov (.t 3), .none⟩, ⟨.tmp, .ext (.t 4) 0, .none⟩, ⟨.tmp, .ext (.t 4) 1, .none⟩, ⟨.tmp, .mov (.t 5), .none⟩, ⟨(.var 12), .mov (.t 6), .none⟩]) (.seq (.ops [⟨.tmp, .mov (.v 7), .none⟩, ⟨.tmp, .mov (.v 4), .none⟩, ⟨.tmp, .call (.c (.fn 28 [])) [(.t 0), (.t 1)], .none⟩]) (.seq (.seq (.ops [⟨.tmp, .mov (.v 7), .none⟩, ⟨.tmp, .x .elit [], .none⟩, ⟨.tmp, .mov (.v 8), .none⟩, ⟨.tmp, .load 6 true (.v 5), .none⟩, ⟨.tmp, .gcall 19 [(.t 0)], .none⟩, ⟨.tmp, .append false 9 16 1 false (.t 1) (.t 2), .none⟩, ⟨.tmp, .pcall 27 [(.t 3)], .none⟩, ⟨.tmp, .lit 0 9 1 1 false [(.str [])] [(0, (.t 6))], .none⟩, ⟨.tmp, .append false 9 16 1 false (.t 5) (.t 7), .none⟩, ⟨.tmp, .pcall 18 [(.t 4), (.t 8)], .none⟩, ⟨(.var 20), .un .not (.t 9), .none⟩]) (.cond (.v 20) (.seq (.ops [⟨.tmp, .call (.c (.fn 7 [])) [], .none⟩, ⟨(.var 6), .mov (.t 0), .none⟩]) .ret) .skip)) (.seq (.ops [⟨.tmp, .mov (.v 7), .none⟩, ⟨.tmp, .call (.c (.fn 12 [])) [(.t 0)], .none⟩, ⟨.tmp, .mov (.t 1), .none⟩, ⟨.tmp, .ext (.t 2) 0, .none⟩, ⟨.tmp, .ext (.t 2) 1, .none⟩, ⟨(.var 13), .mov (.t 3), .none⟩, ⟨(.var 14), .mov (.t 4), .none⟩]) (.seq (.seq (.ops [⟨.tmp, .mov (.v 14), .none⟩, ⟨.tmp, .bin .neq .arith (.t 0) (.c (.int .i64 0)), .none⟩, ⟨.tmp, .mov (.t 1), .none⟩, ⟨.tmp, .mov (.v 13), (some ((.t 2), false))⟩, ⟨.tmp, .bin .eql .ptr (.t 3) (.c .nilptr), (some ((.t 2), false))⟩, ⟨(.var 21), .pick (.t 2) (.c (.bool true)) (.t 4), .none⟩]) (.cond (.v 21) (.seq (.ops [⟨(.var 6), .mov (.c (.bool false)), .none⟩]) .ret) .skip)) (.seq (.ops [⟨.tmp, .mov (.v 13), .none⟩, ⟨.tmp, .gcall 21 [(.t 0)], .none⟩, ⟨(.var 15), .mov (.t 1), .none⟩]) (.seq (.ops [⟨.tmp, .x .elit [], .none⟩, ⟨.tmp, .mov (.v 8), .none⟩, ⟨.tmp, .append false 9 16 1 false (.t 0) (.t 1), .none⟩, ⟨.tmp, .load 6 true (.v 5), .none⟩, ⟨.tmp, .pcall 27 [(.t 3)], .none⟩, ⟨.tmp, .lit 0 9 1 1 false [(.str [])] [(0, (.t 4))], .none⟩, ⟨.tmp, .append false 9 16 1 false (.t 2) (.t 5), .none⟩, ⟨(.var 16), .mov (.t 6), .none⟩]) (.seq (.ops [⟨.tmp, .call (.c (.fn 7 [])) [], .none⟩, ⟨.tmp, .mov (.t 0), .none⟩, ⟨.tmp, .mov (.v 15), (some ((.t 1), true))⟩, ⟨.tmp, .mov (.v 16), (some ((.t 1), true))⟩, ⟨.tmp, .pcall 20 [(.t 2), (.t 3)], (some ((.t 1), true))⟩, ⟨.tmp, .mov (.t 4), (some ((.t 1), true))⟩, ⟨.tmp, .mov (.v 12), (some ((.t 5), false))⟩, ⟨.tmp, .bin .neq .arith (.t 6) (.c (.int .i64 0)), (some ((.t 5), false))⟩, ⟨.tmp, .mov (.t 7), (some ((.t 5), false))⟩, ⟨.tmp, .mov (.v 15), (some ((.t 8), true))⟩, ⟨.tmp, .mov (.v 8), (some ((.t 8), true))⟩, ⟨.tmp, .pcall 20 [(.t 9), (.t 10)], (some ((.t 8), true))⟩, ⟨.tmp, .pick (.t 8) (.t 11) (.c (.bool false)), (some ((.t 5), false))⟩, ⟨.tmp, .pick (.t 5) (.c (.bool true)) (.t 12), (some ((.t 1), true))⟩, ⟨.tmp, .pick (.t 1) (.t 13) (.c (.bool false)), .none⟩, ⟨(.var 6), .mov (.t 14), .none⟩]) .ret))))))))))))))), [.v 6], []⟩
def c7 : AFunc := ⟨[0, 1, 2, 3, 4, 5, 6, 7, 8, 9, 10, 11, 12, 13, 14, 16, 17, 18, 19, 20, 21, 22, 23, 33, 54, 104, 137], (.seq (.ops [⟨(.var 0), .mov (.c (.bool false)), .none⟩]) (.seq (.ops [⟨.tmp, .call (.c (.fn 8 [])) [(.c (.int .i64 4))], .none⟩, ⟨.tmp, .mov (.t 0), .none⟩, ⟨.tmp, .ext (.t 1) 0, .none⟩, ⟨.tmp, .ext (.t 1) 1, .none⟩, ⟨(.var 1), .mov (.t 2), .none⟩, ⟨(.var 2), .mov (.t 3), .none⟩]) (.seq (.seq (.ops [⟨.tmp, .mov (.v 2), .none⟩, ⟨.tmp, .bin .neq .arith (.t 0) (.c (.int .i64 0)), .none⟩, ⟨.tmp, .mov (.t 1), .none⟩, ⟨.tmp, .mov (.v 1), (some ((.t 2), false))⟩, ⟨.tmp, .bin .eql .ptr (.t 3) (.c .nilptr), (some ((.t 2), false))⟩, ⟨(.var 23), .pick (.t 2) (.c (.bool true)) (.t 4), .none⟩]) (.cond (.v 23) (.seq (.ops [⟨(.var 0), .mov (.c (.bool false)), .none⟩]) .ret) .skip)) (.seq (.ops [⟨.tmp, .mov (.v 1), .none⟩, ⟨.tmp, .call (.c (.fn 12 [])) [(.t 0)], .none⟩, ⟨.tmp, .mov (.t 1), .none⟩, ⟨.tmp, .ext (.t 2) 0, .none⟩, ⟨.tmp, .ext (.t 2) 1, .none⟩, ⟨(.var 3), .mov (.t 3), .none⟩, ⟨(.var 4), .mov (.t 4), .none⟩]) (.seq (.seq (.ops [⟨.tmp, .mov (.v 4), .none⟩, ⟨.tmp, .bin .neq .arith (.t 0) (.c (.int .i64 0)), .none⟩, ⟨.tmp, .mov (.t 1), .none⟩, ⟨.tmp, .mov (.v 3), (some ((.t 2), false))⟩, ⟨.tmp, .bin .eql .ptr (.t 3) (.c .nilptr), (some ((.t 2), false))⟩, ⟨.tmp, .pick (.t 2) (.c (.bool true)) (.t 4), .none⟩, ⟨.tmp, .mov (.t 5), .none⟩, ⟨.tmp, .mov (.v 3), (some ((.t 6), false))⟩, ⟨.tmp, .gcall 37 [(.t 7)], (some ((.t 6), false))⟩, ⟨.tmp, .bin .neq .arith (.t 8) (.c (.int .i64 1)), (some ((.t 6), false))⟩, ⟨.tmp, .pick (.t 6) (.c (.bool true)) (.t 9), .none⟩, ⟨.tmp, .mov (.t 10), .none⟩, ⟨.tmp, .mov (.v 3), (some ((.t 11), false))⟩, ⟨.tmp, .gcall 38 [(.t 12)], (some ((.t 11), false))⟩, ⟨.tmp, .bin .neq .arith (.t 13) (.c (.int .i64 4)), (some ((.t 11), false))⟩, ⟨(.var 24), .pick (.t 11) (.c (.bool true)) (.t 14), .none⟩]) (.cond (.v 24) (.seq (.ops [⟨(.var 0), .mov (.c (.bool false)), .none⟩]) .ret) .skip)) (.seq (.ops [⟨.tmp, .mov (.v 3), .none⟩, ⟨.tmp, .call (.c (.fn 26 [])) [(.t 0), (.c (.str [97]))], .none⟩, ⟨.tmp, .mov (.t 1), .none⟩, ⟨.tmp, .ext (.t 2) 0, .none⟩, ⟨.tmp, .ext (.t 2) 1, .none⟩, ⟨(.var 5), .mov (.t 3), .none⟩, ⟨(.var 6), .mov (.t 4), .none⟩]) (.seq (.ops [⟨.tmp, .mov (.v 3), .none⟩, ⟨.tmp, .pcall 39 [(.c (.str [120])), (.c (.int .i64 50))], .none⟩, ⟨.tmp, .call (.c (.fn 26 [])) [(.t 0), (.t 1)], .none⟩, ⟨.tmp, .mov (.t 2), .none⟩, ⟨.tmp, .ext (.t 3) 0, .none⟩, ⟨.tmp, .ext (.t 3) 1, .none⟩, ⟨(.var 7), .mov (.t 4), .none⟩, ⟨(.var 8), .mov (.t 5), .none⟩]) (.seq (.ops [⟨.tmp, .mov (.v 3), .none⟩, ⟨.tmp, .gcall 38 [(.t 0)], .none⟩, ⟨(.var 9), .mov (.t 1), .none⟩]) (.seq (.ops [⟨.tmp, .mov (.v 1), .none⟩, ⟨.tmp, .call (.c (.fn 17 [])) [(.t 0), (.c (.int .i64 1)), (.c (.int .i64 70))], .none⟩, ⟨(.var 10), .mov (.t 1), .none⟩]) (.seq (.ops [⟨.tmp, .mov (.v 1), .none⟩, ⟨.tmp, .call (.c (.fn 12 [])) [(.t 0)], .none⟩, ⟨.tmp, .mov (.t 1), .none⟩, ⟨.tmp, .ext (.t 2) 0, .none⟩, ⟨.tmp, .ext (.t 2) 1, .none⟩, ⟨(.var 11), .mov (.t 3), .none⟩, ⟨(.var 12), .mov (.t 4), .none⟩]) (.seq (.seq (.ops [⟨.tmp, .mov (.v 5), .none⟩, ⟨.tmp, .bin .neq .arith (.t 0) (.c (.int .i64 1)), .none⟩, ⟨.tmp, .mov (.t 1), .none⟩, ⟨.tmp, .mov (.v 6), (some ((.t 2), false))⟩, ⟨.tmp, .bin .neq .arith (.t 3) (.c (.int .i64 0)), (some ((.t 2), false))⟩, ⟨.tmp, .pick (.t 2) (.c (.bool true)) (.t 4), .none⟩, ⟨.tmp, .mov (.t 5), .none⟩, ⟨.tmp, .mov (.v 7), (some ((.t 6), false))⟩, ⟨.tmp, .bin .neq .arith (.t 7) (.c (.int .i64 2)), (some ((.t 6), false))⟩, ⟨.tmp, .pick (.t 6) (.c (.bool true)) (.t 8), .none⟩, ⟨.tmp, .mov (.t 9), .none⟩, ⟨.tmp, .mov (.v 8), (some ((.t 10), false))⟩, ⟨.tmp, .bin .neq .arith (.t 11) (.c (.int .i64 0)), (some ((.t 10), false))⟩, ⟨.tmp, .pick (.t 10) (.c (.bool true)) (.t 12), .none⟩, ⟨.tmp, .mov (.t 13), .none⟩, ⟨.tmp, .mov (.v 9), (some ((.t 14), false))⟩, ⟨.tmp, .bin .neq .arith (.t 15) (.c (.int .i64 1)), (some ((.t 14), false))⟩, ⟨.tmp, .pick (.t 14) (.c (.bool true)) (.t 16), .none⟩, ⟨.tmp, .mov (.t 17), .none⟩, ⟨.tmp, .mov (.v 10), (some ((.t 18), false))⟩, ⟨.tmp, .bin .neq .arith (.t 19) (.c (.int .i64 0)), (some ((.t 18), false))⟩, ⟨.tmp, .pick (.t 18) (.c (.bool true)) (.t 20), .none⟩, ⟨.tmp, .mov (.t 21), .none⟩, ⟨.tmp, .mov (.v 12), (some ((.t 22), false))⟩, ⟨.tmp, .bin .neq .arith (.t 23) (.c (.int .i64 0)), (some ((.t 22), false))⟩, ⟨.tmp, .pick (.t 22) (.c (.bool true)) (.t 24), .none⟩, ⟨.tmp, .mov (.t 25), .none⟩, ⟨.tmp, .mov (.v 11), (some ((.t 26), false))⟩, ⟨.tmp, .bin .eql .ptr (.t 27) (.c .nilptr), (some ((.t 26), false))⟩, ⟨(.var 25), .pick (.t 26) (.c (.bool true)) (.t 28), .none⟩]) (.cond (.v 25) (.seq (.ops [⟨(.var 0), .mov (.c (.bool false)), .none⟩]) .ret) .skip)) (.seq (.ops [⟨.tmp, .mov (.v 11), .none⟩, ⟨.tmp, .call (.c (.fn 26 [])) [(.t 0), (.c (.str [98]))], .none⟩, ⟨.tmp, .mov (.t 1), .none⟩, ⟨.tmp, .ext (.t 2) 0, .none⟩, ⟨.tmp, .ext (.t 2) 1, .none⟩, ⟨(.var 13), .mov (.t 3), .none⟩, ⟨(.var 14), .mov (.t 4), .none⟩]) (.seq (.ops [⟨.tmp, .mov (.v 11), .none⟩, ⟨.tmp, .call (.c (.fn 26 [])) [(.t 0), (.c (.str [99]))], .none⟩, ⟨.tmp, .mov (.t 1), .none⟩, ⟨.tmp, .ext (.t 2) 0, .none⟩, ⟨.tmp, .ext (.t 2) 1, .none⟩, ⟨.tmp, .mov (.t 3), .none⟩, ⟨(.var 15), .mov (.t 4), .none⟩]) (.seq (.ops [⟨.tmp, .pcall 40 [(.c (.int .i64 1)), (.c (.str [97]))], .none⟩, ⟨.tmp, .mov (.t 0), .none⟩, ⟨.tmp, .ext (.t 1) 0, .none⟩, ⟨.tmp, .ext (.t 1) 1, .none⟩, ⟨(.var 16), .mov (.t 2), .none⟩, ⟨(.var 17), .mov (.t 3), .none⟩]) (.seq (.seq (.ops [⟨.tmp, .mov (.v 13), .none⟩, ⟨.tmp, .bin .neq .arith (.t 0) (.c (.int .i64 3)), .none⟩, ⟨.tmp, .mov (.t 1), .none⟩, ⟨.tmp, .mov (.v 14), (some ((.t 2), false))⟩, ⟨.tmp, .bin .neq .arith (.t 3) (.c (.int .i64 0)), (some ((.t 2), false))⟩, ⟨.tmp, .pick (.t 2) (.c (.bool true)) (.t 4), .none⟩, ⟨.tmp, .mov (.t 5), .none⟩, ⟨.tmp, .mov (.v 15), (some ((.t 6), false))⟩, ⟨.tmp, .bin .neq .arith (.t 7) (.c (.int .i64 20)), (some ((.t 6), false))⟩, ⟨.tmp, .pick (.t 6) (.c (.bool true)) (.t 8), .none⟩, ⟨.tmp, .mov (.t 9), .none⟩, ⟨.tmp, .mov (.v 16), (some ((.t 10), false))⟩, ⟨.tmp, .len (.t 11), (some ((.t 10), false))⟩, ⟨.tmp, .bin .neq .arith (.t 12) (.c (.int .i64 1)), (some ((.t 10), false))⟩, ⟨.tmp, .pick (.t 10) (.c (.bool true)) (.t 13), .none⟩, ⟨.tmp, .mov (.t 14), .none⟩, ⟨.tmp, .mov (.v 17), (some ((.t 15), false))⟩, ⟨.tmp, .bin .neq .arith (.t 16) (.c (.int .i64 0)), (some ((.t 15), false))⟩, ⟨(.var 26), .pick (.t 15) (.c (.bool true)) (.t 17), .none⟩]) (.cond (.v 26) (.seq (.ops [⟨(.var 0), .mov (.c (.bool false)), .none⟩]) .ret) .skip)) (.seq (.ops [⟨.tmp, .mov (.v 16), .none⟩, ⟨.tmp, .iaddr 1 (.t 0) (.c (.int .i64 0)), .none⟩, ⟨.tmp, .load 1 false (.t 1), .none⟩, ⟨.tmp, .pcall 41 [(.t 2)], .none⟩, ⟨.tmp, .mov (.t 3), .none⟩, ⟨.tmp, .ext (.t 4) 0, .none⟩, ⟨.tmp, .ext (.t 4) 1, .none⟩, ⟨.tmp, .ext (.t 4) 2, .none⟩, ⟨.tmp, .ext (.t 4) 3, .none⟩, ⟨.tmp, .ext (.t 4) 4, .none⟩, ⟨(.var 18), .mov (.t 5), .none⟩, ⟨(.var 19), .mov (.t 6), .none⟩, ⟨(.var 20), .mov (.t 7), .none⟩, ⟨(.var 21), .mov (.t 8), .none⟩, ⟨(.var 22), .mov (.t 9), .none⟩]) (.seq (.ops [⟨.tmp, .mov (.v 11), .none⟩, ⟨.tmp, .gcall 42 [(.t 0)], .none⟩, ⟨.tmp, .lit 0 3 2 1 false [(.int .i64 0)] [(0, (.c (.int .i64 1))), (1, (.c (.int .i64 3)))], .none⟩, ⟨.tmp, .pcall 23 [(.t 1), (.t 2)], .none⟩, ⟨.tmp, .mov (.t 3), .none⟩, ⟨.tmp, .mov (.v 11), (some ((.t 4), true))⟩, ⟨.tmp, .gcall 21 [(.t 5)], (some ((.t 4), true))⟩, ⟨.tmp, .lit 0 9 2 1 false [(.str [])] [(0, (.c (.str [97]))), (1, (.c (.str [98])))], (some ((.t 4), true))⟩, ⟨.tmp, .pcall 20 [(.t 6), (.t 7)], (some ((.t 4), true))⟩, ⟨.tmp, .pick (.t 4) (.t 8) (.c (.bool false)), .none⟩, ⟨.tmp, .mov (.t 9), .none⟩, ⟨.tmp, .mov (.v 11), (some ((.t 10), true))⟩, ⟨.tmp, .gcall 24 [(.t 11)], (some ((.t 10), true))⟩, ⟨.tmp, .lit 0 3 1 1 false [(.int .i64 0)] [(0, (.c (.int .i64 2)))], (some ((.t 10), true))⟩, ⟨.tmp, .pcall 23 [(.t 12), (.t 13)], (some ((.t 10), true))⟩, ⟨.tmp, .pick (.t 10) (.t 14) (.c (.bool false)), .none⟩, ⟨.tmp, .mov (.t 15), .none⟩, ⟨.tmp, .mov (.v 11), (some ((.t 16), true))⟩, ⟨.tmp, .gcall 22 [(.t 17)], (some ((.t 16), true))⟩, ⟨.tmp, .lit 0 3 1 1 false [(.int .i64 0)] [(0, (.c (.int .i64 1)))], (some ((.t 16), true))⟩, ⟨.tmp, .pcall 23 [(.t 18), (.t 19)], (some ((.t 16), true))⟩, ⟨.tmp, .pick (.t 16) (.t 20) (.c (.bool false)), .none⟩, ⟨.tmp, .mov (.t 21), .none⟩, ⟨.tmp, .pcall 16 [(.c (.int .i64 49))], (some ((.t 22), true))⟩, ⟨.tmp, .bin .eql .arith (.t 23) (.c (.int .i64 2)), (some ((.t 22), true))⟩, ⟨.tmp, .pick (.t 22) (.t 24) (.c (.bool false)), .none⟩, ⟨.tmp, .mov (.t 25), .none⟩, ⟨.tmp, .mov (.v 18), (some ((.t 26), true))⟩, ⟨.tmp, .bin .eql .arith (.t 27) (.c (.int .i64 1)), (some ((.t 26), true))⟩, ⟨.tmp, .pick (.t 26) (.t 28) (.c (.bool false)), .none⟩, ⟨.tmp, .mov (.t 29), .none⟩, ⟨.tmp, .mov (.v 19), (some ((.t 30), true))⟩, ⟨.tmp, .bin .eql .arith (.t 31) (.c (.int .i64 0)), (some ((.t 30), true))⟩, ⟨.tmp, .pick (.t 30) (.t 32) (.c (.bool false)), .none⟩, ⟨.tmp, .mov (.t 33), .none⟩, ⟨.tmp, .mov (.v 20), (some ((.t 34), true))⟩, ⟨.tmp, .bin .eql .arith (.t 35) (.c (.int .i64 1)), (some ((.t 34), true))⟩, ⟨.tmp, .pick (.t 34) (.t 36) (.c (.bool false)), .none⟩, ⟨.tmp, .mov (.t 37), .none⟩, ⟨.tmp, .mov (.v 21), (some ((.t 38), true))⟩, ⟨.tmp, .bin .eql .arith (.t 39) (.c (.str [97])), (some ((.t 38), true))⟩, ⟨.tmp, .pick (.t 38) (.t 40) (.c (.bool false)), .none⟩, ⟨.tmp, .mov (.t 41), .none⟩, ⟨.tmp, .mov (.v 22), (some ((.t 42), true))⟩, ⟨.tmp, .pick (.t 42) (.t 43) (.c (.bool false)), .none⟩, ⟨(.var 0), .mov (.t 44), .none⟩]) .ret))))))))))))))))), [.v 0], []⟩
def c8 : AFunc := ⟨[0, 2, 3, 9], (.seq (.ops [⟨(.var 1), .mov (.c .nilptr), .none⟩, ⟨(.var 2), .mov (.c (.int .i64 0)), .none⟩]) (.seq (.seq (.ops [⟨.tmp, .mov (.v 0), .none⟩, ⟨.tmp, .bin .lss .arith (.t 0) (.c (.int .i64 1)), .none⟩, ⟨.tmp, .mov (.t 1), .none⟩, ⟨.tmp, .mov (.v 0), (some ((.t 2), false))⟩, ⟨.tmp, .bin .gtr .arith (.t 3) (.c (.int .i64 4096)), (some ((.t 2), false))⟩, ⟨(.var 3), .pick (.t 2) (.c (.bool true)) (.t 4), .none⟩]) (.cond (.v 3) (.seq (.ops [⟨(.var 1), .mov (.c .nilptr), .none⟩, ⟨(.var 2), .mov (.c (.int .i64 1)), .none⟩]) .ret) .skip)) (.seq (.ops [⟨.tmp, .mov (.v 0), .none⟩, ⟨.tmp, .mksl 64 64 true (List.replicate 64 (.int .u8 0)) (.t 0) (.t 0), .none⟩, ⟨.tmp, .x (.mkmap (.int .i64)) [], .none⟩, ⟨.tmp, .x (.mkmap (.int .i64)) [], .none⟩, ⟨.tmp, .build [(.sl [] .nil), .nilmp, .nilmp, (.bool false), (.int .i64 0)] [(0, 1, (.t 1)), (1, 1, (.t 2)), (2, 1, (.t 3)), (4, 1, (.c (.int .i64 (-1))))], .none⟩, ⟨.tmp, .box 5 true (.t 4), .none⟩, ⟨(.var 1), .mov (.t 5), .none⟩, ⟨(.var 2), .mov (.c (.int .i64 0)), .none⟩]) .ret))), [.v 1, .v 2], []⟩
def c10 : AFunc := ⟨[0, 1, 2, 6, 7, 8, 13, 17, 21], (.seq (.ops [⟨(.var 3), .mov (.c (.int .i64 0)), .none⟩]) (.seq (.seq (.ops [⟨.tmp, .mov (.v 0), .none⟩, ⟨.tmp, .mov (.v 1), .none⟩, ⟨.tmp, .call (.c (.fn 43 [])) [(.t 0), (.t 1)], .none⟩, ⟨(.var 4), .mov (.t 2), .none⟩]) (.seq (.ops [⟨.tmp, .mov (.v 4), .none⟩, ⟨(.var 6), .bin .neq .arith (.t 0) (.c (.int .i64 0)), .none⟩]) (.cond (.v 6) (.seq (.ops [⟨.tmp, .mov (.v 4), .none⟩, ⟨(.var 3), .mov (.t 0), .none⟩]) .ret) .skip))) (.seq (.seq (.ops [⟨.tmp, .mov (.v 2), .none⟩, ⟨.tmp, .slen (.t 0), .none⟩, ⟨(.var 7), .bin .neq .arith (.t 1) (.c (.int .i64 64)), .none⟩]) (.cond (.v 7) (.seq (.ops [⟨(.var 3), .mov (.c (.int .i64 1)), .none⟩]) .ret) .skip)) (.seq (.seq (.ops [⟨.tmp, .mov (.v 0), .none⟩, ⟨.tmp, .call (.c (.fn 44 [])) [(.t 0)], .none⟩, ⟨(.var 5), .mov (.t 1), .none⟩]) (.seq (.ops [⟨.tmp, .mov (.v 5), .none⟩, ⟨(.var 8), .bin .neq .arith (.t 0) (.c (.int .i64 0)), .none⟩]) (.cond (.v 8) (.seq (.ops [⟨.tmp, .mov (.v 5), .none⟩, ⟨(.var 3), .mov (.t 0), .none⟩]) .ret) .skip))) (.seq (.ops [⟨.tmp, .mov (.v 0), .none⟩, ⟨.tmp, .nilc (.t 0), .none⟩, ⟨.tmp, .faddr 1 (.t 1), .none⟩, ⟨.tmp, .load 1 false (.t 2), .none⟩, ⟨.tmp, .mov (.v 1), .none⟩, ⟨.tmp, .mov (.v 2), .none⟩, ⟨.tmp, .x (.s2b false) [(.t 5)], .none⟩, ⟨.tmp, .x (.s2ap 64 1) [(.t 6)], .none⟩, ⟨.tmp, .load 64 true (.t 7), .none⟩, ⟨.no, .x (.mput (.int .i64)) [(.t 3), (.t 4), (.t 8)], .none⟩]) (.seq (.ops [⟨(.var 3), .mov (.c (.int .i64 0)), .none⟩]) .ret)))))), [.v 3], []⟩
def c12 : AFunc := ⟨[0, 2, 3, 4, 5, 6, 7, 8, 9, 10, 11, 12, 13, 14, 19, 20, 21, 30, 50, 62, 88, 98, 111], (.seq (.ops [⟨(.var 1), .mov (.c .nilptr), .none⟩, ⟨(.var 2), .mov (.c (.int .i64 0)), .none⟩]) (.seq (.ops [⟨.tmp, .mov (.v 0), .none⟩, ⟨.tmp, .build [.nilptr, (.sl [] .nil), (.sl [] .nil), (.sl [] .nil), (.int .i64 0), (.int .i64 0), (.bool false)] [(0, 1, (.t 0)), (4, 1, (.c (.int .i64 1)))], .none⟩, ⟨.tmp, .box 7 true (.t 1), .none⟩, ⟨(.var 3), .mov (.t 2), .none⟩]) (.seq (.ops [⟨(.var 4), .mov (.c (.sl [] .nil)), .none⟩]) (.seq (.seq (.ops [⟨.tmp, .mov (.v 0), .none⟩, ⟨(.var 14), .gcall 47 [(.t 0)], .none⟩, ⟨(.var 15), .mov (.c (.int .i64 0)), .none⟩]) (.block 0 (.loop (.seq (.ops [⟨(.var 16), .bin .lss .arith (.v 15) (.v 14), .none⟩]) (.seq (.cond (.v 16) .skip (.exit 0)) (.seq (.block 1 (.seq (.ops [⟨.tmp, .mov (.v 15), .none⟩, ⟨(.var 5), .mov (.t 0), .none⟩]) (.seq (.ops [⟨.tmp, .mov (.v 0), .none⟩, ⟨.tmp, .mov (.v 5), .none⟩, ⟨.tmp, .call (.c (.fn 48 [])) [(.t 0), (.t 1)], .none⟩, ⟨.tmp, .mov (.t 2), .none⟩, ⟨.tmp, .ext (.t 3) 0, .none⟩, ⟨.tmp, .ext (.t 3) 1, .none⟩, ⟨(.var 6), .mov (.t 4), .none⟩, ⟨(.var 7), .mov (.t 5), .none⟩]) (.seq (.seq (.ops [⟨.tmp, .mov (.v 7), .none⟩, ⟨(.var 17), .bin .neq .arith (.t 0) (.c (.int .i64 0)), .none⟩]) (.cond (.v 17) (.seq (.ops [⟨.tmp, .mov (.v 7), .none⟩, ⟨(.var 1), .mov (.c .nilptr), .none⟩, ⟨(.var 2), .mov (.t 0), .none⟩]) .ret) .skip)) (.seq (.ops [⟨.tmp, .mov (.v 6), .none⟩, ⟨.tmp, .pcall 49 [(.t 0)], .none⟩, ⟨(.var 8), .alloc 94 5 true [(.int .i64 0), (.int .i64 0), (.int .i64 0), (.str []), (.bool false)], .none⟩, ⟨.no, .store 5 (.v 8) (.t 1), .none⟩]) (.seq (.ops [⟨.tmp, .mov (.v 4), .none⟩, ⟨.tmp, .load 5 true (.v 8), .none⟩, ⟨.tmp, .lit 0 94 1 5 true [(.int .i64 0), (.int .i64 0), (.int .i64 0), (.str []), (.bool false)] [(0, (.t 1))], .none⟩, ⟨.tmp, .append false 94 48 5 true (.t 0) (.t 2), .none⟩, ⟨(.var 4), .mov (.t 3), .none⟩]) (.seq (.ops [⟨.tmp, .mov (.v 6), .none⟩, ⟨.tmp, .slen (.t 0), .none⟩, ⟨.tmp, .bin .eql .arith (.t 1) (.c (.int .i64 64)), .none⟩, ⟨.tmp, .mov (.t 2), .none⟩, ⟨.tmp, .mov (.v 6), (some ((.t 3), true))⟩, ⟨.tmp, .x (.s2b false) [(.t 4)], (some ((.t 3), true))⟩, ⟨.tmp, .x (.s2ap 64 1) [(.t 5)], (some ((.t 3), true))⟩, ⟨.tmp, .load 64 true (.t 6), (some ((.t 3), true))⟩, ⟨.tmp, .build (List.replicate 64 (.int .u8 0)) [], (some ((.t 3), true))⟩, ⟨.tmp, .bin .eql (.struct (List.replicate 64 .int)) (.t 7) (.t 8), (some ((.t 3), true))⟩, ⟨.tmp, .pick (.t 3) (.t 9) (.c (.bool false)), .none⟩, ⟨(.var 9), .mov (.t 10), .none⟩]) (.seq (.seq (.ops [⟨.tmp, .mov (.v 9), .none⟩, ⟨(.var 18), .un .not (.t 0), .none⟩]) (.cond (.v 18) (.ops [⟨.tmp, .mov (.v 3), .none⟩, ⟨.tmp, .mov (.v 5), .none⟩, ⟨.tmp, .bin .add .arith (.t 1) (.c (.int .i64 1)), .none⟩, ⟨.tmp, .nilc (.t 0), .none⟩, ⟨.tmp, .faddr 5 (.t 3), .none⟩, ⟨.no, .store 1 (.t 4) (.t 2), .none⟩]) .skip)) (.seq (.seq (.ops [⟨.tmp, .faddr 4 (.v 8), .none⟩, ⟨.tmp, .load 1 false (.t 0), .none⟩, ⟨.tmp, .un .not (.t 1), .none⟩, ⟨.tmp, .mov (.t 2), .none⟩, ⟨.tmp, .mov (.v 9), (some ((.t 3), true))⟩, ⟨.tmp, .un .not (.t 4), (some ((.t 3), true))⟩, ⟨(.var 19), .pick (.t 3) (.t 5) (.c (.bool false)), .none⟩]) (.cond (.v 19) (.ops [⟨.tmp, .mov (.v 3), .none⟩, ⟨.tmp, .mov (.v 3), .none⟩, ⟨.tmp, .nilc (.t 1), .none⟩, ⟨.tmp, .faddr 2 (.t 2), .none⟩, ⟨.tmp, .load 1 false (.t 3), .none⟩, ⟨.tmp, .mov (.v 5), .none⟩, ⟨.tmp, .lit 0 3 1 1 false [(.int .i64 0)] [(0, (.t 5))], .none⟩, ⟨.tmp, .append false 3 8 1 false (.t 4) (.t 6), .none⟩, ⟨.tmp, .nilc (.t 0), .none⟩, ⟨.tmp, .faddr 2 (.t 8), .none⟩, ⟨.no, .store 1 (.t 9) (.t 7), .none⟩]) .skip)) (.ops [⟨.tmp, .mov (.v 3), .none⟩, ⟨.tmp, .mov (.v 3), .none⟩, ⟨.tmp, .nilc (.t 1), .none⟩, ⟨.tmp, .faddr 4 (.t 2), .none⟩, ⟨.tmp, .load 1 false (.t 3), .none⟩, ⟨.tmp, .faddr 0 (.v 8), .none⟩, ⟨.tmp, .load 1 false (.t 5), .none⟩, ⟨.tmp, .bin .add .arith (.t 6) (.c (.int .i64 1)), .none⟩, ⟨.tmp, .mnx true (.t 4) (.t 7), .none⟩, ⟨.tmp, .nilc (.t 0), .none⟩, ⟨.tmp, .faddr 4 (.t 9), .none⟩, ⟨.no, .store 1 (.t 10) (.t 8), .none⟩])))))))))) (.ops [⟨.tmp, .bin .add .arith (.v 15) (.c (.int .i64 1)), .none⟩, ⟨(.var 15), .mov (.t 0), .none⟩]))))))) (.seq (.seq (.ops [⟨(.var 10), .mov (.c (.int .i64 0)), .none⟩]) (.block 2 (.loop (.seq (.seq (.ops [⟨.tmp, .mov (.v 10), .none⟩, ⟨.tmp, .mov (.v 4), .none⟩, ⟨.tmp, .len (.t 1), .none⟩, ⟨(.var 20), .bin .lss .arith (.t 0) (.t 2), .none⟩]) (.cond (.v 20) .skip (.exit 2))) (.block 3 (.seq (.ops [⟨.tmp, .mov (.v 4), .none⟩, ⟨.tmp, .mov (.v 10), .none⟩, ⟨.tmp, .slice 5 (.t 0) (some (.t 1)) .none, .none⟩, ⟨.tmp, .pcall 50 [(.t 2)], .none⟩, ⟨.tmp, .mov (.t 3), .none⟩, ⟨.tmp, .ext (.t 4) 0, .none⟩, ⟨.tmp, .ext (.t 4) 1, .none⟩, ⟨.tmp, .ext (.t 4) 2, .none⟩, ⟨(.var 11), .mov (.t 5), .none⟩, ⟨(.var 12), .mov (.t 6), .none⟩, ⟨(.var 13), .mov (.t 7), .none⟩]) (.seq (.seq (.ops [⟨.tmp, .mov (.v 13), .none⟩, ⟨(.var 21), .un .not (.t 0), .none⟩]) (.cond (.v 21) (.seq (.ops [⟨.tmp, .mov (.v 10), .none⟩, ⟨.tmp, .bin .add .arith (.t 0) (.c (.int .i64 1)), .none⟩, ⟨(.var 10), .mov (.t 1), .none⟩]) (.exit 3)) .skip)) (.seq (.seq (.ops [⟨.tmp, .mov (.v 3), .none⟩, ⟨.tmp, .nilc (.t 0), .none⟩, ⟨.tmp, .faddr 1 (.t 1), .none⟩, ⟨.tmp, .load 1 false (.t 2), .none⟩, ⟨.tmp, .mov (.v 4), .none⟩, ⟨.tmp, .mov (.v 10), .none⟩, ⟨.tmp, .iaddr 5 (.t 4) (.t 5), .none⟩, ⟨.tmp, .faddr 0 (.t 6), .none⟩, ⟨.tmp, .load 1 false (.t 7), .none⟩, ⟨.tmp, .pcall 51 [(.t 3), (.t 8)], .none⟩, ⟨(.var 22), .un .not (.t 9), .none⟩]) (.cond (.v 22) (.ops [⟨.tmp, .mov (.v 3), .none⟩, ⟨.tmp, .mov (.v 3), .none⟩, ⟨.tmp, .mov (.v 3), .none⟩, ⟨.tmp, .nilc (.t 2), .none⟩, ⟨.tmp, .faddr 1 (.t 3), .none⟩, ⟨.tmp, .load 1 false (.t 4), .none⟩, ⟨.tmp, .mov (.v 4), .none⟩, ⟨.tmp, .mov (.v 10), .none⟩, ⟨.tmp, .iaddr 5 (.t 6) (.t 7), .none⟩, ⟨.tmp, .faddr 0 (.t 8), .none⟩, ⟨.tmp, .load 1 false (.t 9), .none⟩, ⟨.tmp, .lit 0 3 1 1 false [(.int .i64 0)] [(0, (.t 10))], .none⟩, ⟨.tmp, .append false 3 8 1 false (.t 5) (.t 11), .none⟩, ⟨.tmp, .mov (.v 3), .none⟩, ⟨.tmp, .nilc (.t 13), .none⟩, ⟨.tmp, .faddr 3 (.t 14), .none⟩, ⟨.tmp, .load 1 false (.t 15), .none⟩, ⟨.tmp, .mov (.v 11), .none⟩, ⟨.tmp, .lit 0 9 1 1 false [(.str [])] [(0, (.t 17))], .none⟩, ⟨.tmp, .append false 9 16 1 false (.t 16) (.t 18), .none⟩, ⟨.tmp, .nilc (.t 0), .none⟩, ⟨.tmp, .faddr 1 (.t 20), .none⟩, ⟨.no, .store 1 (.t 21) (.t 12), .none⟩, ⟨.tmp, .nilc (.t 1), .none⟩, ⟨.tmp, .faddr 3 (.t 23), .none⟩, ⟨.no, .store 1 (.t 24) (.t 19), .none⟩]) .skip)) (.ops [⟨.tmp, .mov (.v 10), .none⟩, ⟨.tmp, .mov (.v 12), .none⟩, ⟨.tmp, .bin .add .arith (.t 0) (.t 1), .none⟩, ⟨(.var 10), .mov (.t 2), .none⟩]))))))))) (.seq (.ops [⟨.tmp, .mov (.v 3), .none⟩, ⟨(.var 1), .mov (.t 0), .none⟩, ⟨(.var 2), .mov (.c (.int .i64 0)), .none⟩]) .ret)))))), [.v 1, .v 2], []⟩
def c15 : AFunc := ⟨[0, 1, 4, 5, 6, 7, 8, 9, 10, 11, 13, 15, 26, 37, 38, 39, 40, 41, 52], (.seq (.ops [⟨(.var 2), .mov (.c .nilptr), .none⟩, ⟨(.var 3), .mov (.c (.sl [] .nil)), .none⟩, ⟨(.var 4), .mov (.c (.bool false)), .none⟩]) (.seq (.ops [⟨.tmp, .mov (.v 0), .none⟩, ⟨.tmp, .call (.c (.fn 8 [])) [(.t 0)], .none⟩, ⟨.tmp, .mov (.t 1), .none⟩, ⟨.tmp, .ext (.t 2) 0, .none⟩, ⟨.tmp, .ext (.t 2) 1, .none⟩, ⟨(.var 5), .mov (.t 3), .none⟩, ⟨(.var 6), .mov (.t 4), .none⟩]) (.seq (.seq (.ops [⟨.tmp, .mov (.v 6), .none⟩, ⟨.tmp, .bin .neq .arith (.t 0) (.c (.int .i64 0)), .none⟩, ⟨.tmp, .mov (.t 1), .none⟩, ⟨.tmp, .mov (.v 5), (some ((.t 2), false))⟩, ⟨.tmp, .bin .eql .ptr (.t 3) (.c .nilptr), (some ((.t 2), false))⟩, ⟨(.var 12), .pick (.t 2) (.c (.bool true)) (.t 4), .none⟩]) (.cond (.v 12) (.seq (.ops [⟨(.var 2), .mov (.c .nilptr), .none⟩, ⟨(.var 3), .mov (.c (.sl [] .nil)), .none⟩, ⟨(.var 4), .mov (.c (.bool false)), .none⟩]) .ret) .skip)) (.seq (.ops [⟨.tmp, .mov (.v 5), .none⟩, ⟨.tmp, .call (.c (.fn 12 [])) [(.t 0)], .none⟩, ⟨.tmp, .mov (.t 1), .none⟩, ⟨.tmp, .ext (.t 2) 0, .none⟩, ⟨.tmp, .ext (.t 2) 1, .none⟩, ⟨(.var 7), .mov (.t 3), .none⟩, ⟨(.var 8), .mov (.t 4), .none⟩]) (.seq (.seq (.ops [⟨.tmp, .mov (.v 8), .none⟩, ⟨.tmp, .bin .neq .arith (.t 0) (.c (.int .i64 0)), .none⟩, ⟨.tmp, .mov (.t 1), .none⟩, ⟨.tmp, .mov (.v 7), (some ((.t 2), false))⟩, ⟨.tmp, .bin .eql .ptr (.t 3) (.c .nilptr), (some ((.t 2), false))⟩, ⟨(.var 13), .pick (.t 2) (.c (.bool true)) (.t 4), .none⟩]) (.cond (.v 13) (.seq (.ops [⟨(.var 2), .mov (.c .nilptr), .none⟩, ⟨(.var 3), .mov (.c (.sl [] .nil)), .none⟩, ⟨(.var 4), .mov (.c (.bool false)), .none⟩]) .ret) .skip)) (.seq (.ops [⟨(.var 9), .mov (.c (.sl [] .nil)), .none⟩]) (.seq (.seq (.ops [⟨(.var 14), .mov (.v 1), .none⟩, ⟨(.var 15), .len (.v 14), .none⟩, ⟨(.var 16), .mov (.c (.int .i64 0)), .none⟩]) (.block 0 (.loop (.seq (.ops [⟨(.var 17), .bin .lss .arith (.v 16) (.v 15), .none⟩]) (.seq (.cond (.v 17) .skip (.exit 0)) (.seq (.block 1 (.seq (.ops [⟨.tmp, .iaddr 6 (.v 14) (.v 16), .none⟩, ⟨.tmp, .load 6 true (.t 0), .none⟩, ⟨(.var 10), .alloc 56 6 true [(.int .i64 0), (.int .i64 0), (.int .i64 0), (.int .i64 0), (.int .u8 0), (.sl [] .nil)], .none⟩, ⟨.no, .store 6 (.v 10) (.t 1), .none⟩]) (.seq (.ops [⟨.tmp, .mov (.v 7), .none⟩, ⟨.tmp, .load 6 true (.v 10), .none⟩, ⟨.tmp, .pcall 27 [(.t 1)], .none⟩, ⟨.tmp, .call (.c (.fn 26 [])) [(.t 0), (.t 2)], .none⟩, ⟨.tmp, .mov (.t 3), .none⟩, ⟨.tmp, .ext (.t 4) 0, .none⟩, ⟨.tmp, .ext (.t 4) 1, .none⟩, ⟨.tmp, .mov (.t 5), .none⟩, ⟨(.var 11), .mov (.t 6), .none⟩]) (.seq (.ops [⟨.tmp, .mov (.v 11), .none⟩, ⟨(.var 18), .bin .eql .arith (.t 0) (.c (.int .i64 0)), .none⟩]) (.cond (.v 18) (.ops [⟨.tmp, .mov (.v 9), .none⟩, ⟨.tmp, .load 6 true (.v 10), .none⟩, ⟨.tmp, .pcall 27 [(.t 1)], .none⟩, ⟨.tmp, .lit 0 9 1 1 false [(.str [])] [(0, (.t 2))], .none⟩, ⟨.tmp, .append false 9 16 1 false (.t 0) (.t 3), .none⟩, ⟨(.var 9), .mov (.t 4), .none⟩]) .skip))))) (.ops [⟨.tmp, .bin .add .arith (.v 16) (.c (.int .i64 1)), .none⟩, ⟨(.var 16), .mov (.t 0), .none⟩]))))))) (.seq (.ops [⟨.tmp, .mov (.v 5), .none⟩, ⟨.tmp, .mov (.v 9), .none⟩, ⟨(.var 2), .mov (.t 0), .none⟩, ⟨(.var 3), .mov (.t 1), .none⟩, ⟨(.var 4), .mov (.c (.bool true)), .none⟩]) .ret)))))))), [.v 2, .v 3, .v 4], []⟩
def c16 : AFunc := ⟨[0, 2, 8], (.seq (.ops [⟨(.var 1), .mov (.c (.int .i64 0)), .none⟩]) (.seq (.seq (.ops [⟨.tmp, .mov (.v 0), .none⟩, ⟨.tmp, .bin .lss .arith (.t 0) (.c (.int .i64 0)), .none⟩, ⟨.tmp, .mov (.t 1), .none⟩, ⟨.tmp, .mov (.v 0), (some ((.t 2), false))⟩, ⟨.tmp, .bin .gtr .arith (.t 3) (.c (.int .i64 8000)), (some ((.t 2), false))⟩, ⟨(.var 2), .pick (.t 2) (.c (.bool true)) (.t 4), .none⟩]) (.cond (.v 2) (.seq (.ops [⟨(.var 1), .mov (.c (.int .i64 0)), .none⟩]) .ret) .skip)) (.seq (.ops [⟨.tmp, .mov (.v 0), .none⟩, ⟨.tmp, .bin .add .arith (.t 0) (.c (.int .i64 48)), .none⟩, ⟨.tmp, .bin .sub .arith (.t 1) (.c (.int .i64 1)), .none⟩, ⟨.tmp, .bin .quo .arith (.t 2) (.c (.int .i64 48)), .none⟩, ⟨.tmp, .mnx true (.c (.int .i64 1)) (.t 3), .none⟩, ⟨(.var 1), .mov (.t 4), .none⟩]) .ret))), [.v 1], []⟩
def c17 : AFunc := ⟨[0, 1, 2, 6, 25], (.seq (.ops [⟨(.var 3), .mov (.c (.int .i64 0)), .none⟩]) (.seq (.seq (.ops [⟨.tmp, .mov (.v 1), .none⟩, ⟨.tmp, .bin .lss .arith (.t 0) (.c (.int .i64 0)), .none⟩, ⟨.tmp, .mov (.t 1), .none⟩, ⟨.tmp, .mov (.v 1), (some ((.t 2), false))⟩, ⟨.tmp, .mov (.v 0), (some ((.t 2), false))⟩, ⟨.tmp, .nilc (.t 4), (some ((.t 2), false))⟩, ⟨.tmp, .faddr 0 (.t 5), (some ((.t 2), false))⟩, ⟨.tmp, .load 1 false (.t 6), (some ((.t 2), false))⟩, ⟨.tmp, .len (.t 7), (some ((.t 2), false))⟩, ⟨.tmp, .bin .geq .arith (.t 3) (.t 8), (some ((.t 2), false))⟩, ⟨.tmp, .pick (.t 2) (.c (.bool true)) (.t 9), .none⟩, ⟨.tmp, .mov (.t 10), .none⟩, ⟨.tmp, .mov (.v 2), (some ((.t 11), false))⟩, ⟨.tmp, .bin .lss .arith (.t 12) (.c (.int .i64 0)), (some ((.t 11), false))⟩, ⟨.tmp, .pick (.t 11) (.c (.bool true)) (.t 13), .none⟩, ⟨.tmp, .mov (.t 14), .none⟩, ⟨.tmp, .mov (.v 2), (some ((.t 15), false))⟩, ⟨.tmp, .bin .geq .arith (.t 16) (.c (.int .i64 512)), (some ((.t 15), false))⟩, ⟨(.var 4), .pick (.t 15) (.c (.bool true)) (.t 17), .none⟩]) (.cond (.v 4) (.seq (.ops [⟨(.var 3), .mov (.c (.int .i64 1)), .none⟩]) .ret) .skip)) (.seq (.ops [⟨.tmp, .mov (.v 0), .none⟩, ⟨.tmp, .nilc (.t 0), .none⟩, ⟨.tmp, .faddr 0 (.t 1), .none⟩, ⟨.tmp, .load 1 false (.t 2), .none⟩, ⟨.tmp, .mov (.v 1), .none⟩, ⟨.tmp, .mov (.v 2), .none⟩, ⟨.tmp, .bin .quo .arith (.t 5) (.c (.int .i64 8)), .none⟩, ⟨.tmp, .iaddr 64 (.t 3) (.t 4), .none⟩, ⟨.tmp, .aaddr 64 1 (.t 7) (.t 6), .none⟩, ⟨.tmp, .load 1 false (.t 8), .none⟩, ⟨.tmp, .mov (.v 2), .none⟩, ⟨.tmp, .bin .rem .arith (.t 10) (.c (.int .i64 8)), .none⟩, ⟨.tmp, .bin .shl .arith (.c (.int .u8 1)) (.t 11), .none⟩, ⟨.tmp, .bin .xor .arith (.t 9) (.t 12), .none⟩, ⟨.tmp, .iaddr 64 (.t 3) (.t 4), .none⟩, ⟨.tmp, .aaddr 64 1 (.t 14) (.t 6), .none⟩, ⟨.no, .store 1 (.t 15) (.t 13), .none⟩]) (.seq (.ops [⟨(.var 3), .mov (.c (.int .i64 0)), .none⟩]) .ret)))), [.v 3], []⟩
def c18 : AFunc := ⟨[0, 1, 4, 6, 7, 8, 9, 10, 11, 12, 13, 20, 25, 55], (.seq (.ops [⟨(.var 2), .mov (.c (.bool false)), .none⟩]) (.seq (.seq (.ops [⟨(.var 7), .mov (.v 0), .none⟩, ⟨(.var 8), .len (.v 7), .none⟩, ⟨(.var 9), .mov (.c (.int .i64 0)), .none⟩]) (.block 0 (.loop (.seq (.ops [⟨(.var 10), .bin .lss .arith (.v 9) (.v 8), .none⟩]) (.seq (.cond (.v 10) .skip (.exit 0)) (.seq (.block 1 (.seq (.ops [⟨.tmp, .iaddr 1 (.v 7) (.v 9), .none⟩, ⟨.tmp, .load 1 false (.t 0), .none⟩, ⟨(.var 3), .mov (.t 1), .none⟩]) (.seq (.ops [⟨.tmp, .mov (.v 3), .none⟩, ⟨.tmp, .pcall 54 [(.t 0)], .none⟩, ⟨(.var 4), .alloc 102 5 true [(.int .i64 0), (.int .i64 0), (.int .i64 0), (.str []), (.bool false)], .none⟩, ⟨.no, .store 5 (.v 4) (.t 1), .none⟩]) (.seq (.seq (.ops [⟨.tmp, .faddr 4 (.v 4), .none⟩, ⟨.tmp, .load 1 false (.t 0), .none⟩, ⟨(.var 11), .un .not (.t 1), .none⟩]) (.cond (.v 11) (.exit 1) .skip)) (.seq (.seq (.ops [⟨.tmp, .faddr 0 (.v 4), .none⟩, ⟨.tmp, .load 1 false (.t 0), .none⟩, ⟨.tmp, .mov (.v 1), .none⟩, ⟨.tmp, .len (.t 2), .none⟩, ⟨(.var 12), .bin .gtr .arith (.t 1) (.t 3), .none⟩]) (.cond (.v 12) (.seq (.ops [⟨(.var 2), .mov (.c (.bool false)), .none⟩]) .ret) .skip)) (.seq (.ops [⟨.tmp, .faddr 0 (.v 4), .none⟩, ⟨.tmp, .load 1 false (.t 0), .none⟩, ⟨.tmp, .mov (.v 1), .none⟩, ⟨.tmp, .faddr 0 (.v 4), .none⟩, ⟨.tmp, .load 1 false (.t 3), .none⟩, ⟨.tmp, .bin .sub .arith (.t 4) (.c (.int .i64 1)), .none⟩, ⟨.tmp, .iaddr 1 (.t 2) (.t 5), .none⟩, ⟨.tmp, .load 1 false (.t 6), .none⟩, ⟨.tmp, .pcall 60 [(.t 1), (.t 7)], .none⟩, ⟨.tmp, .mov (.t 8), .none⟩, ⟨.tmp, .ext (.t 9) 0, .none⟩, ⟨.tmp, .ext (.t 9) 1, .none⟩, ⟨(.var 5), .mov (.t 10), .none⟩, ⟨(.var 6), .mov (.t 11), .none⟩]) (.seq (.ops [⟨.tmp, .mov (.v 6), .none⟩, ⟨.tmp, .bin .neq .arith (.t 0) (.c (.int .i64 0)), .none⟩, ⟨.tmp, .mov (.t 1), .none⟩, ⟨.tmp, .faddr 1 (.v 4), (some ((.t 2), false))⟩, ⟨.tmp, .load 1 false (.t 3), (some ((.t 2), false))⟩, ⟨.tmp, .mov (.v 5), (some ((.t 2), false))⟩, ⟨.tmp, .len (.t 5), (some ((.t 2), false))⟩, ⟨.tmp, .bin .geq .arith (.t 4) (.t 6), (some ((.t 2), false))⟩, ⟨.tmp, .pick (.t 2) (.c (.bool true)) (.t 7), .none⟩, ⟨.tmp, .mov (.t 8), .none⟩, ⟨.tmp, .mov (.v 5), (some ((.t 9), false))⟩, ⟨.tmp, .faddr 1 (.v 4), (some ((.t 9), false))⟩, ⟨.tmp, .load 1 false (.t 11), (some ((.t 9), false))⟩, ⟨.tmp, .iaddr 1 (.t 10) (.t 12), (some ((.t 9), false))⟩, ⟨.tmp, .load 1 false (.t 13), (some ((.t 9), false))⟩, ⟨.tmp, .mov (.v 3), (some ((.t 9), false))⟩, ⟨.tmp, .bin .neq .arith (.t 14) (.t 15), (some ((.t 9), false))⟩, ⟨(.var 13), .pick (.t 9) (.c (.bool true)) (.t 16), .none⟩]) (.cond (.v 13) (.seq (.ops [⟨(.var 2), .mov (.c (.bool false)), .none⟩]) .ret) .skip)))))))) (.ops [⟨.tmp, .bin .add .arith (.v 9) (.c (.int .i64 1)), .none⟩, ⟨(.var 9), .mov (.t 0), .none⟩]))))))) (.seq (.ops [⟨(.var 2), .mov (.c (.bool true)), .none⟩]) .ret))), [.v 2], []⟩
def c19 : AFunc := ⟨[0, 2, 3, 4, 15, 16, 17], (.seq (.ops [⟨(.var 1), .mov (.c (.sl [] .nil)), .none⟩]) (.seq (.ops [⟨.tmp, .mov (.v 0), .none⟩, ⟨.tmp, .nilc (.t 0), .none⟩, ⟨.tmp, .faddr 0 (.t 1), .none⟩, ⟨.tmp, .load 1 false (.t 2), .none⟩, ⟨.tmp, .len (.t 3), .none⟩, ⟨.tmp, .mksl 16 1 false [(.str [])] (.t 4) (.t 4), .none⟩, ⟨(.var 2), .mov (.t 5), .none⟩]) (.seq (.seq (.ops [⟨.tmp, .mov (.v 0), .none⟩, ⟨.tmp, .nilc (.t 0), .none⟩, ⟨.tmp, .faddr 0 (.t 1), .none⟩, ⟨.tmp, .load 1 false (.t 2), .none⟩, ⟨(.var 4), .len (.t 3), .none⟩, ⟨(.var 5), .mov (.c (.int .i64 0)), .none⟩]) (.block 0 (.loop (.seq (.ops [⟨(.var 6), .bin .lss .arith (.v 5) (.v 4), .none⟩]) (.seq (.cond (.v 6) .skip (.exit 0)) (.seq (.block 1 (.seq (.ops [⟨.tmp, .mov (.v 5), .none⟩, ⟨(.var 3), .mov (.t 0), .none⟩]) (.ops [⟨.tmp, .mov (.v 2), .none⟩, ⟨.tmp, .mov (.v 3), .none⟩, ⟨.tmp, .mov (.v 0), .none⟩, ⟨.tmp, .nilc (.t 2), .none⟩, ⟨.tmp, .faddr 0 (.t 3), .none⟩, ⟨.tmp, .load 1 false (.t 4), .none⟩, ⟨.tmp, .mov (.v 3), .none⟩, ⟨.tmp, .iaddr 64 (.t 5) (.t 6), .none⟩, ⟨.tmp, .x (.aslice 64 1 false false false) [(.t 7)], .none⟩, ⟨.tmp, .x .b2s [(.t 8)], .none⟩, ⟨.tmp, .iaddr 1 (.t 0) (.t 1), .none⟩, ⟨.no, .store 1 (.t 10) (.t 9), .none⟩]))) (.ops [⟨.tmp, .bin .add .arith (.v 5) (.c (.int .i64 1)), .none⟩, ⟨(.var 5), .mov (.t 0), .none⟩]))))))) (.seq (.ops [⟨.tmp, .mov (.v 2), .none⟩, ⟨(.var 1), .mov (.t 0), .none⟩]) .ret)))), [.v 1], []⟩
def c20 : AFunc := ⟨[0, 1, 4, 5, 10, 14, 25], (.seq (.ops [⟨(.var 2), .mov (.c (.bool false)), .none⟩]) (.seq (.seq (.ops [⟨.tmp, .mov (.v 0), .none⟩, ⟨.tmp, .len (.t 0), .none⟩, ⟨.tmp, .mov (.v 1), .none⟩, ⟨.tmp, .len (.t 2), .none⟩, ⟨(.var 4), .bin .neq .arith (.t 1) (.t 3), .none⟩]) (.cond (.v 4) (.seq (.ops [⟨(.var 2), .mov (.c (.bool false)), .none⟩]) .ret) .skip)) (.seq (.seq (.ops [⟨(.var 3), .mov (.c (.int .i64 0)), .none⟩]) (.block 0 (.loop (.seq (.seq (.ops [⟨.tmp, .mov (.v 3), .none⟩, ⟨.tmp, .mov (.v 0), .none⟩, ⟨.tmp, .len (.t 1), .none⟩, ⟨(.var 5), .bin .lss .arith (.t 0) (.t 2), .none⟩]) (.cond (.v 5) .skip (.exit 0))) (.seq (.block 1 (.seq (.ops [⟨.tmp, .mov (.v 0), .none⟩, ⟨.tmp, .mov (.v 3), .none⟩, ⟨.tmp, .iaddr 1 (.t 0) (.t 1), .none⟩, ⟨.tmp, .load 1 false (.t 2), .none⟩, ⟨.tmp, .mov (.v 1), .none⟩, ⟨.tmp, .mov (.v 3), .none⟩, ⟨.tmp, .iaddr 1 (.t 4) (.t 5), .none⟩, ⟨.tmp, .load 1 false (.t 6), .none⟩, ⟨(.var 6), .bin .neq .arith (.t 3) (.t 7), .none⟩]) (.cond (.v 6) (.seq (.ops [⟨(.var 2), .mov (.c (.bool false)), .none⟩]) .ret) .skip))) (.ops [⟨.tmp, .mov (.v 3), .none⟩, ⟨.tmp, .bin .add .arith (.t 0) (.c (.int .i64 1)), .none⟩, ⟨(.var 3), .mov (.t 1), .none⟩])))))) (.seq (.ops [⟨(.var 2), .mov (.c (.bool true)), .none⟩]) .ret)))), [.v 2], []⟩
def c21 : AFunc := ⟨[0, 2], (.seq (.ops [⟨(.var 1), .mov (.c (.sl [] .nil)), .none⟩]) (.seq (.ops [⟨.tmp, .mov (.v 0), .none⟩, ⟨.tmp, .nilc (.t 0), .none⟩, ⟨.tmp, .faddr 3 (.t 1), .none⟩, ⟨.tmp, .load 1 false (.t 2), .none⟩, ⟨.tmp, .call (.c (.fn 61 [])) [(.t 3)], .none⟩, ⟨(.var 1), .mov (.t 4), .none⟩]) .ret)), [.v 1], []⟩
def c22 : AFunc := ⟨[0, 2], (.seq (.ops [⟨(.var 1), .mov (.c (.sl [] .nil)), .none⟩]) (.seq (.ops [⟨.tmp, .mov (.v 0), .none⟩, ⟨.tmp, .nilc (.t 0), .none⟩, ⟨.tmp, .faddr 2 (.t 1), .none⟩, ⟨.tmp, .load 1 false (.t 2), .none⟩, ⟨.tmp, .call (.c (.fn 62 [])) [(.t 3)], .none⟩, ⟨(.var 1), .mov (.t 4), .none⟩]) .ret)), [.v 1], []⟩
def c23 : AFunc := ⟨[0, 1, 4, 5, 10, 14, 25], (.seq (.ops [⟨(.var 2), .mov (.c (.bool false)), .none⟩]) (.seq (.seq (.ops [⟨.tmp, .mov (.v 0), .none⟩, ⟨.tmp, .len (.t 0), .none⟩, ⟨.tmp, .mov (.v 1), .none⟩, ⟨.tmp, .len (.t 2), .none⟩, ⟨(.var 4), .bin .neq .arith (.t 1) (.t 3), .none⟩]) (.cond (.v 4) (.seq (.ops [⟨(.var 2), .mov (.c (.bool false)), .none⟩]) .ret) .skip)) (.seq (.seq (.ops [⟨(.var 3), .mov (.c (.int .i64 0)), .none⟩]) (.block 0 (.loop (.seq (.seq (.ops [⟨.tmp, .mov (.v 3), .none⟩, ⟨.tmp, .mov (.v 0), .none⟩, ⟨.tmp, .len (.t 1), .none⟩, ⟨(.var 5), .bin .lss .arith (.t 0) (.t 2), .none⟩]) (.cond (.v 5) .skip (.exit 0))) (.seq (.block 1 (.seq (.ops [⟨.tmp, .mov (.v 0), .none⟩, ⟨.tmp, .mov (.v 3), .none⟩, ⟨.tmp, .iaddr 1 (.t 0) (.t 1), .none⟩, ⟨.tmp, .load 1 false (.t 2), .none⟩, ⟨.tmp, .mov (.v 1), .none⟩, ⟨.tmp, .mov (.v 3), .none⟩, ⟨.tmp, .iaddr 1 (.t 4) (.t 5), .none⟩, ⟨.tmp, .load 1 false (.t 6), .none⟩, ⟨(.var 6), .bin .neq .arith (.t 3) (.t 7), .none⟩]) (.cond (.v 6) (.seq (.ops [⟨(.var 2), .mov (.c (.bool false)), .none⟩]) .ret) .skip))) (.ops [⟨.tmp, .mov (.v 3), .none⟩, ⟨.tmp, .bin .add .arith (.t 0) (.c (.int .i64 1)), .none⟩, ⟨(.var 3), .mov (.t 1), .none⟩])))))) (.seq (.ops [⟨(.var 2), .mov (.c (.bool true)), .none⟩]) .ret)))), [.v 2], []⟩
def c24 : AFunc := ⟨[0, 2, 3, 5, 6, 7, 12, 13, 14, 15, 26, 32], (.seq (.ops [⟨(.var 1), .mov (.c (.sl [] .nil)), .none⟩]) (.seq (.ops [⟨.tmp, .x (.mkmap (.int .i64)) [], .none⟩, ⟨(.var 2), .mov (.t 0), .none⟩]) (.seq (.seq (.ops [⟨.tmp, .mov (.v 0), .none⟩, ⟨.tmp, .nilc (.t 0), .none⟩, ⟨.tmp, .faddr 1 (.t 1), .none⟩, ⟨(.var 6), .load 1 false (.t 2), .none⟩, ⟨(.var 7), .len (.v 6), .none⟩, ⟨(.var 8), .mov (.c (.int .i64 0)), .none⟩]) (.block 0 (.loop (.seq (.ops [⟨(.var 9), .bin .lss .arith (.v 8) (.v 7), .none⟩]) (.seq (.cond (.v 9) .skip (.exit 0)) (.seq (.block 1 (.seq (.ops [⟨.tmp, .iaddr 1 (.v 6) (.v 8), .none⟩, ⟨.tmp, .load 1 false (.t 0), .none⟩, ⟨(.var 3), .mov (.t 1), .none⟩]) (.ops [⟨.tmp, .mov (.v 2), .none⟩, ⟨.tmp, .mov (.v 3), .none⟩, ⟨.no, .x (.mput (.int .i64)) [(.t 0), (.t 1), (.c (.bool true))], .none⟩]))) (.ops [⟨.tmp, .bin .add .arith (.v 8) (.c (.int .i64 1)), .none⟩, ⟨(.var 8), .mov (.t 0), .none⟩]))))))) (.seq (.ops [⟨(.var 4), .mov (.c (.sl [] .nil)), .none⟩]) (.seq (.seq (.ops [⟨(.var 5), .mov (.c (.int .i64 1)), .none⟩]) (.block 2 (.loop (.seq (.seq (.ops [⟨.tmp, .mov (.v 5), .none⟩, ⟨.tmp, .mov (.v 0), .none⟩, ⟨.tmp, .nilc (.t 1), .none⟩, ⟨.tmp, .faddr 4 (.t 2), .none⟩, ⟨.tmp, .load 1 false (.t 3), .none⟩, ⟨(.var 10), .bin .lss .arith (.t 0) (.t 4), .none⟩]) (.cond (.v 10) .skip (.exit 2))) (.seq (.block 3 (.seq (.ops [⟨.tmp, .mov (.v 2), .none⟩, ⟨.tmp, .mov (.v 5), .none⟩, ⟨.tmp, .x (.mlook (.int .i64) (.bool false) false) [(.t 0), (.t 1)], .none⟩, ⟨(.var 11), .un .not (.t 2), .none⟩]) (.cond (.v 11) (.ops [⟨.tmp, .mov (.v 4), .none⟩, ⟨.tmp, .mov (.v 5), .none⟩, ⟨.tmp, .lit 0 3 1 1 false [(.int .i64 0)] [(0, (.t 1))], .none⟩, ⟨.tmp, .append false 3 8 1 false (.t 0) (.t 2), .none⟩, ⟨(.var 4), .mov (.t 3), .none⟩]) .skip))) (.ops [⟨.tmp, .mov (.v 5), .none⟩, ⟨.tmp, .bin .add .arith (.t 0) (.c (.int .i64 1)), .none⟩, ⟨(.var 5), .mov (.t 1), .none⟩])))))) (.seq (.ops [⟨.tmp, .mov (.v 4), .none⟩, ⟨(.var 1), .mov (.t 0), .none⟩]) .ret)))))), [.v 1], []⟩
def c25 : AFunc := ⟨[0, 1], (.ops [⟨.tmp, .mov (.v 0), .none⟩, ⟨.tmp, .mov (.v 1), .none⟩, ⟨.tmp, .nilc (.t 0), .none⟩, ⟨.tmp, .faddr 4 (.t 2), .none⟩, ⟨.no, .store 1 (.t 3) (.t 1), .none⟩]), [], []⟩
def c26 : AFunc := ⟨[0, 1, 4, 5, 6, 7, 8, 10, 11, 12, 17, 28, 68, 75], (.seq (.ops [⟨(.var 2), .mov (.c (.int .i64 0)), .none⟩, ⟨(.var 3), .mov (.c (.int .i64 0)), .none⟩]) (.seq (.block 0 (.seq (.ops [⟨.tmp, .mov (.v 0), .none⟩, ⟨.tmp, .nilc (.t 0), .none⟩, ⟨.tmp, .faddr 6 (.t 1), .none⟩, ⟨.tmp, .load 1 false (.t 2), .none⟩, ⟨(.var 9), .mov (.t 3), .none⟩]) (.cond (.v 9) (.seq (.ops [⟨(.var 2), .mov (.c (.int .i64 0)), .none⟩, ⟨(.var 3), .mov (.c (.int .i64 21)), .none⟩]) .ret) (.seq (.ops [⟨.tmp, .mov (.v 1), .none⟩, ⟨.tmp, .slen (.t 0), .none⟩, ⟨.tmp, .bin .gtr .arith (.t 1) (.c (.int .i64 8000)), .none⟩, ⟨.tmp, .mov (.t 2), .none⟩, ⟨.tmp, .mov (.v 0), (some ((.t 3), false))⟩, ⟨.tmp, .nilc (.t 4), (some ((.t 3), false))⟩, ⟨.tmp, .faddr 4 (.t 5), (some ((.t 3), false))⟩, ⟨.tmp, .load 1 false (.t 6), (some ((.t 3), false))⟩, ⟨.tmp, .bin .gtr .arith (.t 7) (.c (.int .i64 4096)), (some ((.t 3), false))⟩, ⟨.tmp, .pick (.t 3) (.c (.bool true)) (.t 8), .none⟩, ⟨(.var 10), .mov (.t 9), .none⟩]) (.cond (.v 10) (.seq (.ops [⟨(.var 2), .mov (.c (.int .i64 0)), .none⟩, ⟨(.var 3), .mov (.c (.int .i64 4)), .none⟩]) .ret) (.seq (.ops [⟨.tmp, .mov (.v 1), .none⟩, ⟨.tmp, .slen (.t 0), .none⟩, ⟨.tmp, .pcall 16 [(.t 1)], .none⟩, ⟨.tmp, .mov (.v 0), .none⟩, ⟨.tmp, .gcall 38 [(.t 3)], .none⟩, ⟨.tmp, .bin .gtr .arith (.t 2) (.t 4), .none⟩, ⟨(.var 11), .mov (.t 5), .none⟩]) (.cond (.v 11) (.seq (.ops [⟨(.var 2), .mov (.c (.int .i64 0)), .none⟩, ⟨(.var 3), .mov (.c (.int .i64 20)), .none⟩]) .ret) .skip))))))) (.seq (.ops [⟨.tmp, .mov (.v 0), .none⟩, ⟨.tmp, .nilc (.t 0), .none⟩, ⟨.tmp, .faddr 4 (.t 1), .none⟩, ⟨.tmp, .load 1 false (.t 2), .none⟩, ⟨.tmp, .mov (.v 0), .none⟩, ⟨.tmp, .nilc (.t 4), .none⟩, ⟨.tmp, .faddr 5 (.t 5), .none⟩, ⟨.tmp, .load 1 false (.t 6), .none⟩, ⟨(.var 4), .mov (.t 3), .none⟩, ⟨(.var 5), .mov (.t 7), .none⟩]) (.seq (.ops [⟨.tmp, .mov (.v 4), .none⟩, ⟨.tmp, .mov (.v 1), .none⟩, ⟨.tmp, .pcall 40 [(.t 0), (.t 1)], .none⟩, ⟨.tmp, .mov (.t 2), .none⟩, ⟨.tmp, .ext (.t 3) 0, .none⟩, ⟨.tmp, .ext (.t 3) 1, .none⟩, ⟨(.var 6), .mov (.t 4), .none⟩, ⟨.tmp, .mov (.t 5), .none⟩]) (.seq (.ops [⟨.tmp, .mov (.v 0), .none⟩, ⟨.tmp, .mov (.v 0), .none⟩, ⟨.tmp, .mov (.v 4), .none⟩, ⟨.tmp, .bin .add .arith (.t 2) (.c (.int .i64 1)), .none⟩, ⟨.tmp, .mov (.v 5), .none⟩, ⟨.tmp, .mov (.v 6), .none⟩, ⟨.tmp, .len (.t 5), .none⟩, ⟨.tmp, .bin .add .arith (.t 4) (.t 6), .none⟩, ⟨.tmp, .nilc (.t 0), .none⟩, ⟨.tmp, .faddr 4 (.t 8), .none⟩, ⟨.no, .store 1 (.t 9) (.t 3), .none⟩, ⟨.tmp, .nilc (.t 1), .none⟩, ⟨.tmp, .faddr 5 (.t 11), .none⟩, ⟨.no, .store 1 (.t 12) (.t 7), .none⟩]) (.seq (.seq (.ops [⟨.tmp, .mov (.v 0), .none⟩, ⟨.tmp, .mov (.v 5), .none⟩, ⟨.tmp, .mov (.v 6), .none⟩, ⟨.tmp, .call (.c (.fn 63 [])) [(.t 0), (.t 1), (.t 2)], .none⟩, ⟨.tmp, .mov (.t 3), .none⟩, ⟨.tmp, .ext (.t 4) 0, .none⟩, ⟨.tmp, .ext (.t 4) 1, .none⟩, ⟨(.var 7), .mov (.t 5), .none⟩, ⟨(.var 8), .mov (.t 6), .none⟩]) (.block 1 (.seq (.ops [⟨.tmp, .mov (.v 7), .none⟩, ⟨.tmp, .bin .neq .arith (.t 0) (.c (.int .i64 0)), .none⟩, ⟨(.var 12), .mov (.t 1), .none⟩]) (.cond (.v 12) (.seq (.ops [⟨.tmp, .mov (.v 0), .none⟩, ⟨.tmp, .nilc (.t 0), .none⟩, ⟨.tmp, .faddr 6 (.t 1), .none⟩, ⟨.no, .store 1 (.t 2) (.c (.bool true)), .none⟩]) (.seq (.ops [⟨.tmp, .mov (.v 7), .none⟩, ⟨(.var 2), .mov (.c (.int .i64 0)), .none⟩, ⟨(.var 3), .mov (.t 0), .none⟩]) .ret)) (.seq (.ops [⟨.tmp, .mov (.v 8), .none⟩, ⟨.tmp, .un .not (.t 0), .none⟩, ⟨(.var 13), .mov (.t 1), .none⟩]) (.cond (.v 13) (.seq (.ops [⟨(.var 2), .mov (.c (.int .i64 0)), .none⟩, ⟨(.var 3), .mov (.c (.int .i64 22)), .none⟩]) .ret) .skip)))))) (.seq (.ops [⟨.tmp, .mov (.v 0), .none⟩, ⟨.tmp, .mov (.v 0), .none⟩, ⟨.tmp, .mov (.v 0), .none⟩, ⟨.tmp, .nilc (.t 2), .none⟩, ⟨.tmp, .faddr 1 (.t 3), .none⟩, ⟨.tmp, .load 1 false (.t 4), .none⟩, ⟨.tmp, .mov (.v 4), .none⟩, ⟨.tmp, .lit 0 3 1 1 false [(.int .i64 0)] [(0, (.t 6))], .none⟩, ⟨.tmp, .append false 3 8 1 false (.t 5) (.t 7), .none⟩, ⟨.tmp, .mov (.v 0), .none⟩, ⟨.tmp, .nilc (.t 9), .none⟩, ⟨.tmp, .faddr 3 (.t 10), .none⟩, ⟨.tmp, .load 1 false (.t 11), .none⟩, ⟨.tmp, .mov (.v 1), .none⟩, ⟨.tmp, .lit 0 9 1 1 false [(.str [])] [(0, (.t 13))], .none⟩, ⟨.tmp, .append false 9 16 1 false (.t 12) (.t 14), .none⟩, ⟨.tmp, .nilc (.t 0), .none⟩, ⟨.tmp, .faddr 1 (.t 16), .none⟩, ⟨.no, .store 1 (.t 17) (.t 8), .none⟩, ⟨.tmp, .nilc (.t 1), .none⟩, ⟨.tmp, .faddr 3 (.t 19), .none⟩, ⟨.no, .store 1 (.t 20) (.t 15), .none⟩]) (.seq (.ops [⟨.tmp, .mov (.v 4), .none⟩, ⟨(.var 2), .mov (.t 0), .none⟩, ⟨(.var 3), .mov (.c (.int .i64 0)), .none⟩]) .ret)))))))), [.v 2, .v 3], []⟩
def c27 : AFunc := ⟨[0, 1, 2, 3, 4, 5, 12], (.seq (.ops [⟨(.var 1), .box 6 true (.v 0), .none⟩, ⟨(.var 2), .mov (.c (.str [])), .none⟩]) (.seq (.ops [⟨.tmp, .faddr 3 (.v 1), .none⟩, ⟨.tmp, .load 1 false (.t 0), .none⟩, ⟨.tmp, .mnx true (.t 1) (.c (.int .i64 0)), .none⟩, ⟨.tmp, .mnx false (.t 2) (.c (.int .i64 8100)), .none⟩, ⟨(.var 3), .mov (.t 3), .none⟩]) (.seq (.ops [⟨(.var 4), .mov (.c (.sl [] .nil)), .none⟩]) (.seq (.seq (.ops [⟨(.var 5), .mov (.c (.int .i64 0)), .none⟩]) (.block 0 (.loop (.seq (.seq (.ops [⟨.tmp, .mov (.v 5), .none⟩, ⟨.tmp, .mov (.v 3), .none⟩, ⟨(.var 6), .bin .lss .arith (.t 0) (.t 1), .none⟩]) (.cond (.v 6) .skip (.exit 0))) (.seq (.block 1 (.ops [⟨.tmp, .mov (.v 4), .none⟩, ⟨.tmp, .faddr 4 (.v 1), .none⟩, ⟨.tmp, .load 1 false (.t 1), .none⟩, ⟨.tmp, .mov (.v 5), .none⟩, ⟨.tmp, .toInt .u8 (.t 3), .none⟩, ⟨.tmp, .bin .add .arith (.t 2) (.t 4), .none⟩, ⟨.tmp, .lit 0 5 1 1 false [(.int .u8 0)] [(0, (.t 5))], .none⟩, ⟨.tmp, .append false 5 1 1 false (.t 0) (.t 6), .none⟩, ⟨(.var 4), .mov (.t 7), .none⟩])) (.ops [⟨.tmp, .mov (.v 5), .none⟩, ⟨.tmp, .bin .add .arith (.t 0) (.c (.int .i64 1)), .none⟩, ⟨(.var 5), .mov (.t 1), .none⟩])))))) (.seq (.ops [⟨.tmp, .mov (.v 4), .none⟩, ⟨.tmp, .x .b2s [(.t 0)], .none⟩, ⟨(.var 2), .mov (.t 1), .none⟩]) .ret))))), [.v 2], []⟩
def c28 : AFunc := ⟨[0, 1, 4, 5, 6, 8, 9, 10, 11, 18], (.seq (.seq (.ops [⟨.tmp, .mov (.v 0), .none⟩, ⟨(.var 5), .gcall 64 [(.t 0)], .none⟩, ⟨(.var 6), .len (.v 5), .none⟩, ⟨(.var 7), .mov (.c (.int .i64 0)), .none⟩]) (.block 0 (.loop (.seq (.ops [⟨(.var 8), .bin .lss .arith (.v 7) (.v 6), .none⟩]) (.seq (.cond (.v 8) .skip (.exit 0)) (.seq (.block 1 (.seq (.ops [⟨.tmp, .mov (.v 7), .none⟩, ⟨.tmp, .iaddr 1 (.v 5) (.v 7), .none⟩, ⟨.tmp, .load 1 false (.t 1), .none⟩, ⟨(.var 2), .mov (.t 0), .none⟩, ⟨(.var 3), .mov (.t 2), .none⟩]) (.seq (.ops [⟨(.var 4), .mov (.c (.int .i64 64)), .none⟩]) (.seq (.seq (.ops [⟨.tmp, .mov (.v 2), .none⟩, ⟨.tmp, .mov (.v 1), .none⟩, ⟨.tmp, .len (.t 1), .none⟩, ⟨(.var 9), .bin .lss .arith (.t 0) (.t 2), .none⟩]) (.cond (.v 9) (.ops [⟨.tmp, .mov (.v 1), .none⟩, ⟨.tmp, .mov (.v 2), .none⟩, ⟨.tmp, .iaddr 1 (.t 0) (.t 1), .none⟩, ⟨.tmp, .load 1 false (.t 2), .none⟩, ⟨(.var 4), .mov (.t 3), .none⟩]) .skip)) (.ops [⟨.tmp, .mov (.v 0), .none⟩, ⟨.tmp, .mov (.v 3), .none⟩, ⟨.tmp, .mov (.v 4), .none⟩, ⟨.tmp, .call (.c (.fn 65 [])) [(.t 0), (.t 1), (.t 2)], .none⟩]))))) (.ops [⟨.tmp, .bin .add .arith (.v 7) (.c (.int .i64 1)), .none⟩, ⟨(.var 7), .mov (.t 0), .none⟩]))))))) (.ops [⟨.tmp, .mov (.v 0), .none⟩, ⟨.tmp, .mov (.v 0), .none⟩, ⟨.tmp, .nilc (.t 0), .none⟩, ⟨.tmp, .faddr 3 (.t 2), .none⟩, ⟨.no, .store 1 (.t 3) (.c (.bool false)), .none⟩, ⟨.tmp, .nilc (.t 1), .none⟩, ⟨.tmp, .faddr 4 (.t 5), .none⟩, ⟨.no, .store 1 (.t 6) (.c (.int .i64 (-1))), .none⟩])), [], []⟩
def c34 : AFunc := ⟨[0, 1, 4, 15], (.seq (.ops [⟨(.var 2), .mov (.c (.int .i64 0)), .none⟩]) (.seq (.seq (.ops [⟨.tmp, .mov (.v 1), .none⟩, ⟨.tmp, .bin .lss .arith (.t 0) (.c (.int .i64 0)), .none⟩, ⟨.tmp, .mov (.t 1), .none⟩, ⟨.tmp, .mov (.v 1), (some ((.t 2), false))⟩, ⟨.tmp, .mov (.v 0), (some ((.t 2), false))⟩, ⟨.tmp, .nilc (.t 4), (some ((.t 2), false))⟩, ⟨.tmp, .faddr 0 (.t 5), (some ((.t 2), false))⟩, ⟨.tmp, .load 1 false (.t 6), (some ((.t 2), false))⟩, ⟨.tmp, .len (.t 7), (some ((.t 2), false))⟩, ⟨.tmp, .bin .geq .arith (.t 3) (.t 8), (some ((.t 2), false))⟩, ⟨(.var 3), .pick (.t 2) (.c (.bool true)) (.t 9), .none⟩]) (.cond (.v 3) (.seq (.ops [⟨(.var 2), .mov (.c (.int .i64 1)), .none⟩]) .ret) .skip)) (.seq (.ops [⟨.tmp, .mov (.v 0), .none⟩, ⟨.tmp, .nilc (.t 0), .none⟩, ⟨.tmp, .faddr 2 (.t 1), .none⟩, ⟨.tmp, .load 1 false (.t 2), .none⟩, ⟨.tmp, .mov (.v 1), .none⟩, ⟨.no, .x (.mput (.int .i64)) [(.t 3), (.t 4), (.c (.bool true))], .none⟩]) (.seq (.ops [⟨(.var 2), .mov (.c (.int .i64 0)), .none⟩]) .ret)))), [.v 2], []⟩
def c37 : AFunc := ⟨[0, 2], (.seq (.ops [⟨(.var 1), .mov (.c (.int .i64 0)), .none⟩]) (.seq (.ops [⟨.tmp, .mov (.v 0), .none⟩, ⟨.tmp, .nilc (.t 0), .none⟩, ⟨.tmp, .faddr 4 (.t 1), .none⟩, ⟨.tmp, .load 1 false (.t 2), .none⟩, ⟨(.var 1), .mov (.t 3), .none⟩]) .ret)), [.v 1], []⟩
def c38 : AFunc := ⟨[0, 2], (.seq (.ops [⟨(.var 1), .mov (.c (.int .i64 0)), .none⟩]) (.seq (.ops [⟨.tmp, .mov (.v 0), .none⟩, ⟨.tmp, .nilc (.t 0), .none⟩, ⟨.tmp, .faddr 0 (.t 1), .none⟩, ⟨.tmp, .load 1 false (.t 2), .none⟩, ⟨.tmp, .mov (.v 0), .none⟩, ⟨.tmp, .nilc (.t 4), .none⟩, ⟨.tmp, .faddr 5 (.t 5), .none⟩, ⟨.tmp, .load 1 false (.t 6), .none⟩, ⟨.tmp, .gcall 47 [(.t 3)], .none⟩, ⟨.tmp, .bin .sub .arith (.t 8) (.t 7), .none⟩, ⟨(.var 1), .mov (.t 9), .none⟩]) .ret)), [.v 1], []⟩
def c40L0 : ALoop := ⟨[(some 9)], (.ops [⟨(.var 5), .alloc 96 64 true (List.replicate 64 (.int .u8 0)), .none⟩, ⟨.no, .store 64 (.v 5) (.v 9), .none⟩]), (.block 2 (.ops [⟨.tmp, .load 1 false (.v 4), .none⟩, ⟨.tmp, .x (.aslice 64 1 false false false) [(.v 5)], .none⟩, ⟨.tmp, .x .b2s [(.t 1)], .none⟩, ⟨.tmp, .lit 0 9 1 1 false [(.str [])] [(0, (.t 2))], .none⟩, ⟨.tmp, .append false 9 16 1 false (.t 0) (.t 3), .none⟩, ⟨.no, .store 1 (.v 4) (.t 4), .none⟩]))⟩
def c40 : AFunc := ⟨[0, 1, 4, 5, 6, 7, 8, 15, 21, 22], (.seq (.ops [⟨(.var 2), .mov (.c (.sl [] .nil)), .none⟩, ⟨(.var 3), .mov (.c (.int .i64 0)), .none⟩]) (.seq (.block 0 (.seq (.ops [⟨.tmp, .mov (.v 0), .none⟩, ⟨.tmp, .bin .lss .arith (.t 0) (.c (.int .i64 1)), .none⟩, ⟨.tmp, .mov (.t 1), .none⟩, ⟨.tmp, .mov (.v 0), (some ((.t 2), false))⟩, ⟨.tmp, .bin .gtr .arith (.t 3) (.c (.int .i64 4096)), (some ((.t 2), false))⟩, ⟨.tmp, .pick (.t 2) (.c (.bool true)) (.t 4), .none⟩, ⟨(.var 6), .mov (.t 5), .none⟩]) (.cond (.v 6) (.seq (.ops [⟨(.var 2), .mov (.c (.sl [] .nil)), .none⟩, ⟨(.var 3), .mov (.c (.int .i64 1)), .none⟩]) .ret) (.seq (.ops [⟨.tmp, .mov (.v 1), .none⟩, ⟨.tmp, .slen (.t 0), .none⟩, ⟨.tmp, .bin .gtr .arith (.t 1) (.c (.int .i64 8000)), .none⟩, ⟨(.var 7), .mov (.t 2), .none⟩]) (.cond (.v 7) (.seq (.ops [⟨(.var 2), .mov (.c (.sl [] .nil)), .none⟩, ⟨(.var 3), .mov (.c (.int .i64 4)), .none⟩]) .ret) .skip))))) (.seq (.ops [⟨(.var 4), .alloc 22 1 false [(.sl [] .nil)], .none⟩]) (.seq (.seq (.ops [⟨.tmp, .mov (.v 0), .none⟩, ⟨.tmp, .mov (.v 1), .none⟩, ⟨(.var 8), .call (.c (.fn 74 [])) [(.t 0), (.t 1)], .none⟩]) (.block 1 (.rfunc 40 0 [0, 1, 4, 5, 6, 7, 8, 15, 21, 22] (.v 8)))) (.seq (.ops [⟨.tmp, .load 1 false (.v 4), .none⟩, ⟨(.var 2), .mov (.t 0), .none⟩, ⟨(.var 3), .mov (.c (.int .i64 0)), .none⟩]) .ret))))), [.v 2, .v 3], [c40L0]⟩
def c41 : AFunc := ⟨[0, 2, 3, 4, 5, 6, 7], (.seq (.ops [⟨(.var 1), .mov (.c (.int .i64 0)), .none⟩, ⟨(.var 2), .mov (.c (.int .i64 0)), .none⟩, ⟨(.var 3), .mov (.c (.int .i64 0)), .none⟩, ⟨(.var 4), .mov (.c (.str [])), .none⟩, ⟨(.var 5), .mov (.c (.bool false)), .none⟩]) (.seq (.ops [⟨.tmp, .mov (.v 0), .none⟩, ⟨.tmp, .pcall 49 [(.t 0)], .none⟩, ⟨(.var 6), .alloc 94 5 true [(.int .i64 0), (.int .i64 0), (.int .i64 0), (.str []), (.bool false)], .none⟩, ⟨.no, .store 5 (.v 6) (.t 1), .none⟩]) (.seq (.ops [⟨.tmp, .faddr 0 (.v 6), .none⟩, ⟨.tmp, .load 1 false (.t 0), .none⟩, ⟨.tmp, .faddr 1 (.v 6), .none⟩, ⟨.tmp, .load 1 false (.t 2), .none⟩, ⟨.tmp, .faddr 2 (.v 6), .none⟩, ⟨.tmp, .load 1 false (.t 4), .none⟩, ⟨.tmp, .faddr 3 (.v 6), .none⟩, ⟨.tmp, .load 1 false (.t 6), .none⟩, ⟨.tmp, .faddr 4 (.v 6), .none⟩, ⟨.tmp, .load 1 false (.t 8), .none⟩, ⟨(.var 1), .mov (.t 1), .none⟩, ⟨(.var 2), .mov (.t 3), .none⟩, ⟨(.var 3), .mov (.t 5), .none⟩, ⟨(.var 4), .mov (.t 7), .none⟩, ⟨(.var 5), .mov (.t 9), .none⟩]) .ret))), [.v 1, .v 2, .v 3, .v 4, .v 5], []⟩
def c42 : AFunc := ⟨[0, 2], (.seq (.ops [⟨(.var 1), .mov (.c (.sl [] .nil)), .none⟩]) (.seq (.ops [⟨.tmp, .mov (.v 0), .none⟩, ⟨.tmp, .nilc (.t 0), .none⟩, ⟨.tmp, .faddr 1 (.t 1), .none⟩, ⟨.tmp, .load 1 false (.t 2), .none⟩, ⟨.tmp, .call (.c (.fn 62 [])) [(.t 3)], .none⟩, ⟨(.var 1), .mov (.t 4), .none⟩]) .ret)), [.v 1], []⟩
def c43 : AFunc := ⟨[0, 1, 4, 5, 10], (.seq (.ops [⟨(.var 2), .mov (.c (.int .i64 0)), .none⟩]) (.seq (.block 0 (.seq (.ops [⟨.tmp, .mov (.v 0), .none⟩, ⟨.tmp, .nilc (.t 0), .none⟩, ⟨.tmp, .faddr 3 (.t 1), .none⟩, ⟨.tmp, .load 1 false (.t 2), .none⟩, ⟨(.var 3), .mov (.t 3), .none⟩]) (.cond (.v 3) (.seq (.ops [⟨(.var 2), .mov (.c (.int .i64 21)), .none⟩]) .ret) (.seq (.ops [⟨.tmp, .mov (.v 1), .none⟩, ⟨.tmp, .bin .lss .arith (.t 0) (.c (.int .i64 0)), .none⟩, ⟨.tmp, .mov (.t 1), .none⟩, ⟨.tmp, .mov (.v 1), (some ((.t 2), false))⟩, ⟨.tmp, .mov (.v 0), (some ((.t 2), false))⟩, ⟨.tmp, .nilc (.t 4), (some ((.t 2), false))⟩, ⟨.tmp, .faddr 0 (.t 5), (some ((.t 2), false))⟩, ⟨.tmp, .load 1 false (.t 6), (some ((.t 2), false))⟩, ⟨.tmp, .len (.t 7), (some ((.t 2), false))⟩, ⟨.tmp, .bin .geq .arith (.t 3) (.t 8), (some ((.t 2), false))⟩, ⟨.tmp, .pick (.t 2) (.c (.bool true)) (.t 9), .none⟩, ⟨(.var 4), .mov (.t 10), .none⟩]) (.cond (.v 4) (.seq (.ops [⟨(.var 2), .mov (.c (.int .i64 1)), .none⟩]) .ret) .skip))))) (.seq (.ops [⟨(.var 2), .mov (.c (.int .i64 0)), .none⟩]) .ret))), [.v 2], []⟩
def c44 : AFunc := ⟨[0, 2, 3, 12], (.seq (.ops [⟨(.var 1), .mov (.c (.int .i64 0)), .none⟩]) (.seq (.block 0 (.seq (.ops [⟨.tmp, .mov (.v 0), .none⟩, ⟨.tmp, .nilc (.t 0), .none⟩, ⟨.tmp, .faddr 4 (.t 1), .none⟩, ⟨.tmp, .load 1 false (.t 2), .none⟩, ⟨.tmp, .bin .eql .arith (.t 3) (.c (.int .i64 0)), .none⟩, ⟨(.var 2), .mov (.t 4), .none⟩]) (.cond (.v 2) (.seq (.ops [⟨.tmp, .mov (.v 0), .none⟩, ⟨.tmp, .nilc (.t 0), .none⟩, ⟨.tmp, .faddr 3 (.t 1), .none⟩, ⟨.no, .store 1 (.t 2) (.c (.bool true)), .none⟩]) (.seq (.ops [⟨(.var 1), .mov (.c (.int .i64 21)), .none⟩]) .ret)) (.seq (.ops [⟨.tmp, .mov (.v 0), .none⟩, ⟨.tmp, .nilc (.t 0), .none⟩, ⟨.tmp, .faddr 4 (.t 1), .none⟩, ⟨.tmp, .load 1 false (.t 2), .none⟩, ⟨.tmp, .bin .gtr .arith (.t 3) (.c (.int .i64 0)), .none⟩, ⟨(.var 3), .mov (.t 4), .none⟩]) (.cond (.v 3) (.ops [⟨.tmp, .mov (.v 0), .none⟩, ⟨.tmp, .nilc (.t 0), .none⟩, ⟨.tmp, .faddr 4 (.t 1), .none⟩, ⟨.tmp, .load 1 false (.t 2), .none⟩, ⟨.tmp, .bin .sub .arith (.t 3) (.c (.int .i64 1)), .none⟩, ⟨.tmp, .nilc (.t 0), .none⟩, ⟨.tmp, .faddr 4 (.t 5), .none⟩, ⟨.no, .store 1 (.t 6) (.t 4), .none⟩]) .skip))))) (.seq (.ops [⟨(.var 1), .mov (.c (.int .i64 0)), .none⟩]) .ret))), [.v 1], []⟩
def c47 : AFunc := ⟨[0, 2], (.seq (.ops [⟨(.var 1), .mov (.c (.int .i64 0)), .none⟩]) (.seq (.ops [⟨.tmp, .mov (.v 0), .none⟩, ⟨.tmp, .nilc (.t 0), .none⟩, ⟨.tmp, .faddr 0 (.t 1), .none⟩, ⟨.tmp, .load 1 false (.t 2), .none⟩, ⟨.tmp, .len (.t 3), .none⟩, ⟨(.var 1), .mov (.t 4), .none⟩]) .ret)), [.v 1], []⟩
def c48 : AFunc := ⟨[0, 1, 4, 5, 6, 7, 8, 13, 24], (.seq (.ops [⟨(.var 2), .mov (.c (.str [])), .none⟩, ⟨(.var 3), .mov (.c (.int .i64 0)), .none⟩]) (.seq (.seq (.ops [⟨.tmp, .mov (.v 0), .none⟩, ⟨.tmp, .mov (.v 1), .none⟩, ⟨.tmp, .call (.c (.fn 43 [])) [(.t 0), (.t 1)], .none⟩, ⟨(.var 4), .mov (.t 2), .none⟩]) (.seq (.ops [⟨.tmp, .mov (.v 4), .none⟩, ⟨(.var 7), .bin .neq .arith (.t 0) (.c (.int .i64 0)), .none⟩]) (.cond (.v 7) (.seq (.ops [⟨.tmp, .mov (.v 4), .none⟩, ⟨(.var 2), .mov (.c (.str [])), .none⟩, ⟨(.var 3), .mov (.t 0), .none⟩]) .ret) .skip))) (.seq (.seq (.ops [⟨.tmp, .mov (.v 0), .none⟩, ⟨.tmp, .nilc (.t 0), .none⟩, ⟨.tmp, .faddr 1 (.t 1), .none⟩, ⟨.tmp, .load 1 false (.t 2), .none⟩, ⟨.tmp, .mov (.v 1), .none⟩, ⟨.tmp, .x (.mlook (.int .i64) (.agg (List.replicate 64 (.int .u8 0))) true) [(.t 3), (.t 4)], .none⟩, ⟨.tmp, .mov (.t 5), .none⟩, ⟨.tmp, .ext (.t 6) 0, .none⟩, ⟨.tmp, .ext (.t 6) 1, .none⟩, ⟨(.var 5), .alloc 86 64 true (List.replicate 64 (.int .u8 0)), .none⟩, ⟨.no, .store 64 (.v 5) (.t 7), .none⟩, ⟨(.var 6), .mov (.t 8), .none⟩]) (.seq (.ops [⟨(.var 8), .mov (.v 6), .none⟩]) (.cond (.v 8) (.seq (.ops [⟨.tmp, .x (.aslice 64 1 false false false) [(.v 5)], .none⟩, ⟨.tmp, .x .b2s [(.t 0)], .none⟩, ⟨(.var 2), .mov (.t 1), .none⟩, ⟨(.var 3), .mov (.c (.int .i64 0)), .none⟩]) .ret) .skip))) (.seq (.ops [⟨.tmp, .mov (.v 0), .none⟩, ⟨.tmp, .nilc (.t 0), .none⟩, ⟨.tmp, .faddr 0 (.t 1), .none⟩, ⟨.tmp, .load 1 false (.t 2), .none⟩, ⟨.tmp, .mov (.v 1), .none⟩, ⟨.tmp, .iaddr 64 (.t 3) (.t 4), .none⟩, ⟨.tmp, .x (.aslice 64 1 false false false) [(.t 5)], .none⟩, ⟨.tmp, .x .b2s [(.t 6)], .none⟩, ⟨(.var 2), .mov (.t 7), .none⟩, ⟨(.var 3), .mov (.c (.int .i64 0)), .none⟩]) .ret)))), [.v 2, .v 3], []⟩
def c49 : AFunc := ⟨[0, 2, 3, 4, 5, 6, 7, 10, 71], (.seq (.ops [⟨(.var 1), .alloc 94 5 true [(.int .i64 0), (.int .i64 0), (.int .i64 0), (.str []), (.bool false)], .none⟩]) (.seq (.seq (.ops [⟨.tmp, .mov (.v 0), .none⟩, ⟨.tmp, .slen (.t 0), .none⟩, ⟨(.var 7), .bin .neq .arith (.t 1) (.c (.int .i64 64)), .none⟩]) (.cond (.v 7) (.seq (.ops [⟨.tmp, .build [(.int .i64 0), (.int .i64 0), (.int .i64 0), (.str []), (.bool false)] [], .none⟩, ⟨.no, .store 5 (.v 1) (.t 0), .none⟩]) .ret) .skip)) (.seq (.ops [⟨.tmp, .mov (.v 0), .none⟩, ⟨.tmp, .x (.s2b false) [(.t 0)], .none⟩, ⟨.tmp, .x (.s2ap 64 1) [(.t 1)], .none⟩, ⟨.tmp, .load 64 true (.t 2), .none⟩, ⟨(.var 2), .alloc 96 64 true (List.replicate 64 (.int .u8 0)), .none⟩, ⟨.no, .store 64 (.v 2) (.t 3), .none⟩]) (.seq (.ops [⟨.tmp, .x (.aslice 64 1 false false true) [(.v 2), (.c (.int .i64 56))], .none⟩, ⟨.tmp, .pcall 75 [(.t 0)], .none⟩, ⟨(.var 3), .alloc 125 32 true (List.replicate 32 (.int .u8 0)), .none⟩, ⟨.no, .store 32 (.v 3) (.t 1), .none⟩]) (.seq (.ops [⟨.tmp, .x (.aslice 64 1 false false true) [(.v 2), (.c (.int .i64 4))], .none⟩, ⟨.tmp, .pcall 76 [(.t 0)], .none⟩, ⟨.tmp, .x (.aslice 64 1 false true true) [(.v 2), (.c (.int .i64 4)), (.c (.int .i64 6))], .none⟩, ⟨.tmp, .pcall 76 [(.t 2)], .none⟩, ⟨.tmp, .x (.aslice 64 1 false true true) [(.v 2), (.c (.int .i64 6)), (.c (.int .i64 8))], .none⟩, ⟨.tmp, .pcall 76 [(.t 4)], .none⟩, ⟨.tmp, .build [(.int .i64 0), (.int .i64 0), (.int .i64 0), (.str []), (.bool false)] [(0, 1, (.t 1)), (1, 1, (.t 3)), (2, 1, (.t 5)), (4, 1, (.c (.bool true)))], .none⟩, ⟨(.var 4), .alloc 94 5 true [(.int .i64 0), (.int .i64 0), (.int .i64 0), (.str []), (.bool false)], .none⟩, ⟨.no, .store 5 (.v 4) (.t 6), .none⟩]) (.seq (.ops [⟨.tmp, .faddr 2 (.v 4), .none⟩, ⟨.tmp, .load 1 false (.t 0), .none⟩, ⟨.tmp, .mnx false (.t 1) (.c (.int .i64 48)), .none⟩, ⟨(.var 5), .mov (.t 2), .none⟩]) (.seq (.ops [⟨.tmp, .mov (.v 5), .none⟩, ⟨.tmp, .bin .sub .arith (.c (.int .i64 48)) (.t 0), .none⟩, ⟨.tmp, .mksl 1 1 false [(.int .u8 0)] (.t 1) (.t 1), .none⟩, ⟨(.var 6), .mov (.t 2), .none⟩]) (.seq (.seq (.ops [⟨.tmp, .x (.aslice 32 1 false false true) [(.v 3), (.c (.int .i64 8))], .none⟩, ⟨.tmp, .x (.aslice 64 1 false true false) [(.v 2), (.c (.int .i64 56))], .none⟩, ⟨.tmp, .pcall 77 [(.t 0), (.t 1)], .none⟩, ⟨.tmp, .un .not (.t 2), .none⟩, ⟨.tmp, .mov (.t 3), .none⟩, ⟨.tmp, .faddr 0 (.v 4), (some ((.t 4), false))⟩, ⟨.tmp, .load 1 false (.t 5), (some ((.t 4), false))⟩, ⟨.tmp, .bin .eql .arith (.t 6) (.c (.int .i64 0)), (some ((.t 4), false))⟩, ⟨.tmp, .pick (.t 4) (.c (.bool true)) (.t 7), .none⟩, ⟨.tmp, .mov (.t 8), .none⟩, ⟨.tmp, .faddr 0 (.v 4), (some ((.t 9), false))⟩, ⟨.tmp, .load 1 false (.t 10), (some ((.t 9), false))⟩, ⟨.tmp, .bin .gtr .arith (.t 11) (.c (.int .i64 4096)), (some ((.t 9), false))⟩, ⟨.tmp, .pick (.t 9) (.c (.bool true)) (.t 12), .none⟩, ⟨.tmp, .mov (.t 13), .none⟩, ⟨.tmp, .faddr 1 (.v 4), (some ((.t 14), false))⟩, ⟨.tmp, .load 1 false (.t 15), (some ((.t 14), false))⟩, ⟨.tmp, .bin .mul .arith (.c (.int .i64 48)) (.t 16), (some ((.t 14), false))⟩, ⟨.tmp, .faddr 2 (.v 4), (some ((.t 14), false))⟩, ⟨.tmp, .load 1 false (.t 18), (some ((.t 14), false))⟩, ⟨.tmp, .bin .add .arith (.t 17) (.t 19), (some ((.t 14), false))⟩, ⟨.tmp, .bin .gtr .arith (.t 20) (.c (.int .i64 8000)), (some ((.t 14), false))⟩, ⟨.tmp, .pick (.t 14) (.c (.bool true)) (.t 21), .none⟩, ⟨.tmp, .mov (.t 22), .none⟩, ⟨.tmp, .faddr 2 (.v 4), (some ((.t 23), false))⟩, ⟨.tmp, .load 1 false (.t 24), (some ((.t 23), false))⟩, ⟨.tmp, .bin .eql .arith (.t 25) (.c (.int .i64 0)), (some ((.t 23), false))⟩, ⟨.tmp, .mov (.t 26), (some ((.t 23), false))⟩, ⟨.tmp, .faddr 1 (.v 4), (some ((.t 27), true))⟩, ⟨.tmp, .load 1 false (.t 28), (some ((.t 27), true))⟩, ⟨.tmp, .bin .gtr .arith (.t 29) (.c (.int .i64 0)), (some ((.t 27), true))⟩, ⟨.tmp, .pick (.t 27) (.t 30) (.c (.bool false)), (some ((.t 23), false))⟩, ⟨.tmp, .pick (.t 23) (.c (.bool true)) (.t 31), .none⟩, ⟨.tmp, .mov (.t 32), .none⟩, ⟨.tmp, .mov (.v 5), (some ((.t 33), false))⟩, ⟨.tmp, .bin .add .arith (.c (.int .i64 8)) (.t 34), (some ((.t 33), false))⟩, ⟨.tmp, .x (.aslice 64 1 false true true) [(.v 2), (.t 35), (.c (.int .i64 56))], (some ((.t 33), false))⟩, ⟨.tmp, .mov (.v 6), (some ((.t 33), false))⟩, ⟨.tmp, .pcall 77 [(.t 36), (.t 37)], (some ((.t 33), false))⟩, ⟨.tmp, .un .not (.t 38), (some ((.t 33), false))⟩, ⟨(.var 8), .pick (.t 33) (.c (.bool true)) (.t 39), .none⟩]) (.cond (.v 8) (.seq (.ops [⟨.tmp, .build [(.int .i64 0), (.int .i64 0), (.int .i64 0), (.str []), (.bool false)] [], .none⟩, ⟨.no, .store 5 (.v 1) (.t 0), .none⟩]) .ret) .skip)) (.seq (.ops [⟨.tmp, .mov (.v 0), .none⟩, ⟨.tmp, .mov (.v 5), .none⟩, ⟨.tmp, .bin .add .arith (.c (.int .i64 8)) (.t 1), .none⟩, ⟨.tmp, .sslice (.t 0) (some (.c (.int .i64 8))) (some (.t 2)), .none⟩, ⟨.tmp, .faddr 3 (.v 4), .none⟩, ⟨.no, .store 1 (.t 4) (.t 3), .none⟩]) (.seq (.ops [⟨.tmp, .load 5 true (.v 4), .none⟩, ⟨.no, .store 5 (.v 1) (.t 0), .none⟩]) .ret)))))))))), [.c 1 5 true], []⟩
def c50 : AFunc := ⟨[0, 2, 3, 4, 5, 6, 7, 8, 9, 29, 32, 33, 34, 35, 64], (.seq (.ops [⟨(.var 1), .mov (.c (.str [])), .none⟩, ⟨(.var 2), .mov (.c (.int .i64 0)), .none⟩, ⟨(.var 3), .mov (.c (.bool false)), .none⟩]) (.seq (.ops [⟨.tmp, .mov (.v 0), .none⟩, ⟨.tmp, .iaddr 5 (.t 0) (.c (.int .i64 0)), .none⟩, ⟨.tmp, .load 5 true (.t 1), .none⟩, ⟨(.var 4), .alloc 94 5 true [(.int .i64 0), (.int .i64 0), (.int .i64 0), (.str []), (.bool false)], .none⟩, ⟨.no, .store 5 (.v 4) (.t 2), .none⟩]) (.seq (.ops [⟨.tmp, .faddr 2 (.v 4), .none⟩, ⟨.tmp, .load 1 false (.t 0), .none⟩, ⟨.tmp, .pcall 16 [(.t 1)], .none⟩, ⟨(.var 5), .mov (.t 2), .none⟩]) (.seq (.seq (.ops [⟨.tmp, .faddr 4 (.v 4), .none⟩, ⟨.tmp, .load 1 false (.t 0), .none⟩, ⟨.tmp, .un .not (.t 1), .none⟩, ⟨.tmp, .mov (.t 2), .none⟩, ⟨.tmp, .faddr 1 (.v 4), (some ((.t 3), false))⟩, ⟨.tmp, .load 1 false (.t 4), (some ((.t 3), false))⟩, ⟨.tmp, .bin .neq .arith (.t 5) (.c (.int .i64 0)), (some ((.t 3), false))⟩, ⟨.tmp, .pick (.t 3) (.c (.bool true)) (.t 6), .none⟩, ⟨.tmp, .mov (.t 7), .none⟩, ⟨.tmp, .mov (.v 5), (some ((.t 8), false))⟩, ⟨.tmp, .mov (.v 0), (some ((.t 8), false))⟩, ⟨.tmp, .len (.t 10), (some ((.t 8), false))⟩, ⟨.tmp, .bin .gtr .arith (.t 9) (.t 11), (some ((.t 8), false))⟩, ⟨(.var 9), .pick (.t 8) (.c (.bool true)) (.t 12), .none⟩]) (.cond (.v 9) (.seq (.ops [⟨(.var 1), .mov (.c (.str [])), .none⟩, ⟨(.var 2), .mov (.c (.int .i64 0)), .none⟩, ⟨(.var 3), .mov (.c (.bool false)), .none⟩]) .ret) .skip)) (.seq (.ops [⟨(.var 6), .mov (.c (.str [])), .none⟩]) (.seq (.seq (.ops [⟨.tmp, .mov (.v 0), .none⟩, ⟨.tmp, .mov (.v 5), .none⟩, ⟨(.var 10), .slice 5 (.t 0) .none (some (.t 1)), .none⟩, ⟨(.var 11), .len (.v 10), .none⟩, ⟨(.var 12), .mov (.c (.int .i64 0)), .none⟩]) (.block 0 (.loop (.seq (.ops [⟨(.var 13), .bin .lss .arith (.v 12) (.v 11), .none⟩]) (.seq (.cond (.v 13) .skip (.exit 0)) (.seq (.block 1 (.seq (.ops [⟨.tmp, .mov (.v 12), .none⟩, ⟨.tmp, .iaddr 5 (.v 10) (.v 12), .none⟩, ⟨.tmp, .load 5 true (.t 1), .none⟩, ⟨(.var 8), .alloc 94 5 true [(.int .i64 0), (.int .i64 0), (.int .i64 0), (.str []), (.bool false)], .none⟩, ⟨(.var 7), .mov (.t 0), .none⟩, ⟨.no, .store 5 (.v 8) (.t 2), .none⟩]) (.seq (.seq (.ops [⟨.tmp, .faddr 4 (.v 8), .none⟩, ⟨.tmp, .load 1 false (.t 0), .none⟩, ⟨.tmp, .un .not (.t 1), .none⟩, ⟨.tmp, .mov (.t 2), .none⟩, ⟨.tmp, .faddr 0 (.v 8), (some ((.t 3), false))⟩, ⟨.tmp, .load 1 false (.t 4), (some ((.t 3), false))⟩, ⟨.tmp, .faddr 0 (.v 4), (some ((.t 3), false))⟩, ⟨.tmp, .load 1 false (.t 6), (some ((.t 3), false))⟩, ⟨.tmp, .bin .neq .arith (.t 5) (.t 7), (some ((.t 3), false))⟩, ⟨.tmp, .pick (.t 3) (.c (.bool true)) (.t 8), .none⟩, ⟨.tmp, .mov (.t 9), .none⟩, ⟨.tmp, .faddr 1 (.v 8), (some ((.t 10), false))⟩, ⟨.tmp, .load 1 false (.t 11), (some ((.t 10), false))⟩, ⟨.tmp, .mov (.v 7), (some ((.t 10), false))⟩, ⟨.tmp, .bin .neq .arith (.t 12) (.t 13), (some ((.t 10), false))⟩, ⟨.tmp, .pick (.t 10) (.c (.bool true)) (.t 14), .none⟩, ⟨.tmp, .mov (.t 15), .none⟩, ⟨.tmp, .faddr 2 (.v 8), (some ((.t 16), false))⟩, ⟨.tmp, .load 1 false (.t 17), (some ((.t 16), false))⟩, ⟨.tmp, .faddr 2 (.v 4), (some ((.t 16), false))⟩, ⟨.tmp, .load 1 false (.t 19), (some ((.t 16), false))⟩, ⟨.tmp, .mov (.v 7), (some ((.t 16), false))⟩, ⟨.tmp, .bin .mul .arith (.c (.int .i64 48)) (.t 21), (some ((.t 16), false))⟩, ⟨.tmp, .bin .sub .arith (.t 20) (.t 22), (some ((.t 16), false))⟩, ⟨.tmp, .bin .neq .arith (.t 18) (.t 23), (some ((.t 16), false))⟩, ⟨(.var 14), .pick (.t 16) (.c (.bool true)) (.t 24), .none⟩]) (.cond (.v 14) (.seq (.ops [⟨(.var 1), .mov (.c (.str [])), .none⟩, ⟨(.var 2), .mov (.c (.int .i64 0)), .none⟩, ⟨(.var 3), .mov (.c (.bool false)), .none⟩]) .ret) .skip)) (.ops [⟨.tmp, .mov (.v 6), .none⟩, ⟨.tmp, .faddr 3 (.v 8), .none⟩, ⟨.tmp, .load 1 false (.t 1), .none⟩, ⟨.tmp, .bin .add .arith (.t 0) (.t 2), .none⟩, ⟨(.var 6), .mov (.t 3), .none⟩])))) (.ops [⟨.tmp, .bin .add .arith (.v 12) (.c (.int .i64 1)), .none⟩, ⟨(.var 12), .mov (.t 0), .none⟩]))))))) (.seq (.ops [⟨.tmp, .mov (.v 6), .none⟩, ⟨.tmp, .mov (.v 5), .none⟩, ⟨(.var 1), .mov (.t 0), .none⟩, ⟨(.var 2), .mov (.t 1), .none⟩, ⟨(.var 3), .mov (.c (.bool true)), .none⟩]) .ret))))))), [.v 1, .v 2, .v 3], []⟩
def c51 : AFunc := ⟨[0, 1, 4], (.seq (.ops [⟨(.var 2), .mov (.c (.bool false)), .none⟩]) (.seq (.ops [⟨.tmp, .mov (.v 0), .none⟩, ⟨.tmp, .mov (.v 1), .none⟩, ⟨.tmp, .pcall 78 [(.t 0), (.t 1)], .none⟩, ⟨.tmp, .bin .geq .arith (.t 2) (.c (.int .i64 0)), .none⟩, ⟨(.var 2), .mov (.t 3), .none⟩]) .ret)), [.v 2], []⟩
def c54 : AFunc := ⟨[0, 2, 3, 4, 5, 8, 54, 59, 63, 69], (.seq (.ops [⟨(.var 1), .alloc 102 5 true [(.int .i64 0), (.int .i64 0), (.int .i64 0), (.str []), (.bool false)], .none⟩]) (.seq (.seq (.ops [⟨.tmp, .mov (.v 0), .none⟩, ⟨.tmp, .slen (.t 0), .none⟩, ⟨(.var 5), .bin .neq .arith (.t 1) (.c (.int .i64 64)), .none⟩]) (.cond (.v 5) (.seq (.ops [⟨.tmp, .build [(.int .i64 0), (.int .i64 0), (.int .i64 0), (.str []), (.bool false)] [], .none⟩, ⟨.no, .store 5 (.v 1) (.t 0), .none⟩]) .ret) .skip)) (.seq (.ops [⟨.tmp, .mov (.v 0), .none⟩, ⟨.tmp, .sslice (.t 0) .none (some (.c (.int .i64 4))), .none⟩, ⟨.tmp, .pcall 79 [(.t 1)], .none⟩, ⟨.tmp, .mov (.v 0), .none⟩, ⟨.tmp, .sslice (.t 3) (some (.c (.int .i64 4))) (some (.c (.int .i64 6))), .none⟩, ⟨.tmp, .pcall 79 [(.t 4)], .none⟩, ⟨.tmp, .mov (.v 0), .none⟩, ⟨.tmp, .sslice (.t 6) (some (.c (.int .i64 6))) (some (.c (.int .i64 8))), .none⟩, ⟨.tmp, .pcall 79 [(.t 7)], .none⟩, ⟨.tmp, .build [(.int .i64 0), (.int .i64 0), (.int .i64 0), (.str []), (.bool false)] [(0, 1, (.t 2)), (1, 1, (.t 5)), (2, 1, (.t 8)), (4, 1, (.c (.bool true)))], .none⟩, ⟨(.var 2), .alloc 102 5 true [(.int .i64 0), (.int .i64 0), (.int .i64 0), (.str []), (.bool false)], .none⟩, ⟨.no, .store 5 (.v 2) (.t 9), .none⟩]) (.seq (.seq (.ops [⟨.tmp, .mov (.v 0), .none⟩, ⟨.tmp, .sslice (.t 0) .none (some (.c (.int .i64 56))), .none⟩, ⟨.tmp, .x (.s2b false) [(.t 1)], .none⟩, ⟨.tmp, .pcall 80 [(.t 2)], .none⟩, ⟨.tmp, .mov (.v 0), .none⟩, ⟨.tmp, .bin .neq .arith (.t 3) (.t 4), .none⟩, ⟨.tmp, .mov (.t 5), .none⟩, ⟨.tmp, .faddr 0 (.v 2), (some ((.t 6), false))⟩, ⟨.tmp, .load 1 false (.t 7), (some ((.t 6), false))⟩, ⟨.tmp, .bin .lss .arith (.t 8) (.c (.int .i64 1)), (some ((.t 6), false))⟩, ⟨.tmp, .pick (.t 6) (.c (.bool true)) (.t 9), .none⟩, ⟨.tmp, .mov (.t 10), .none⟩, ⟨.tmp, .faddr 0 (.v 2), (some ((.t 11), false))⟩, ⟨.tmp, .load 1 false (.t 12), (some ((.t 11), false))⟩, ⟨.tmp, .bin .gtr .arith (.t 13) (.c (.int .i64 4096)), (some ((.t 11), false))⟩, ⟨.tmp, .pick (.t 11) (.c (.bool true)) (.t 14), .none⟩, ⟨.tmp, .mov (.t 15), .none⟩, ⟨.tmp, .faddr 1 (.v 2), (some ((.t 16), false))⟩, ⟨.tmp, .load 1 false (.t 17), (some ((.t 16), false))⟩, ⟨.tmp, .bin .mul .arith (.c (.int .i64 48)) (.t 18), (some ((.t 16), false))⟩, ⟨.tmp, .faddr 2 (.v 2), (some ((.t 16), false))⟩, ⟨.tmp, .load 1 false (.t 20), (some ((.t 16), false))⟩, ⟨.tmp, .bin .add .arith (.t 19) (.t 21), (some ((.t 16), false))⟩, ⟨.tmp, .bin .gtr .arith (.t 22) (.c (.int .i64 8000)), (some ((.t 16), false))⟩, ⟨.tmp, .pick (.t 16) (.c (.bool true)) (.t 23), .none⟩, ⟨.tmp, .mov (.t 24), .none⟩, ⟨.tmp, .faddr 2 (.v 2), (some ((.t 25), false))⟩, ⟨.tmp, .load 1 false (.t 26), (some ((.t 25), false))⟩, ⟨.tmp, .bin .lss .arith (.t 27) (.c (.int .i64 1)), (some ((.t 25), false))⟩, ⟨.tmp, .mov (.t 28), (some ((.t 25), false))⟩, ⟨.tmp, .faddr 1 (.v 2), (some ((.t 29), true))⟩, ⟨.tmp, .load 1 false (.t 30), (some ((.t 29), true))⟩, ⟨.tmp, .bin .gtr .arith (.t 31) (.c (.int .i64 0)), (some ((.t 29), true))⟩, ⟨.tmp, .pick (.t 29) (.t 32) (.c (.bool false)), (some ((.t 25), false))⟩, ⟨(.var 6), .pick (.t 25) (.c (.bool true)) (.t 33), .none⟩]) (.cond (.v 6) (.seq (.ops [⟨.tmp, .build [(.int .i64 0), (.int .i64 0), (.int .i64 0), (.str []), (.bool false)] [], .none⟩, ⟨.no, .store 5 (.v 1) (.t 0), .none⟩]) .ret) .skip)) (.seq (.ops [⟨.tmp, .faddr 2 (.v 2), .none⟩, ⟨.tmp, .load 1 false (.t 0), .none⟩, ⟨(.var 3), .mov (.t 1), .none⟩]) (.seq (.seq (.ops [⟨.tmp, .mov (.v 3), .none⟩, ⟨(.var 7), .bin .gtr .arith (.t 0) (.c (.int .i64 48)), .none⟩]) (.cond (.v 7) (.ops [⟨(.var 3), .mov (.c (.int .i64 48)), .none⟩]) .skip)) (.seq (.seq (.ops [⟨.tmp, .mov (.v 3), .none⟩, ⟨.tmp, .bin .add .arith (.c (.int .i64 8)) (.t 0), .none⟩, ⟨(.var 4), .mov (.t 1), .none⟩]) (.block 0 (.loop (.seq (.seq (.ops [⟨.tmp, .mov (.v 4), .none⟩, ⟨(.var 8), .bin .lss .arith (.t 0) (.c (.int .i64 56)), .none⟩]) (.cond (.v 8) .skip (.exit 0))) (.seq (.block 1 (.seq (.ops [⟨.tmp, .mov (.v 0), .none⟩, ⟨.tmp, .mov (.v 4), .none⟩, ⟨.tmp, .sidx (.t 0) (.t 1), .none⟩, ⟨(.var 9), .bin .neq .arith (.t 2) (.c (.int .u8 0)), .none⟩]) (.cond (.v 9) (.seq (.ops [⟨.tmp, .build [(.int .i64 0), (.int .i64 0), (.int .i64 0), (.str []), (.bool false)] [], .none⟩, ⟨.no, .store 5 (.v 1) (.t 0), .none⟩]) .ret) .skip))) (.ops [⟨.tmp, .mov (.v 4), .none⟩, ⟨.tmp, .bin .add .arith (.t 0) (.c (.int .i64 1)), .none⟩, ⟨(.var 4), .mov (.t 1), .none⟩])))))) (.seq (.ops [⟨.tmp, .mov (.v 0), .none⟩, ⟨.tmp, .mov (.v 3), .none⟩, ⟨.tmp, .bin .add .arith (.c (.int .i64 8)) (.t 1), .none⟩, ⟨.tmp, .sslice (.t 0) (some (.c (.int .i64 8))) (some (.t 2)), .none⟩, ⟨.tmp, .faddr 3 (.v 2), .none⟩, ⟨.no, .store 1 (.t 4) (.t 3), .none⟩]) (.seq (.ops [⟨.tmp, .load 5 true (.v 2), .none⟩, ⟨.no, .store 5 (.v 1) (.t 0), .none⟩]) .ret))))))))), [.c 1 5 true], []⟩
def c56 : AFunc := ⟨[0, 2, 8, 10], (.seq (.ops [⟨(.var 1), .mov (.c (.int .i64 0)), .none⟩]) (.seq (.seq (.ops [⟨.tmp, .mov (.v 0), .none⟩, ⟨.tmp, .bin .lss .arith (.t 0) (.c (.int .i64 0)), .none⟩, ⟨.tmp, .mov (.t 1), .none⟩, ⟨.tmp, .mov (.v 0), (some ((.t 2), false))⟩, ⟨.tmp, .bin .gtr .arith (.t 3) (.c (.int .i64 8000)), (some ((.t 2), false))⟩, ⟨(.var 2), .pick (.t 2) (.c (.bool true)) (.t 4), .none⟩]) (.cond (.v 2) (.seq (.ops [⟨(.var 1), .mov (.c (.int .i64 0)), .none⟩]) .ret) .skip)) (.seq (.seq (.ops [⟨.tmp, .mov (.v 0), .none⟩, ⟨(.var 3), .bin .eql .arith (.t 0) (.c (.int .i64 0)), .none⟩]) (.cond (.v 3) (.seq (.ops [⟨(.var 1), .mov (.c (.int .i64 1)), .none⟩]) .ret) .skip)) (.seq (.ops [⟨.tmp, .mov (.v 0), .none⟩, ⟨.tmp, .bin .add .arith (.t 0) (.c (.int .i64 47)), .none⟩, ⟨.tmp, .bin .quo .arith (.t 1) (.c (.int .i64 48)), .none⟩, ⟨(.var 1), .mov (.t 2), .none⟩]) .ret)))), [.v 1], []⟩
def c60 : AFunc := ⟨[0, 1, 4, 5, 6, 7, 8, 9, 10, 11, 17, 20, 25, 44, 50], (.seq (.ops [⟨(.var 2), .mov (.c (.sl [] .nil)), .none⟩, ⟨(.var 3), .mov (.c (.int .i64 0)), .none⟩]) (.seq (.seq (.ops [⟨.tmp, .mov (.v 0), .none⟩, ⟨.tmp, .bin .lss .arith (.t 0) (.c (.int .i64 1)), .none⟩, ⟨.tmp, .mov (.t 1), .none⟩, ⟨.tmp, .mov (.v 0), (some ((.t 2), false))⟩, ⟨.tmp, .bin .gtr .arith (.t 3) (.c (.int .i64 4096)), (some ((.t 2), false))⟩, ⟨(.var 10), .pick (.t 2) (.c (.bool true)) (.t 4), .none⟩]) (.cond (.v 10) (.seq (.ops [⟨(.var 2), .mov (.c (.sl [] .nil)), .none⟩, ⟨(.var 3), .mov (.c (.int .i64 1)), .none⟩]) .ret) .skip)) (.seq (.seq (.ops [⟨.tmp, .mov (.v 1), .none⟩, ⟨.tmp, .slen (.t 0), .none⟩, ⟨(.var 11), .bin .gtr .arith (.t 1) (.c (.int .i64 8000)), .none⟩]) (.cond (.v 11) (.seq (.ops [⟨(.var 2), .mov (.c (.sl [] .nil)), .none⟩, ⟨(.var 3), .mov (.c (.int .i64 4)), .none⟩]) .ret) .skip)) (.seq (.ops [⟨(.var 4), .mov (.c (.sl [] .nil)), .none⟩]) (.seq (.seq (.ops [⟨(.var 5), .mov (.c (.int .i64 0)), .none⟩]) (.block 0 (.loop (.seq (.seq (.ops [⟨.tmp, .mov (.v 5), .none⟩, ⟨.tmp, .mov (.v 1), .none⟩, ⟨.tmp, .slen (.t 1), .none⟩, ⟨.tmp, .pcall 56 [(.t 2)], .none⟩, ⟨(.var 12), .bin .lss .arith (.t 0) (.t 3), .none⟩]) (.cond (.v 12) .skip (.exit 0))) (.seq (.block 1 (.seq (.ops [⟨.tmp, .mov (.v 1), .none⟩, ⟨.tmp, .mov (.v 5), .none⟩, ⟨.tmp, .bin .mul .arith (.c (.int .i64 48)) (.t 1), .none⟩, ⟨.tmp, .sslice (.t 0) (some (.t 2)) .none, .none⟩, ⟨(.var 6), .mov (.t 3), .none⟩]) (.seq (.ops [⟨.tmp, .mov (.v 0), .none⟩, ⟨.tmp, .call (.c (.fn 81 [])) [(.t 0), (.c (.int .i64 4))], .none⟩, ⟨(.var 7), .mov (.t 1), .none⟩]) (.seq (.ops [⟨.tmp, .mov (.v 7), .none⟩, ⟨.tmp, .mov (.v 5), .none⟩, ⟨.tmp, .call (.c (.fn 81 [])) [(.t 1), (.c (.int .i64 2))], .none⟩, ⟨.tmp, .append false 5 1 1 false (.t 0) (.t 2), .none⟩, ⟨(.var 7), .mov (.t 3), .none⟩]) (.seq (.ops [⟨.tmp, .mov (.v 7), .none⟩, ⟨.tmp, .mov (.v 6), .none⟩, ⟨.tmp, .slen (.t 1), .none⟩, ⟨.tmp, .call (.c (.fn 81 [])) [(.t 2), (.c (.int .i64 2))], .none⟩, ⟨.tmp, .append false 5 1 1 false (.t 0) (.t 3), .none⟩, ⟨(.var 7), .mov (.t 4), .none⟩]) (.seq (.seq (.ops [⟨(.var 8), .mov (.c (.int .i64 0)), .none⟩]) (.block 2 (.loop (.seq (.seq (.ops [⟨.tmp, .mov (.v 8), .none⟩, ⟨(.var 13), .bin .lss .arith (.t 0) (.c (.int .i64 48)), .none⟩]) (.cond (.v 13) .skip (.exit 2))) (.seq (.block 3 (.seq (.ops [⟨(.var 9), .mov (.c (.int .u8 0)), .none⟩]) (.seq (.seq (.ops [⟨.tmp, .mov (.v 8), .none⟩, ⟨.tmp, .mov (.v 6), .none⟩, ⟨.tmp, .slen (.t 1), .none⟩, ⟨(.var 14), .bin .lss .arith (.t 0) (.t 2), .none⟩]) (.cond (.v 14) (.ops [⟨.tmp, .mov (.v 6), .none⟩, ⟨.tmp, .mov (.v 8), .none⟩, ⟨.tmp, .sidx (.t 0) (.t 1), .none⟩, ⟨(.var 9), .mov (.t 2), .none⟩]) .skip)) (.ops [⟨.tmp, .mov (.v 7), .none⟩, ⟨.tmp, .mov (.v 9), .none⟩, ⟨.tmp, .lit 0 5 1 1 false [(.int .u8 0)] [(0, (.t 1))], .none⟩, ⟨.tmp, .append false 5 1 1 false (.t 0) (.t 2), .none⟩, ⟨(.var 7), .mov (.t 3), .none⟩])))) (.ops [⟨.tmp, .mov (.v 8), .none⟩, ⟨.tmp, .bin .add .arith (.t 0) (.c (.int .i64 1)), .none⟩, ⟨(.var 8), .mov (.t 1), .none⟩])))))) (.ops [⟨.tmp, .mov (.v 4), .none⟩, ⟨.tmp, .mov (.v 7), .none⟩, ⟨.tmp, .pcall 80 [(.t 1)], .none⟩, ⟨.tmp, .lit 0 9 1 1 false [(.str [])] [(0, (.t 2))], .none⟩, ⟨.tmp, .append false 9 16 1 false (.t 0) (.t 3), .none⟩, ⟨(.var 4), .mov (.t 4), .none⟩]))))))) (.ops [⟨.tmp, .mov (.v 5), .none⟩, ⟨.tmp, .bin .add .arith (.t 0) (.c (.int .i64 1)), .none⟩, ⟨(.var 5), .mov (.t 1), .none⟩])))))) (.seq (.ops [⟨.tmp, .mov (.v 4), .none⟩, ⟨(.var 2), .mov (.t 0), .none⟩, ⟨(.var 3), .mov (.c (.int .i64 0)), .none⟩]) .ret)))))), [.v 2, .v 3], []⟩
def c61 : AFunc := ⟨[0, 2, 4], (.seq (.ops [⟨(.var 1), .mov (.c (.sl [] .nil)), .none⟩]) (.seq (.seq (.ops [⟨.tmp, .mov (.v 0), .none⟩, ⟨(.var 2), .bin .eql .sl (.t 0) (.c (.sl [] .nil)), .none⟩]) (.cond (.v 2) (.seq (.ops [⟨(.var 1), .mov (.c (.sl [] .nil)), .none⟩]) .ret) .skip)) (.seq (.ops [⟨.tmp, .x .elit [], .none⟩, ⟨.tmp, .mov (.v 0), .none⟩, ⟨.tmp, .x (.afresh 9 16 1 false) [(.t 0), (.t 1)], .none⟩, ⟨(.var 1), .mov (.t 2), .none⟩]) .ret))), [.v 1], []⟩
def c62 : AFunc := ⟨[0, 2, 4], (.seq (.ops [⟨(.var 1), .mov (.c (.sl [] .nil)), .none⟩]) (.seq (.seq (.ops [⟨.tmp, .mov (.v 0), .none⟩, ⟨(.var 2), .bin .eql .sl (.t 0) (.c (.sl [] .nil)), .none⟩]) (.cond (.v 2) (.seq (.ops [⟨(.var 1), .mov (.c (.sl [] .nil)), .none⟩]) .ret) .skip)) (.seq (.ops [⟨.tmp, .x .elit [], .none⟩, ⟨.tmp, .mov (.v 0), .none⟩, ⟨.tmp, .x (.afresh 3 8 1 false) [(.t 0), (.t 1)], .none⟩, ⟨(.var 1), .mov (.t 2), .none⟩]) .ret))), [.v 1], []⟩
def c63 : AFunc := ⟨[0, 1, 2, 6, 7, 8, 9, 10, 11, 12, 13, 14, 15, 16, 17, 18, 19, 20, 34, 43, 45, 46, 47, 48, 64], (.seq (.ops [⟨(.var 3), .mov (.c (.int .i64 0)), .none⟩, ⟨(.var 4), .mov (.c (.bool false)), .none⟩]) (.seq (.seq (.ops [⟨(.var 14), .mov (.v 2), .none⟩, ⟨(.var 15), .len (.v 14), .none⟩, ⟨(.var 16), .mov (.c (.int .i64 0)), .none⟩]) (.block 0 (.loop (.seq (.ops [⟨(.var 17), .bin .lss .arith (.v 16) (.v 15), .none⟩]) (.seq (.cond (.v 17) .skip (.exit 0)) (.seq (.block 1 (.seq (.ops [⟨.tmp, .mov (.v 16), .none⟩, ⟨.tmp, .iaddr 1 (.v 14) (.v 16), .none⟩, ⟨.tmp, .load 1 false (.t 1), .none⟩, ⟨(.var 5), .mov (.t 0), .none⟩, ⟨(.var 6), .mov (.t 2), .none⟩]) (.seq (.ops [⟨.tmp, .mov (.v 0), .none⟩, ⟨.tmp, .nilc (.t 0), .none⟩, ⟨.tmp, .faddr 0 (.t 1), .none⟩, ⟨.tmp, .load 1 false (.t 2), .none⟩, ⟨.tmp, .mov (.v 1), .none⟩, ⟨.tmp, .mov (.v 5), .none⟩, ⟨.tmp, .bin .add .arith (.t 4) (.t 5), .none⟩, ⟨.tmp, .mov (.v 6), .none⟩, ⟨.tmp, .call (.c (.fn 10 [])) [(.t 3), (.t 6), (.t 7)], .none⟩, ⟨(.var 7), .mov (.t 8), .none⟩]) (.seq (.ops [⟨.tmp, .mov (.v 7), .none⟩, ⟨(.var 18), .bin .neq .arith (.t 0) (.c (.int .i64 0)), .none⟩]) (.cond (.v 18) (.seq (.ops [⟨.tmp, .mov (.v 7), .none⟩, ⟨(.var 3), .mov (.t 0), .none⟩, ⟨(.var 4), .mov (.c (.bool false)), .none⟩]) .ret) .skip))))) (.ops [⟨.tmp, .bin .add .arith (.v 16) (.c (.int .i64 1)), .none⟩, ⟨(.var 16), .mov (.t 0), .none⟩]))))))) (.seq (.seq (.ops [⟨.tmp, .mov (.v 0), .none⟩, ⟨.tmp, .nilc (.t 0), .none⟩, ⟨.tmp, .faddr 0 (.t 1), .none⟩, ⟨.tmp, .load 1 false (.t 2), .none⟩, ⟨.tmp, .call (.c (.fn 82 [])) [(.t 3)], .none⟩, ⟨(.var 8), .mov (.t 4), .none⟩]) (.seq (.ops [⟨.tmp, .mov (.v 8), .none⟩, ⟨(.var 19), .bin .neq .arith (.t 0) (.c (.int .i64 0)), .none⟩]) (.cond (.v 19) (.seq (.ops [⟨.tmp, .mov (.v 8), .none⟩, ⟨(.var 3), .mov (.t 0), .none⟩, ⟨(.var 4), .mov (.c (.bool false)), .none⟩]) .ret) .skip))) (.seq (.ops [⟨(.var 9), .mov (.c (.bool true)), .none⟩]) (.seq (.seq (.ops [⟨(.var 20), .mov (.v 2), .none⟩, ⟨(.var 21), .len (.v 20), .none⟩, ⟨(.var 22), .mov (.c (.int .i64 0)), .none⟩]) (.block 2 (.loop (.seq (.ops [⟨(.var 23), .bin .lss .arith (.v 22) (.v 21), .none⟩]) (.seq (.cond (.v 23) .skip (.exit 2)) (.seq (.block 3 (.seq (.ops [⟨.tmp, .mov (.v 22), .none⟩, ⟨.tmp, .iaddr 1 (.v 20) (.v 22), .none⟩, ⟨.tmp, .load 1 false (.t 1), .none⟩, ⟨(.var 10), .mov (.t 0), .none⟩, ⟨(.var 11), .mov (.t 2), .none⟩]) (.seq (.ops [⟨.tmp, .mov (.v 0), .none⟩, ⟨.tmp, .nilc (.t 0), .none⟩, ⟨.tmp, .faddr 0 (.t 1), .none⟩, ⟨.tmp, .load 1 false (.t 2), .none⟩, ⟨.tmp, .mov (.v 1), .none⟩, ⟨.tmp, .mov (.v 10), .none⟩, ⟨.tmp, .bin .add .arith (.t 4) (.t 5), .none⟩, ⟨.tmp, .call (.c (.fn 48 [])) [(.t 3), (.t 6)], .none⟩, ⟨.tmp, .mov (.t 7), .none⟩, ⟨.tmp, .ext (.t 8) 0, .none⟩, ⟨.tmp, .ext (.t 8) 1, .none⟩, ⟨(.var 12), .mov (.t 9), .none⟩, ⟨(.var 13), .mov (.t 10), .none⟩]) (.seq (.seq (.ops [⟨.tmp, .mov (.v 13), .none⟩, ⟨(.var 24), .bin .neq .arith (.t 0) (.c (.int .i64 0)), .none⟩]) (.cond (.v 24) (.seq (.ops [⟨.tmp, .mov (.v 13), .none⟩, ⟨(.var 3), .mov (.t 0), .none⟩, ⟨(.var 4), .mov (.c (.bool false)), .none⟩]) .ret) .skip)) (.ops [⟨.tmp, .mov (.v 9), .none⟩, ⟨.tmp, .mov (.t 0), .none⟩, ⟨.tmp, .mov (.v 11), (some ((.t 1), true))⟩, ⟨.tmp, .mov (.v 12), (some ((.t 1), true))⟩, ⟨.tmp, .bin .eql .arith (.t 2) (.t 3), (some ((.t 1), true))⟩, ⟨.tmp, .pick (.t 1) (.t 4) (.c (.bool false)), .none⟩, ⟨(.var 9), .mov (.t 5), .none⟩]))))) (.ops [⟨.tmp, .bin .add .arith (.v 22) (.c (.int .i64 1)), .none⟩, ⟨(.var 22), .mov (.t 0), .none⟩]))))))) (.seq (.ops [⟨.tmp, .mov (.v 9), .none⟩, ⟨(.var 3), .mov (.c (.int .i64 0)), .none⟩, ⟨(.var 4), .mov (.t 0), .none⟩]) .ret)))))), [.v 3, .v 4], []⟩
def c64 : AFunc := ⟨[0, 2], (.seq (.ops [⟨(.var 1), .mov (.c (.sl [] .nil)), .none⟩]) (.seq (.ops [⟨.tmp, .mov (.v 0), .none⟩, ⟨.tmp, .nilc (.t 0), .none⟩, ⟨.tmp, .faddr 1 (.t 1), .none⟩, ⟨.tmp, .load 1 false (.t 2), .none⟩, ⟨.tmp, .call (.c (.fn 84 [])) [(.t 3)], .none⟩, ⟨.tmp, .call (.c (.fn 83 [])) [(.t 4)], .none⟩, ⟨(.var 1), .mov (.t 5), .none⟩]) .ret)), [.v 1], []⟩
def c65 : AFunc := ⟨[0, 1, 2, 6, 35], (.seq (.ops [⟨.tmp, .mov (.v 0), .none⟩, ⟨.tmp, .nilc (.t 0), .none⟩, ⟨.tmp, .faddr 1 (.t 1), .none⟩, ⟨.tmp, .load 1 false (.t 2), .none⟩, ⟨.tmp, .mov (.v 1), .none⟩, ⟨.tmp, .x (.mlook (.int .i64) (.agg (List.replicate 64 (.int .u8 0))) false) [(.t 3), (.t 4)], .none⟩, ⟨(.var 3), .alloc 86 64 true (List.replicate 64 (.int .u8 0)), .none⟩, ⟨.no, .store 64 (.v 3) (.t 5), .none⟩]) (.seq (.ops [⟨.tmp, .mov (.v 0), .none⟩, ⟨.tmp, .nilc (.t 0), .none⟩, ⟨.tmp, .faddr 1 (.t 1), .none⟩, ⟨.tmp, .load 1 false (.t 2), .none⟩, ⟨.tmp, .mov (.v 1), .none⟩, ⟨.no, .x (.mdel (.int .i64)) [(.t 3), (.t 4)], .none⟩]) (.seq (.ops [⟨.tmp, .mov (.v 0), .none⟩, ⟨.tmp, .nilc (.t 0), .none⟩, ⟨.tmp, .faddr 2 (.t 1), .none⟩, ⟨.tmp, .load 1 false (.t 2), .none⟩, ⟨.tmp, .mov (.v 1), .none⟩, ⟨.tmp, .x (.mlook (.int .i64) (.bool false) false) [(.t 3), (.t 4)], .none⟩, ⟨.tmp, .un .not (.t 5), .none⟩, ⟨.tmp, .mov (.t 6), .none⟩, ⟨.tmp, .load 64 true (.v 3), (some ((.t 7), true))⟩, ⟨.tmp, .mov (.v 0), (some ((.t 7), true))⟩, ⟨.tmp, .nilc (.t 9), (some ((.t 7), true))⟩, ⟨.tmp, .faddr 0 (.t 10), (some ((.t 7), true))⟩, ⟨.tmp, .load 1 false (.t 11), (some ((.t 7), true))⟩, ⟨.tmp, .mov (.v 1), (some ((.t 7), true))⟩, ⟨.tmp, .iaddr 64 (.t 12) (.t 13), (some ((.t 7), true))⟩, ⟨.tmp, .load 64 true (.t 14), (some ((.t 7), true))⟩, ⟨.tmp, .bin .neq (.struct (List.replicate 64 .int)) (.t 8) (.t 15), (some ((.t 7), true))⟩, ⟨(.var 4), .pick (.t 7) (.t 16) (.c (.bool false)), .none⟩]) (.cond (.v 4) (.ops [⟨.tmp, .mov (.v 0), .none⟩, ⟨.tmp, .nilc (.t 0), .none⟩, ⟨.tmp, .faddr 0 (.t 1), .none⟩, ⟨.tmp, .load 1 false (.t 2), .none⟩, ⟨.tmp, .mov (.v 1), .none⟩, ⟨.tmp, .iaddr 64 (.t 3) (.t 4), .none⟩, ⟨.tmp, .mov (.v 2), .none⟩, ⟨.tmp, .mnx false (.t 6) (.c (.int .i64 64)), .none⟩, ⟨.tmp, .mnx true (.c (.int .i64 0)) (.t 7), .none⟩, ⟨.tmp, .x (.aslice 64 1 false false true) [(.t 5), (.t 8)], .none⟩, ⟨.tmp, .x (.aslice 64 1 false false false) [(.v 3)], .none⟩, ⟨.tmp, .copy 1 (.t 9) (.t 10), .none⟩]) .skip)))), [], []⟩
def c74 : AFunc := ⟨[0, 1, 2, 3, 4], (.seq (.ops [⟨(.var 2), .box 1 false (.v 0), .none⟩, ⟨(.var 3), .box 1 false (.v 1), .none⟩, ⟨(.var 4), .mov (.c .nilfn), .none⟩]) (.seq (.ops [⟨.tmp, .clo 90 [(.v 3), (.v 2)], .none⟩, ⟨(.var 4), .mov (.t 0), .none⟩]) .ret)), [.v 4], []⟩
def c75 : AFunc := ⟨[0, 2], (.seq (.ops [⟨(.var 1), .alloc 125 32 true (List.replicate 32 (.int .u8 0)), .none⟩]) (.seq (.ops [⟨.tmp, .pcall 92 [], .none⟩, ⟨.tmp, .mov (.v 0), .none⟩, ⟨.tmp, .x .b2s [(.t 1)], .none⟩, ⟨.tmp, .pcall 93 [(.t 0), (.t 2)], .none⟩, ⟨.tmp, .pcall 94 [(.t 3)], .none⟩, ⟨.no, .store 32 (.v 1) (.t 4), .none⟩]) .ret)), [.c 1 32 true], []⟩
def c76L0 : ALoop := ⟨[.none, (some 5)], (.ops [⟨(.var 3), .mov (.v 5), .none⟩]), (.block 1 (.ops [⟨.tmp, .load 1 false (.v 2), .none⟩, ⟨.tmp, .bin .shl .arith (.t 0) (.c (.int .u64 8)), .none⟩, ⟨.tmp, .mov (.v 3), .none⟩, ⟨.tmp, .toInt .i64 (.t 2), .none⟩, ⟨.tmp, .bin .or .arith (.t 1) (.t 3), .none⟩, ⟨.no, .store 1 (.v 2) (.t 4), .none⟩]))⟩
def c76 : AFunc := ⟨[0, 2, 3, 5, 7, 9], (.seq (.ops [⟨(.var 1), .mov (.c (.int .i64 0)), .none⟩]) (.seq (.ops [⟨(.var 2), .alloc 3 1 false [(.int .i64 0)], .none⟩, ⟨.no, .store 1 (.v 2) (.c (.int .i64 0)), .none⟩]) (.seq (.seq (.ops [⟨.tmp, .mov (.v 0), .none⟩, ⟨(.var 4), .call (.c (.fn 95 [])) [(.t 0)], .none⟩]) (.block 0 (.rfunc 76 0 [0, 2, 3, 5, 7, 9] (.v 4)))) (.seq (.ops [⟨.tmp, .load 1 false (.v 2), .none⟩, ⟨(.var 1), .mov (.t 0), .none⟩]) .ret)))), [.v 1], [c76L0]⟩
def c77 : AFunc := ⟨[0, 1, 4], (.seq (.ops [⟨(.var 2), .mov (.c (.bool false)), .none⟩]) (.seq (.ops [⟨.tmp, .mov (.v 0), .none⟩, ⟨.tmp, .x .b2s [(.t 0)], .none⟩, ⟨.tmp, .mov (.v 1), .none⟩, ⟨.tmp, .x .b2s [(.t 2)], .none⟩, ⟨.tmp, .bin .eql .arith (.t 1) (.t 3), .none⟩, ⟨(.var 2), .mov (.t 4), .none⟩]) .ret)), [.v 2], []⟩
def c78 : AFunc := ⟨[0, 1, 4, 5, 7, 8, 9, 16], (.seq (.ops [⟨(.var 2), .mov (.c (.int .i64 0)), .none⟩]) (.seq (.seq (.ops [⟨.tmp, .mov (.v 0), .none⟩, ⟨(.var 4), .len (.t 0), .none⟩, ⟨(.var 5), .mov (.c (.int .i64 0)), .none⟩]) (.block 0 (.loop (.seq (.ops [⟨(.var 6), .bin .lss .arith (.v 5) (.v 4), .none⟩]) (.seq (.cond (.v 6) .skip (.exit 0)) (.seq (.block 1 (.seq (.ops [⟨.tmp, .mov (.v 5), .none⟩, ⟨(.var 3), .mov (.t 0), .none⟩]) (.seq (.ops [⟨.tmp, .mov (.v 1), .none⟩, ⟨.tmp, .mov (.v 0), .none⟩, ⟨.tmp, .mov (.v 3), .none⟩, ⟨.tmp, .iaddr 1 (.t 1) (.t 2), .none⟩, ⟨.tmp, .load 1 false (.t 3), .none⟩, ⟨(.var 7), .bin .eql .arith (.t 0) (.t 4), .none⟩]) (.cond (.v 7) (.seq (.ops [⟨.tmp, .mov (.v 3), .none⟩, ⟨(.var 2), .mov (.t 0), .none⟩]) .ret) .skip)))) (.ops [⟨.tmp, .bin .add .arith (.v 5) (.c (.int .i64 1)), .none⟩, ⟨(.var 5), .mov (.t 0), .none⟩]))))))) (.seq (.ops [⟨(.var 2), .mov (.c (.int .i64 (-1))), .none⟩]) .ret))), [.v 2], []⟩
def c79 : AFunc := ⟨[0, 2, 3, 4, 9], (.seq (.ops [⟨(.var 1), .mov (.c (.int .i64 0)), .none⟩]) (.seq (.ops [⟨(.var 2), .mov (.c (.int .i64 0)), .none⟩]) (.seq (.seq (.ops [⟨.tmp, .mov (.v 0), .none⟩, ⟨.tmp, .slen (.t 0), .none⟩, ⟨.tmp, .bin .sub .arith (.t 1) (.c (.int .i64 1)), .none⟩, ⟨(.var 3), .mov (.t 2), .none⟩]) (.block 0 (.loop (.seq (.seq (.ops [⟨.tmp, .mov (.v 3), .none⟩, ⟨(.var 4), .bin .geq .arith (.t 0) (.c (.int .i64 0)), .none⟩]) (.cond (.v 4) .skip (.exit 0))) (.seq (.block 1 (.ops [⟨.tmp, .mov (.v 2), .none⟩, ⟨.tmp, .bin .mul .arith (.c (.int .i64 256)) (.t 0), .none⟩, ⟨.tmp, .mov (.v 0), .none⟩, ⟨.tmp, .mov (.v 3), .none⟩, ⟨.tmp, .sidx (.t 2) (.t 3), .none⟩, ⟨.tmp, .toInt .i64 (.t 4), .none⟩, ⟨.tmp, .bin .add .arith (.t 1) (.t 5), .none⟩, ⟨(.var 2), .mov (.t 6), .none⟩])) (.ops [⟨.tmp, .mov (.v 3), .none⟩, ⟨.tmp, .bin .sub .arith (.t 0) (.c (.int .i64 1)), .none⟩, ⟨(.var 3), .mov (.t 1), .none⟩])))))) (.seq (.ops [⟨.tmp, .mov (.v 2), .none⟩, ⟨(.var 1), .mov (.t 0), .none⟩]) .ret)))), [.v 1], []⟩
def c80 : AFunc := ⟨[0, 2, 3], (.seq (.ops [⟨(.var 1), .mov (.c (.str [])), .none⟩]) (.seq (.ops [⟨.tmp, .mov (.v 0), .none⟩, ⟨.tmp, .pcall 96 [(.t 0)], .none⟩, ⟨(.var 2), .alloc 125 32 true (List.replicate 32 (.int .u8 0)), .none⟩, ⟨.no, .store 32 (.v 2) (.t 1), .none⟩]) (.seq (.ops [⟨.tmp, .mov (.v 0), .none⟩, ⟨.tmp, .x .b2s [(.t 0)], .none⟩, ⟨.tmp, .x (.aslice 32 1 false false true) [(.v 2), (.c (.int .i64 8))], .none⟩, ⟨.tmp, .x .b2s [(.t 2)], .none⟩, ⟨.tmp, .bin .add .arith (.t 1) (.t 3), .none⟩, ⟨(.var 1), .mov (.t 4), .none⟩]) .ret))), [.v 1], []⟩
def c81 : AFunc := ⟨[0, 1, 4, 5, 6, 9], (.seq (.ops [⟨(.var 2), .mov (.c (.sl [] .nil)), .none⟩]) (.seq (.ops [⟨(.var 3), .mov (.c (.sl [] .nil)), .none⟩]) (.seq (.seq (.ops [⟨(.var 4), .mov (.c (.int .i64 0)), .none⟩]) (.block 0 (.loop (.seq (.seq (.ops [⟨.tmp, .mov (.v 4), .none⟩, ⟨.tmp, .mov (.v 1), .none⟩, ⟨(.var 5), .bin .lss .arith (.t 0) (.t 1), .none⟩]) (.cond (.v 5) .skip (.exit 0))) (.seq (.block 1 (.seq (.ops [⟨.tmp, .mov (.v 3), .none⟩, ⟨.tmp, .mov (.v 0), .none⟩, ⟨.tmp, .bin .rem .arith (.t 1) (.c (.int .i64 256)), .none⟩, ⟨.tmp, .toInt .u8 (.t 2), .none⟩, ⟨.tmp, .lit 0 5 1 1 false [(.int .u8 0)] [(0, (.t 3))], .none⟩, ⟨.tmp, .append false 5 1 1 false (.t 0) (.t 4), .none⟩, ⟨(.var 3), .mov (.t 5), .none⟩]) (.ops [⟨.tmp, .mov (.v 0), .none⟩, ⟨.tmp, .bin .quo .arith (.t 0) (.c (.int .i64 256)), .none⟩, ⟨(.var 0), .mov (.t 1), .none⟩]))) (.ops [⟨.tmp, .mov (.v 4), .none⟩, ⟨.tmp, .bin .add .arith (.t 0) (.c (.int .i64 1)), .none⟩, ⟨(.var 4), .mov (.t 1), .none⟩])))))) (.seq (.ops [⟨.tmp, .mov (.v 3), .none⟩, ⟨(.var 2), .mov (.t 0), .none⟩]) .ret)))), [.v 2], []⟩
def c82 : AFunc := ⟨[0, 2, 3, 4, 6, 10, 15, 18, 19, 20, 21], (.seq (.ops [⟨(.var 1), .mov (.c (.int .i64 0)), .none⟩]) (.seq (.seq (.ops [⟨.tmp, .mov (.v 0), .none⟩, ⟨.tmp, .call (.c (.fn 43 [])) [(.t 0), (.c (.int .i64 0))], .none⟩, ⟨(.var 2), .mov (.t 1), .none⟩]) (.seq (.ops [⟨.tmp, .mov (.v 2), .none⟩, ⟨(.var 5), .bin .neq .arith (.t 0) (.c (.int .i64 0)), .none⟩]) (.cond (.v 5) (.seq (.ops [⟨.tmp, .mov (.v 2), .none⟩, ⟨(.var 1), .mov (.t 0), .none⟩]) .ret) .skip))) (.seq (.seq (.ops [⟨.tmp, .mov (.v 0), .none⟩, ⟨.tmp, .call (.c (.fn 44 [])) [(.t 0)], .none⟩, ⟨(.var 3), .mov (.t 1), .none⟩]) (.seq (.ops [⟨.tmp, .mov (.v 3), .none⟩, ⟨(.var 6), .bin .neq .arith (.t 0) (.c (.int .i64 0)), .none⟩]) (.cond (.v 6) (.seq (.ops [⟨.tmp, .mov (.v 3), .none⟩, ⟨(.var 1), .mov (.t 0), .none⟩]) .ret) .skip))) (.seq (.seq (.ops [⟨.tmp, .mov (.v 0), .none⟩, ⟨(.var 7), .gcall 64 [(.t 0)], .none⟩, ⟨(.var 8), .len (.v 7), .none⟩, ⟨(.var 9), .mov (.c (.int .i64 0)), .none⟩]) (.block 0 (.loop (.seq (.ops [⟨(.var 10), .bin .lss .arith (.v 9) (.v 8), .none⟩]) (.seq (.cond (.v 10) .skip (.exit 0)) (.seq (.block 1 (.seq (.ops [⟨.tmp, .iaddr 1 (.v 7) (.v 9), .none⟩, ⟨.tmp, .load 1 false (.t 0), .none⟩, ⟨(.var 4), .mov (.t 1), .none⟩]) (.ops [⟨.tmp, .mov (.v 0), .none⟩, ⟨.tmp, .mov (.v 4), .none⟩, ⟨.tmp, .call (.c (.fn 65 [])) [(.t 0), (.t 1), (.c (.int .i64 64))], .none⟩]))) (.ops [⟨.tmp, .bin .add .arith (.v 9) (.c (.int .i64 1)), .none⟩, ⟨(.var 9), .mov (.t 0), .none⟩]))))))) (.seq (.ops [⟨(.var 1), .mov (.c (.int .i64 0)), .none⟩]) .ret))))), [.v 1], []⟩
def c84 : AFunc := ⟨[0, 1, 2], (.seq (.ops [⟨(.var 1), .box 1 false (.v 0), .none⟩, ⟨(.var 2), .mov (.c .nilfn), .none⟩]) (.seq (.ops [⟨.tmp, .clo 99 [(.v 1)], .none⟩, ⟨(.var 2), .mov (.t 0), .none⟩]) .ret)), [.v 2], []⟩
def c90 : AFunc := ⟨[0, 1, 2, 4, 5, 6, 7, 10, 11, 12, 39], (.seq (.ops [⟨.tmp, .load 1 false (.v 1), .none⟩, ⟨.tmp, .slen (.t 0), .none⟩, ⟨(.var 7), .pcall 16 [(.t 1)], .none⟩, ⟨(.var 8), .mov (.c (.int .i64 0)), .none⟩]) (.block 0 (.loop (.seq (.ops [⟨(.var 9), .bin .lss .arith (.v 8) (.v 7), .none⟩]) (.seq (.cond (.v 9) .skip (.exit 0)) (.seq (.block 1 (.seq (.ops [⟨.tmp, .mov (.v 8), .none⟩, ⟨(.var 3), .mov (.t 0), .none⟩]) (.seq (.ops [⟨(.var 4), .alloc 96 64 true (List.replicate 64 (.int .u8 0)), .none⟩]) (.seq (.ops [⟨.tmp, .load 1 false (.v 1), .none⟩, ⟨.tmp, .mov (.v 3), .none⟩, ⟨.tmp, .bin .mul .arith (.c (.int .i64 48)) (.t 1), .none⟩, ⟨.tmp, .sslice (.t 0) (some (.t 2)) .none, .none⟩, ⟨(.var 5), .mov (.t 3), .none⟩]) (.seq (.ops [⟨.tmp, .x (.aslice 64 1 false false true) [(.v 4), (.c (.int .i64 4))], .none⟩, ⟨.tmp, .load 1 false (.v 2), .none⟩, ⟨.tmp, .call (.c (.fn 91 [])) [(.t 0), (.t 1)], .none⟩]) (.seq (.ops [⟨.tmp, .x (.aslice 64 1 false true true) [(.v 4), (.c (.int .i64 4)), (.c (.int .i64 6))], .none⟩, ⟨.tmp, .mov (.v 3), .none⟩, ⟨.tmp, .call (.c (.fn 91 [])) [(.t 0), (.t 1)], .none⟩]) (.seq (.ops [⟨.tmp, .x (.aslice 64 1 false true true) [(.v 4), (.c (.int .i64 6)), (.c (.int .i64 8))], .none⟩, ⟨.tmp, .mov (.v 5), .none⟩, ⟨.tmp, .slen (.t 1), .none⟩, ⟨.tmp, .call (.c (.fn 91 [])) [(.t 0), (.t 2)], .none⟩]) (.seq (.ops [⟨.tmp, .x (.aslice 64 1 false true true) [(.v 4), (.c (.int .i64 8)), (.c (.int .i64 56))], .none⟩, ⟨.tmp, .mov (.v 5), .none⟩, ⟨.tmp, .copy 1 (.t 0) (.t 1), .none⟩]) (.seq (.ops [⟨.tmp, .x (.aslice 64 1 false false true) [(.v 4), (.c (.int .i64 56))], .none⟩, ⟨.tmp, .pcall 75 [(.t 0)], .none⟩, ⟨(.var 6), .alloc 125 32 true (List.replicate 32 (.int .u8 0)), .none⟩, ⟨.no, .store 32 (.v 6) (.t 1), .none⟩]) (.seq (.ops [⟨.tmp, .x (.aslice 64 1 false true false) [(.v 4), (.c (.int .i64 56))], .none⟩, ⟨.tmp, .x (.aslice 32 1 false false false) [(.v 6)], .none⟩, ⟨.tmp, .copy 1 (.t 0) (.t 1), .none⟩]) (.seq (.ops [⟨.tmp, .mov (.v 0), .none⟩, ⟨.tmp, .load 64 true (.v 4), .none⟩, ⟨.tmp, .call (.t 0) [(.t 1)], .none⟩, ⟨(.var 10), .un .not (.t 2), .none⟩]) (.cond (.v 10) .ret .skip)))))))))))) (.ops [⟨.tmp, .bin .add .arith (.v 8) (.c (.int .i64 1)), .none⟩, ⟨(.var 8), .mov (.t 0), .none⟩]))))))), [], []⟩
def c91 : AFunc := ⟨[0, 1, 4, 6, 7, 8], (.seq (.ops [⟨.tmp, .mov (.v 0), .none⟩, ⟨(.var 3), .len (.t 0), .none⟩, ⟨(.var 4), .mov (.c (.int .i64 0)), .none⟩]) (.block 0 (.loop (.seq (.ops [⟨(.var 5), .bin .lss .arith (.v 4) (.v 3), .none⟩]) (.seq (.cond (.v 5) .skip (.exit 0)) (.seq (.block 1 (.seq (.ops [⟨.tmp, .mov (.v 4), .none⟩, ⟨(.var 2), .mov (.t 0), .none⟩]) (.seq (.ops [⟨.tmp, .mov (.v 0), .none⟩, ⟨.tmp, .mov (.v 2), .none⟩, ⟨.tmp, .mov (.v 1), .none⟩, ⟨.tmp, .toInt .u8 (.t 2), .none⟩, ⟨.tmp, .iaddr 1 (.t 0) (.t 1), .none⟩, ⟨.no, .store 1 (.t 4) (.t 3), .none⟩]) (.ops [⟨.tmp, .mov (.v 1), .none⟩, ⟨.tmp, .bin .shr .arith (.t 0) (.c (.int .u64 8)), .none⟩, ⟨(.var 1), .mov (.t 1), .none⟩])))) (.ops [⟨.tmp, .bin .add .arith (.v 4) (.c (.int .i64 1)), .none⟩, ⟨(.var 4), .mov (.t 0), .none⟩]))))))), [], []⟩
def c92 : AFunc := ⟨[0], (.seq (.ops [⟨(.var 0), .alloc 148 73 true (List.replicate 8 (.int .u32 0) ++ List.replicate 64 (.int .u8 0) ++ [(.int .u64 0)]), .none⟩]) (.seq (.ops [⟨.tmp, .build [(.int .u32 0), (.int .u32 0), (.int .u32 0), (.int .u32 0), (.int .u32 0), (.int .u32 0), (.int .u32 0), (.int .u32 0)] [(0, 1, (.c (.int .u32 1779033703))), (1, 1, (.c (.int .u32 3144134277))), (2, 1, (.c (.int .u32 1013904242))), (3, 1, (.c (.int .u32 2773480762))), (4, 1, (.c (.int .u32 1359893119))), (5, 1, (.c (.int .u32 2600822924))), (6, 1, (.c (.int .u32 528734635))), (7, 1, (.c (.int .u32 1541459225)))], .none⟩, ⟨.tmp, .build (List.replicate 8 (.int .u32 0) ++ List.replicate 64 (.int .u8 0) ++ [(.int .u64 0)]) [(0, 8, (.t 0))], .none⟩, ⟨.no, .store 73 (.v 0) (.t 1), .none⟩]) .ret)), [.c 0 73 true], []⟩
def c93 : AFunc := ⟨[0, 1, 2, 4, 5, 6, 8, 30], (.seq (.ops [⟨(.var 2), .box 73 true (.v 0), .none⟩, ⟨(.var 3), .alloc 148 73 true (List.replicate 8 (.int .u32 0) ++ List.replicate 64 (.int .u8 0) ++ [(.int .u64 0)]), .none⟩]) (.seq (.block 0 (.loop (.seq (.seq (.ops [⟨.tmp, .mov (.v 1), .none⟩, ⟨(.var 6), .bin .neq .arith (.t 0) (.c (.str [])), .none⟩]) (.cond (.v 6) .skip (.exit 0))) (.block 1 (.seq (.ops [⟨.tmp, .faddr 72 (.v 2), .none⟩, ⟨.tmp, .load 1 false (.t 0), .none⟩, ⟨.tmp, .bin .rem .arith (.t 1) (.c (.int .u64 64)), .none⟩, ⟨.tmp, .toInt .i64 (.t 2), .none⟩, ⟨(.var 4), .mov (.t 3), .none⟩]) (.seq (.ops [⟨.tmp, .faddr 8 (.v 2), .none⟩, ⟨.tmp, .mov (.v 4), .none⟩, ⟨.tmp, .x (.aslice 64 1 false true false) [(.t 0), (.t 1)], .none⟩, ⟨.tmp, .mov (.v 1), .none⟩, ⟨.tmp, .copy 1 (.t 2) (.t 3), .none⟩, ⟨(.var 5), .mov (.t 4), .none⟩]) (.seq (.ops [⟨.tmp, .mov (.v 1), .none⟩, ⟨.tmp, .mov (.v 5), .none⟩, ⟨.tmp, .sslice (.t 0) (some (.t 1)) .none, .none⟩, ⟨(.var 1), .mov (.t 2), .none⟩]) (.seq (.ops [⟨.tmp, .faddr 72 (.v 2), .none⟩, ⟨.tmp, .load 1 false (.t 0), .none⟩, ⟨.tmp, .mov (.v 5), .none⟩, ⟨.tmp, .toInt .u64 (.t 2), .none⟩, ⟨.tmp, .bin .add .arith (.t 1) (.t 3), .none⟩, ⟨.tmp, .faddr 72 (.v 2), .none⟩, ⟨.no, .store 1 (.t 5) (.t 4), .none⟩]) (.seq (.ops [⟨.tmp, .mov (.v 4), .none⟩, ⟨.tmp, .mov (.v 5), .none⟩, ⟨.tmp, .bin .add .arith (.t 0) (.t 1), .none⟩, ⟨(.var 7), .bin .eql .arith (.t 2) (.c (.int .i64 64)), .none⟩]) (.cond (.v 7) (.ops [⟨.tmp, .faddr 0 (.v 2), .none⟩, ⟨.tmp, .load 8 true (.t 0), .none⟩, ⟨.tmp, .faddr 8 (.v 2), .none⟩, ⟨.tmp, .x (.aslice 64 1 false false false) [(.t 2)], .none⟩, ⟨.tmp, .pcall 102 [(.t 1), (.t 3)], .none⟩, ⟨.tmp, .faddr 0 (.v 2), .none⟩, ⟨.no, .store 8 (.t 5) (.t 4), .none⟩]) .skip)))))))))) (.seq (.ops [⟨.tmp, .load 73 true (.v 2), .none⟩, ⟨.no, .store 73 (.v 3) (.t 0), .none⟩]) .ret))), [.c 3 73 true], []⟩
def c94 : AFunc := ⟨[0, 1, 2, 3, 4, 5, 6, 7, 19, 23, 24, 40, 41], (.seq (.ops [⟨(.var 1), .box 73 true (.v 0), .none⟩, ⟨(.var 2), .alloc 125 32 true (List.replicate 32 (.int .u8 0)), .none⟩]) (.seq (.ops [⟨.tmp, .faddr 72 (.v 1), .none⟩, ⟨.tmp, .load 1 false (.t 0), .none⟩, ⟨.tmp, .bin .mul .arith (.c (.int .u64 8)) (.t 1), .none⟩, ⟨(.var 3), .mov (.t 2), .none⟩]) (.seq (.ops [⟨.tmp, .lit 1 5 1 1 false [(.int .u8 0)] [(0, (.c (.int .u8 128)))], .none⟩, ⟨(.var 4), .mov (.t 0), .none⟩]) (.seq (.block 0 (.loop (.seq (.seq (.ops [⟨.tmp, .faddr 72 (.v 1), .none⟩, ⟨.tmp, .load 1 false (.t 0), .none⟩, ⟨.tmp, .toInt .i64 (.t 1), .none⟩, ⟨.tmp, .mov (.v 4), .none⟩, ⟨.tmp, .len (.t 3), .none⟩, ⟨.tmp, .bin .add .arith (.t 2) (.t 4), .none⟩, ⟨.tmp, .bin .rem .arith (.t 5) (.c (.int .i64 64)), .none⟩, ⟨(.var 8), .bin .neq .arith (.t 6) (.c (.int .i64 56)), .none⟩]) (.cond (.v 8) .skip (.exit 0))) (.block 1 (.ops [⟨.tmp, .mov (.v 4), .none⟩, ⟨.tmp, .lit 0 5 1 1 false [(.int .u8 0)] [(0, (.c (.int .u8 0)))], .none⟩, ⟨.tmp, .append false 5 1 1 false (.t 0) (.t 1), .none⟩, ⟨(.var 4), .mov (.t 2), .none⟩]))))) (.seq (.seq (.ops [⟨(.var 9), .mov (.c (.int .i64 0)), .none⟩]) (.block 2 (.loop (.seq (.ops [⟨(.var 10), .bin .lss .arith (.v 9) (.c (.int .i64 8)), .none⟩]) (.seq (.cond (.v 10) .skip (.exit 2)) (.seq (.block 3 (.seq (.ops [⟨.tmp, .mov (.v 9), .none⟩, ⟨(.var 5), .mov (.t 0), .none⟩]) (.ops [⟨.tmp, .mov (.v 4), .none⟩, ⟨.tmp, .mov (.v 3), .none⟩, ⟨.tmp, .mov (.v 5), .none⟩, ⟨.tmp, .bin .mul .arith (.c (.int .i64 8)) (.t 2), .none⟩, ⟨.tmp, .bin .sub .arith (.c (.int .i64 56)) (.t 3), .none⟩, ⟨.tmp, .bin .shr .arith (.t 1) (.t 4), .none⟩, ⟨.tmp, .toInt .u8 (.t 5), .none⟩, ⟨.tmp, .lit 0 5 1 1 false [(.int .u8 0)] [(0, (.t 6))], .none⟩, ⟨.tmp, .append false 5 1 1 false (.t 0) (.t 7), .none⟩, ⟨(.var 4), .mov (.t 8), .none⟩]))) (.ops [⟨.tmp, .bin .add .arith (.v 9) (.c (.int .i64 1)), .none⟩, ⟨(.var 9), .mov (.t 0), .none⟩]))))))) (.seq (.ops [⟨.tmp, .load 73 true (.v 1), .none⟩, ⟨.tmp, .mov (.v 4), .none⟩, ⟨.tmp, .x .b2s [(.t 1)], .none⟩, ⟨.tmp, .pcall 93 [(.t 0), (.t 2)], .none⟩, ⟨.no, .store 73 (.v 1) (.t 3), .none⟩]) (.seq (.ops [⟨(.var 6), .alloc 125 32 true (List.replicate 32 (.int .u8 0)), .none⟩]) (.seq (.seq (.ops [⟨(.var 11), .mov (.c (.int .i64 0)), .none⟩]) (.block 4 (.loop (.seq (.ops [⟨(.var 12), .bin .lss .arith (.v 11) (.c (.int .i64 32)), .none⟩]) (.seq (.cond (.v 12) .skip (.exit 4)) (.seq (.block 5 (.seq (.ops [⟨.tmp, .mov (.v 11), .none⟩, ⟨(.var 7), .mov (.t 0), .none⟩]) (.ops [⟨.tmp, .mov (.v 7), .none⟩, ⟨.tmp, .mov (.v 7), .none⟩, ⟨.tmp, .bin .quo .arith (.t 1) (.c (.int .i64 4)), .none⟩, ⟨.tmp, .faddr 0 (.v 1), .none⟩, ⟨.tmp, .aaddr 8 1 (.t 3) (.t 2), .none⟩, ⟨.tmp, .load 1 false (.t 4), .none⟩, ⟨.tmp, .mov (.v 7), .none⟩, ⟨.tmp, .bin .rem .arith (.t 6) (.c (.int .i64 4)), .none⟩, ⟨.tmp, .bin .mul .arith (.c (.int .i64 8)) (.t 7), .none⟩, ⟨.tmp, .bin .sub .arith (.c (.int .i64 24)) (.t 8), .none⟩, ⟨.tmp, .bin .shr .arith (.t 5) (.t 9), .none⟩, ⟨.tmp, .toInt .u8 (.t 10), .none⟩, ⟨.tmp, .aaddr 32 1 (.v 6) (.t 0), .none⟩, ⟨.no, .store 1 (.t 12) (.t 11), .none⟩]))) (.ops [⟨.tmp, .bin .add .arith (.v 11) (.c (.int .i64 1)), .none⟩, ⟨(.var 11), .mov (.t 0), .none⟩]))))))) (.seq (.ops [⟨.tmp, .load 32 true (.v 6), .none⟩, ⟨.no, .store 32 (.v 2) (.t 0), .none⟩]) .ret))))))))), [.c 2 32 true], []⟩
def c95 : AFunc := ⟨[0, 1, 2], (.seq (.ops [⟨(.var 1), .box 1 false (.v 0), .none⟩, ⟨(.var 2), .mov (.c .nilfn), .none⟩]) (.seq (.ops [⟨.tmp, .clo 103 [(.v 1)], .none⟩, ⟨(.var 2), .mov (.t 0), .none⟩]) .ret)), [.v 2], []⟩
def c96 : AFunc := ⟨[0, 2, 3, 4, 5, 6, 7, 8, 9, 10, 11, 12, 13, 14, 15, 16, 17, 18, 19, 26, 52, 148], (.seq (.ops [⟨(.var 1), .alloc 125 32 true (List.replicate 32 (.int .u8 0)), .none⟩]) (.seq (.ops [⟨.tmp, .build [(.int .u32 0), (.int .u32 0), (.int .u32 0), (.int .u32 0), (.int .u32 0), (.int .u32 0), (.int .u32 0), (.int .u32 0)] [(0, 1, (.c (.int .u32 1779033703))), (1, 1, (.c (.int .u32 3144134277))), (2, 1, (.c (.int .u32 1013904242))), (3, 1, (.c (.int .u32 2773480762))), (4, 1, (.c (.int .u32 1359893119))), (5, 1, (.c (.int .u32 2600822924))), (6, 1, (.c (.int .u32 528734635))), (7, 1, (.c (.int .u32 1541459225)))], .none⟩, ⟨(.var 2), .alloc 146 8 true [(.int .u32 0), (.int .u32 0), (.int .u32 0), (.int .u32 0), (.int .u32 0), (.int .u32 0), (.int .u32 0), (.int .u32 0)], .none⟩, ⟨.no, .store 8 (.v 2) (.t 0), .none⟩]) (.seq (.ops [⟨.tmp, .mov (.v 0), .none⟩, ⟨.tmp, .pcall 104 [(.t 0)], .none⟩, ⟨(.var 3), .mov (.t 1), .none⟩]) (.seq (.seq (.ops [⟨(.var 4), .mov (.c (.int .i64 0)), .none⟩]) (.block 0 (.loop (.seq (.seq (.ops [⟨.tmp, .mov (.v 4), .none⟩, ⟨.tmp, .mov (.v 3), .none⟩, ⟨.tmp, .len (.t 1), .none⟩, ⟨(.var 19), .bin .lss .arith (.t 0) (.t 2), .none⟩]) (.cond (.v 19) .skip (.exit 0))) (.seq (.block 1 (.seq (.ops [⟨.tmp, .mov (.v 3), .none⟩, ⟨.tmp, .mov (.v 4), .none⟩, ⟨.tmp, .mov (.v 4), .none⟩, ⟨.tmp, .bin .add .arith (.t 2) (.c (.int .i64 64)), .none⟩, ⟨.tmp, .slice 1 (.t 0) (some (.t 1)) (some (.t 3)), .none⟩, ⟨.tmp, .pcall 105 [(.t 4)], .none⟩, ⟨(.var 5), .alloc 161 64 true (List.replicate 64 (.int .u32 0)), .none⟩, ⟨.no, .store 64 (.v 5) (.t 5), .none⟩]) (.seq (.ops [⟨.tmp, .aaddr 8 1 (.v 2) (.c (.int .i64 0)), .none⟩, ⟨.tmp, .load 1 false (.t 0), .none⟩, ⟨.tmp, .aaddr 8 1 (.v 2) (.c (.int .i64 1)), .none⟩, ⟨.tmp, .load 1 false (.t 2), .none⟩, ⟨.tmp, .aaddr 8 1 (.v 2) (.c (.int .i64 2)), .none⟩, ⟨.tmp, .load 1 false (.t 4), .none⟩, ⟨.tmp, .aaddr 8 1 (.v 2) (.c (.int .i64 3)), .none⟩, ⟨.tmp, .load 1 false (.t 6), .none⟩, ⟨.tmp, .aaddr 8 1 (.v 2) (.c (.int .i64 4)), .none⟩, ⟨.tmp, .load 1 false (.t 8), .none⟩, ⟨.tmp, .aaddr 8 1 (.v 2) (.c (.int .i64 5)), .none⟩, ⟨.tmp, .load 1 false (.t 10), .none⟩, ⟨.tmp, .aaddr 8 1 (.v 2) (.c (.int .i64 6)), .none⟩, ⟨.tmp, .load 1 false (.t 12), .none⟩, ⟨.tmp, .aaddr 8 1 (.v 2) (.c (.int .i64 7)), .none⟩, ⟨.tmp, .load 1 false (.t 14), .none⟩, ⟨(.var 6), .mov (.t 1), .none⟩, ⟨(.var 7), .mov (.t 3), .none⟩, ⟨(.var 8), .mov (.t 5), .none⟩, ⟨(.var 9), .mov (.t 7), .none⟩, ⟨(.var 10), .mov (.t 9), .none⟩, ⟨(.var 11), .mov (.t 11), .none⟩, ⟨(.var 12), .mov (.t 13), .none⟩, ⟨(.var 13), .mov (.t 15), .none⟩]) (.seq (.seq (.ops [⟨(.var 14), .mov (.c (.int .i64 0)), .none⟩]) (.block 2 (.loop (.seq (.seq (.ops [⟨.tmp, .mov (.v 14), .none⟩, ⟨(.var 20), .bin .lss .arith (.t 0) (.c (.int .i64 64)), .none⟩]) (.cond (.v 20) .skip (.exit 2))) (.seq (.block 3 (.seq (.ops [⟨.tmp, .mov (.v 13), .none⟩, ⟨.tmp, .mov (.v 10), .none⟩, ⟨.tmp, .pcall 106 [(.t 1), (.c (.int .i64 6))], .none⟩, ⟨.tmp, .mov (.v 10), .none⟩, ⟨.tmp, .pcall 106 [(.t 3), (.c (.int .i64 11))], .none⟩, ⟨.tmp, .bin .xor .arith (.t 2) (.t 4), .none⟩, ⟨.tmp, .mov (.v 10), .none⟩, ⟨.tmp, .pcall 106 [(.t 6), (.c (.int .i64 25))], .none⟩, ⟨.tmp, .bin .xor .arith (.t 5) (.t 7), .none⟩, ⟨.tmp, .bin .add .arith (.t 0) (.t 8), .none⟩, ⟨.tmp, .mov (.v 10), .none⟩, ⟨.tmp, .mov (.v 11), .none⟩, ⟨.tmp, .bin .and .arith (.t 10) (.t 11), .none⟩, ⟨.tmp, .mov (.v 10), .none⟩, ⟨.tmp, .bin .xor .arith (.t 13) (.c (.int .u32 4294967295)), .none⟩, ⟨.tmp, .mov (.v 12), .none⟩, ⟨.tmp, .bin .and .arith (.t 14) (.t 15), .none⟩, ⟨.tmp, .bin .xor .arith (.t 12) (.t 16), .none⟩, ⟨.tmp, .bin .add .arith (.t 9) (.t 17), .none⟩, ⟨.tmp, .mov (.v 14), .none⟩, ⟨.tmp, .aaddr 64 1 (.c (.rp shaK)) (.t 19), .none⟩, ⟨.tmp, .load 1 false (.t 20), .none⟩, ⟨.tmp, .bin .add .arith (.t 18) (.t 21), .none⟩, ⟨.tmp, .mov (.v 14), .none⟩, ⟨.tmp, .aaddr 64 1 (.v 5) (.t 23), .none⟩, ⟨.tmp, .load 1 false (.t 24), .none⟩, ⟨.tmp, .bin .add .arith (.t 22) (.t 25), .none⟩, ⟨(.var 15), .mov (.t 26), .none⟩]) (.seq (.ops [⟨.tmp, .mov (.v 6), .none⟩, ⟨.tmp, .pcall 106 [(.t 0), (.c (.int .i64 2))], .none⟩, ⟨.tmp, .mov (.v 6), .none⟩, ⟨.tmp, .pcall 106 [(.t 2), (.c (.int .i64 13))], .none⟩, ⟨.tmp, .bin .xor .arith (.t 1) (.t 3), .none⟩, ⟨.tmp, .mov (.v 6), .none⟩, ⟨.tmp, .pcall 106 [(.t 5), (.c (.int .i64 22))], .none⟩, ⟨.tmp, .bin .xor .arith (.t 4) (.t 6), .none⟩, ⟨.tmp, .mov (.v 6), .none⟩, ⟨.tmp, .mov (.v 7), .none⟩, ⟨.tmp, .bin .and .arith (.t 8) (.t 9), .none⟩, ⟨.tmp, .mov (.v 6), .none⟩, ⟨.tmp, .mov (.v 8), .none⟩, ⟨.tmp, .bin .and .arith (.t 11) (.t 12), .none⟩, ⟨.tmp, .bin .xor .arith (.t 10) (.t 13), .none⟩, ⟨.tmp, .mov (.v 7), .none⟩, ⟨.tmp, .mov (.v 8), .none⟩, ⟨.tmp, .bin .and .arith (.t 15) (.t 16), .none⟩, ⟨.tmp, .bin .xor .arith (.t 14) (.t 17), .none⟩, ⟨.tmp, .bin .add .arith (.t 7) (.t 18), .none⟩, ⟨(.var 16), .mov (.t 19), .none⟩]) (.seq (.ops [⟨.tmp, .mov (.v 12), .none⟩, ⟨(.var 13), .mov (.t 0), .none⟩]) (.seq (.ops [⟨.tmp, .mov (.v 11), .none⟩, ⟨(.var 12), .mov (.t 0), .none⟩]) (.seq (.ops [⟨.tmp, .mov (.v 10), .none⟩, ⟨(.var 11), .mov (.t 0), .none⟩]) (.seq (.ops [⟨.tmp, .mov (.v 9), .none⟩, ⟨.tmp, .mov (.v 15), .none⟩, ⟨.tmp, .bin .add .arith (.t 0) (.t 1), .none⟩, ⟨(.var 10), .mov (.t 2), .none⟩]) (.seq (.ops [⟨.tmp, .mov (.v 8), .none⟩, ⟨(.var 9), .mov (.t 0), .none⟩]) (.seq (.ops [⟨.tmp, .mov (.v 7), .none⟩, ⟨(.var 8), .mov (.t 0), .none⟩]) (.seq (.ops [⟨.tmp, .mov (.v 6), .none⟩, ⟨(.var 7), .mov (.t 0), .none⟩]) (.ops [⟨.tmp, .mov (.v 15), .none⟩, ⟨.tmp, .mov (.v 16), .none⟩, ⟨.tmp, .bin .add .arith (.t 0) (.t 1), .none⟩, ⟨(.var 6), .mov (.t 2), .none⟩]))))))))))) (.ops [⟨.tmp, .mov (.v 14), .none⟩, ⟨.tmp, .bin .add .arith (.t 0) (.c (.int .i64 1)), .none⟩, ⟨(.var 14), .mov (.t 1), .none⟩])))))) (.ops [⟨.tmp, .aaddr 8 1 (.v 2) (.c (.int .i64 0)), .none⟩, ⟨.tmp, .load 1 false (.t 0), .none⟩, ⟨.tmp, .mov (.v 6), .none⟩, ⟨.tmp, .bin .add .arith (.t 1) (.t 2), .none⟩, ⟨.tmp, .aaddr 8 1 (.v 2) (.c (.int .i64 1)), .none⟩, ⟨.tmp, .load 1 false (.t 4), .none⟩, ⟨.tmp, .mov (.v 7), .none⟩, ⟨.tmp, .bin .add .arith (.t 5) (.t 6), .none⟩, ⟨.tmp, .aaddr 8 1 (.v 2) (.c (.int .i64 2)), .none⟩, ⟨.tmp, .load 1 false (.t 8), .none⟩, ⟨.tmp, .mov (.v 8), .none⟩, ⟨.tmp, .bin .add .arith (.t 9) (.t 10), .none⟩, ⟨.tmp, .aaddr 8 1 (.v 2) (.c (.int .i64 3)), .none⟩, ⟨.tmp, .load 1 false (.t 12), .none⟩, ⟨.tmp, .mov (.v 9), .none⟩, ⟨.tmp, .bin .add .arith (.t 13) (.t 14), .none⟩, ⟨.tmp, .aaddr 8 1 (.v 2) (.c (.int .i64 4)), .none⟩, ⟨.tmp, .load 1 false (.t 16), .none⟩, ⟨.tmp, .mov (.v 10), .none⟩, ⟨.tmp, .bin .add .arith (.t 17) (.t 18), .none⟩, ⟨.tmp, .aaddr 8 1 (.v 2) (.c (.int .i64 5)), .none⟩, ⟨.tmp, .load 1 false (.t 20), .none⟩, ⟨.tmp, .mov (.v 11), .none⟩, ⟨.tmp, .bin .add .arith (.t 21) (.t 22), .none⟩, ⟨.tmp, .aaddr 8 1 (.v 2) (.c (.int .i64 6)), .none⟩, ⟨.tmp, .load 1 false (.t 24), .none⟩, ⟨.tmp, .mov (.v 12), .none⟩, ⟨.tmp, .bin .add .arith (.t 25) (.t 26), .none⟩, ⟨.tmp, .aaddr 8 1 (.v 2) (.c (.int .i64 7)), .none⟩, ⟨.tmp, .load 1 false (.t 28), .none⟩, ⟨.tmp, .mov (.v 13), .none⟩, ⟨.tmp, .bin .add .arith (.t 29) (.t 30), .none⟩, ⟨.tmp, .build [(.int .u32 0), (.int .u32 0), (.int .u32 0), (.int .u32 0), (.int .u32 0), (.int .u32 0), (.int .u32 0), (.int .u32 0)] [(0, 1, (.t 3)), (1, 1, (.t 7)), (2, 1, (.t 11)), (3, 1, (.t 15)), (4, 1, (.t 19)), (5, 1, (.t 23)), (6, 1, (.t 27)), (7, 1, (.t 31))], .none⟩, ⟨.no, .store 8 (.v 2) (.t 32), .none⟩]))))) (.ops [⟨.tmp, .mov (.v 4), .none⟩, ⟨.tmp, .bin .add .arith (.t 0) (.c (.int .i64 64)), .none⟩, ⟨(.var 4), .mov (.t 1), .none⟩])))))) (.seq (.ops [⟨(.var 17), .alloc 125 32 true (List.replicate 32 (.int .u8 0)), .none⟩]) (.seq (.seq (.ops [⟨(.var 18), .mov (.c (.int .i64 0)), .none⟩]) (.block 4 (.loop (.seq (.seq (.ops [⟨.tmp, .mov (.v 18), .none⟩, ⟨(.var 21), .bin .lss .arith (.t 0) (.c (.int .i64 32)), .none⟩]) (.cond (.v 21) .skip (.exit 4))) (.seq (.block 5 (.ops [⟨.tmp, .mov (.v 18), .none⟩, ⟨.tmp, .mov (.v 18), .none⟩, ⟨.tmp, .bin .quo .arith (.t 1) (.c (.int .i64 4)), .none⟩, ⟨.tmp, .aaddr 8 1 (.v 2) (.t 2), .none⟩, ⟨.tmp, .load 1 false (.t 3), .none⟩, ⟨.tmp, .mov (.v 18), .none⟩, ⟨.tmp, .bin .rem .arith (.t 5) (.c (.int .i64 4)), .none⟩, ⟨.tmp, .bin .mul .arith (.c (.int .i64 8)) (.t 6), .none⟩, ⟨.tmp, .bin .sub .arith (.c (.int .i64 24)) (.t 7), .none⟩, ⟨.tmp, .bin .shr .arith (.t 4) (.t 8), .none⟩, ⟨.tmp, .toInt .u8 (.t 9), .none⟩, ⟨.tmp, .aaddr 32 1 (.v 17) (.t 0), .none⟩, ⟨.no, .store 1 (.t 11) (.t 10), .none⟩])) (.ops [⟨.tmp, .mov (.v 18), .none⟩, ⟨.tmp, .bin .add .arith (.t 0) (.c (.int .i64 1)), .none⟩, ⟨(.var 18), .mov (.t 1), .none⟩])))))) (.seq (.ops [⟨.tmp, .load 32 true (.v 17), .none⟩, ⟨.no, .store 32 (.v 1) (.t 0), .none⟩]) .ret))))))), [.c 1 32 true], []⟩
def c103 : AFunc := ⟨[0, 1, 3, 8, 18], (.seq (.ops [⟨.tmp, .load 1 false (.v 1), .none⟩, ⟨.tmp, .len (.t 0), .none⟩, ⟨.tmp, .bin .sub .arith (.t 1) (.c (.int .i64 1)), .none⟩, ⟨(.var 2), .mov (.t 2), .none⟩]) (.block 0 (.loop (.seq (.seq (.ops [⟨.tmp, .mov (.v 2), .none⟩, ⟨(.var 3), .bin .geq .arith (.t 0) (.c (.int .i64 0)), .none⟩]) (.cond (.v 3) .skip (.exit 0))) (.seq (.block 1 (.seq (.ops [⟨.tmp, .mov (.v 0), .none⟩, ⟨.tmp, .mov (.v 2), .none⟩, ⟨.tmp, .load 1 false (.v 1), .none⟩, ⟨.tmp, .mov (.v 2), .none⟩, ⟨.tmp, .iaddr 1 (.t 2) (.t 3), .none⟩, ⟨.tmp, .load 1 false (.t 4), .none⟩, ⟨.tmp, .call (.t 0) [(.t 1), (.t 5)], .none⟩, ⟨(.var 4), .un .not (.t 6), .none⟩]) (.cond (.v 4) .ret .skip))) (.ops [⟨.tmp, .mov (.v 2), .none⟩, ⟨.tmp, .bin .sub .arith (.t 0) (.c (.int .i64 1)), .none⟩, ⟨(.var 2), .mov (.t 1), .none⟩])))))), [], []⟩
def c104 : AFunc := ⟨[0, 2, 3, 4, 5, 15, 24], (.seq (.ops [⟨(.var 1), .mov (.c (.sl [] .nil)), .none⟩]) (.seq (.ops [⟨.tmp, .x .elit [], .none⟩, ⟨.tmp, .mov (.v 0), .none⟩, ⟨.tmp, .append false 5 1 1 false (.t 0) (.t 1), .none⟩, ⟨(.var 2), .mov (.t 2), .none⟩]) (.seq (.ops [⟨.tmp, .mov (.v 2), .none⟩, ⟨.tmp, .lit 0 5 1 1 false [(.int .u8 0)] [(0, (.c (.int .u8 128)))], .none⟩, ⟨.tmp, .append false 5 1 1 false (.t 0) (.t 1), .none⟩, ⟨(.var 2), .mov (.t 2), .none⟩]) (.seq (.block 0 (.loop (.seq (.seq (.ops [⟨.tmp, .mov (.v 2), .none⟩, ⟨.tmp, .len (.t 0), .none⟩, ⟨.tmp, .bin .rem .arith (.t 1) (.c (.int .i64 64)), .none⟩, ⟨(.var 5), .bin .neq .arith (.t 2) (.c (.int .i64 56)), .none⟩]) (.cond (.v 5) .skip (.exit 0))) (.block 1 (.ops [⟨.tmp, .mov (.v 2), .none⟩, ⟨.tmp, .lit 0 5 1 1 false [(.int .u8 0)] [(0, (.c (.int .u8 0)))], .none⟩, ⟨.tmp, .append false 5 1 1 false (.t 0) (.t 1), .none⟩, ⟨(.var 2), .mov (.t 2), .none⟩]))))) (.seq (.ops [⟨.tmp, .mov (.v 0), .none⟩, ⟨.tmp, .len (.t 0), .none⟩, ⟨.tmp, .toInt .u64 (.t 1), .none⟩, ⟨.tmp, .bin .mul .arith (.c (.int .u64 8)) (.t 2), .none⟩, ⟨(.var 3), .mov (.t 3), .none⟩]) (.seq (.seq (.ops [⟨(.var 4), .mov (.c (.int .i64 0)), .none⟩]) (.block 2 (.loop (.seq (.seq (.ops [⟨.tmp, .mov (.v 4), .none⟩, ⟨(.var 6), .bin .lss .arith (.t 0) (.c (.int .i64 8)), .none⟩]) (.cond (.v 6) .skip (.exit 2))) (.seq (.block 3 (.ops [⟨.tmp, .mov (.v 2), .none⟩, ⟨.tmp, .mov (.v 3), .none⟩, ⟨.tmp, .mov (.v 4), .none⟩, ⟨.tmp, .bin .mul .arith (.c (.int .i64 8)) (.t 2), .none⟩, ⟨.tmp, .bin .sub .arith (.c (.int .i64 56)) (.t 3), .none⟩, ⟨.tmp, .bin .shr .arith (.t 1) (.t 4), .none⟩, ⟨.tmp, .toInt .u8 (.t 5), .none⟩, ⟨.tmp, .lit 0 5 1 1 false [(.int .u8 0)] [(0, (.t 6))], .none⟩, ⟨.tmp, .append false 5 1 1 false (.t 0) (.t 7), .none⟩, ⟨(.var 2), .mov (.t 8), .none⟩])) (.ops [⟨.tmp, .mov (.v 4), .none⟩, ⟨.tmp, .bin .add .arith (.t 0) (.c (.int .i64 1)), .none⟩, ⟨(.var 4), .mov (.t 1), .none⟩])))))) (.seq (.ops [⟨.tmp, .mov (.v 2), .none⟩, ⟨(.var 1), .mov (.t 0), .none⟩]) .ret))))))), [.v 1], []⟩
def c105 : AFunc := ⟨[0, 2, 3, 4, 5, 6, 7, 9, 48], (.seq (.ops [⟨(.var 1), .alloc 161 64 true (List.replicate 64 (.int .u32 0)), .none⟩]) (.seq (.ops [⟨(.var 2), .alloc 161 64 true (List.replicate 64 (.int .u32 0)), .none⟩]) (.seq (.seq (.ops [⟨(.var 3), .mov (.c (.int .i64 0)), .none⟩]) (.block 0 (.loop (.seq (.seq (.ops [⟨.tmp, .mov (.v 3), .none⟩, ⟨(.var 7), .bin .lss .arith (.t 0) (.c (.int .i64 16)), .none⟩]) (.cond (.v 7) .skip (.exit 0))) (.seq (.block 1 (.ops [⟨.tmp, .mov (.v 3), .none⟩, ⟨.tmp, .mov (.v 0), .none⟩, ⟨.tmp, .mov (.v 3), .none⟩, ⟨.tmp, .bin .mul .arith (.c (.int .i64 4)) (.t 2), .none⟩, ⟨.tmp, .iaddr 1 (.t 1) (.t 3), .none⟩, ⟨.tmp, .load 1 false (.t 4), .none⟩, ⟨.tmp, .toInt .u32 (.t 5), .none⟩, ⟨.tmp, .bin .shl .arith (.t 6) (.c (.int .u64 24)), .none⟩, ⟨.tmp, .mov (.v 0), .none⟩, ⟨.tmp, .mov (.v 3), .none⟩, ⟨.tmp, .bin .mul .arith (.c (.int .i64 4)) (.t 9), .none⟩, ⟨.tmp, .bin .add .arith (.t 10) (.c (.int .i64 1)), .none⟩, ⟨.tmp, .iaddr 1 (.t 8) (.t 11), .none⟩, ⟨.tmp, .load 1 false (.t 12), .none⟩, ⟨.tmp, .toInt .u32 (.t 13), .none⟩, ⟨.tmp, .bin .shl .arith (.t 14) (.c (.int .u64 16)), .none⟩, ⟨.tmp, .bin .or .arith (.t 7) (.t 15), .none⟩, ⟨.tmp, .mov (.v 0), .none⟩, ⟨.tmp, .mov (.v 3), .none⟩, ⟨.tmp, .bin .mul .arith (.c (.int .i64 4)) (.t 18), .none⟩, ⟨.tmp, .bin .add .arith (.t 19) (.c (.int .i64 2)), .none⟩, ⟨.tmp, .iaddr 1 (.t 17) (.t 20), .none⟩, ⟨.tmp, .load 1 false (.t 21), .none⟩, ⟨.tmp, .toInt .u32 (.t 22), .none⟩, ⟨.tmp, .bin .shl .arith (.t 23) (.c (.int .u64 8)), .none⟩, ⟨.tmp, .bin .or .arith (.t 16) (.t 24), .none⟩, ⟨.tmp, .mov (.v 0), .none⟩, ⟨.tmp, .mov (.v 3), .none⟩, ⟨.tmp, .bin .mul .arith (.c (.int .i64 4)) (.t 27), .none⟩, ⟨.tmp, .bin .add .arith (.t 28) (.c (.int .i64 3)), .none⟩, ⟨.tmp, .iaddr 1 (.t 26) (.t 29), .none⟩, ⟨.tmp, .load 1 false (.t 30), .none⟩, ⟨.tmp, .toInt .u32 (.t 31), .none⟩, ⟨.tmp, .bin .or .arith (.t 25) (.t 32), .none⟩, ⟨.tmp, .aaddr 64 1 (.v 2) (.t 0), .none⟩, ⟨.no, .store 1 (.t 34) (.t 33), .none⟩])) (.ops [⟨.tmp, .mov (.v 3), .none⟩, ⟨.tmp, .bin .add .arith (.t 0) (.c (.int .i64 1)), .none⟩, ⟨(.var 3), .mov (.t 1), .none⟩])))))) (.seq (.seq (.ops [⟨(.var 4), .mov (.c (.int .i64 16)), .none⟩]) (.block 2 (.loop (.seq (.seq (.ops [⟨.tmp, .mov (.v 4), .none⟩, ⟨(.var 8), .bin .lss .arith (.t 0) (.c (.int .i64 64)), .none⟩]) (.cond (.v 8) .skip (.exit 2))) (.seq (.block 3 (.seq (.ops [⟨.tmp, .mov (.v 4), .none⟩, ⟨.tmp, .bin .sub .arith (.t 0) (.c (.int .i64 15)), .none⟩, ⟨.tmp, .aaddr 64 1 (.v 2) (.t 1), .none⟩, ⟨.tmp, .load 1 false (.t 2), .none⟩, ⟨.tmp, .pcall 106 [(.t 3), (.c (.int .i64 7))], .none⟩, ⟨.tmp, .mov (.v 4), .none⟩, ⟨.tmp, .bin .sub .arith (.t 5) (.c (.int .i64 15)), .none⟩, ⟨.tmp, .aaddr 64 1 (.v 2) (.t 6), .none⟩, ⟨.tmp, .load 1 false (.t 7), .none⟩, ⟨.tmp, .pcall 106 [(.t 8), (.c (.int .i64 18))], .none⟩, ⟨.tmp, .bin .xor .arith (.t 4) (.t 9), .none⟩, ⟨.tmp, .mov (.v 4), .none⟩, ⟨.tmp, .bin .sub .arith (.t 11) (.c (.int .i64 15)), .none⟩, ⟨.tmp, .aaddr 64 1 (.v 2) (.t 12), .none⟩, ⟨.tmp, .load 1 false (.t 13), .none⟩, ⟨.tmp, .bin .shr .arith (.t 14) (.c (.int .u64 3)), .none⟩, ⟨.tmp, .bin .xor .arith (.t 10) (.t 15), .none⟩, ⟨(.var 5), .mov (.t 16), .none⟩]) (.seq (.ops [⟨.tmp, .mov (.v 4), .none⟩, ⟨.tmp, .bin .sub .arith (.t 0) (.c (.int .i64 2)), .none⟩, ⟨.tmp, .aaddr 64 1 (.v 2) (.t 1), .none⟩, ⟨.tmp, .load 1 false (.t 2), .none⟩, ⟨.tmp, .pcall 106 [(.t 3), (.c (.int .i64 17))], .none⟩, ⟨.tmp, .mov (.v 4), .none⟩, ⟨.tmp, .bin .sub .arith (.t 5) (.c (.int .i64 2)), .none⟩, ⟨.tmp, .aaddr 64 1 (.v 2) (.t 6), .none⟩, ⟨.tmp, .load 1 false (.t 7), .none⟩, ⟨.tmp, .pcall 106 [(.t 8), (.c (.int .i64 19))], .none⟩, ⟨.tmp, .bin .xor .arith (.t 4) (.t 9), .none⟩, ⟨.tmp, .mov (.v 4), .none⟩, ⟨.tmp, .bin .sub .arith (.t 11) (.c (.int .i64 2)), .none⟩, ⟨.tmp, .aaddr 64 1 (.v 2) (.t 12), .none⟩, ⟨.tmp, .load 1 false (.t 13), .none⟩, ⟨.tmp, .bin .shr .arith (.t 14) (.c (.int .u64 10)), .none⟩, ⟨.tmp, .bin .xor .arith (.t 10) (.t 15), .none⟩, ⟨(.var 6), .mov (.t 16), .none⟩]) (.ops [⟨.tmp, .mov (.v 4), .none⟩, ⟨.tmp, .mov (.v 4), .none⟩, ⟨.tmp, .bin .sub .arith (.t 1) (.c (.int .i64 16)), .none⟩, ⟨.tmp, .aaddr 64 1 (.v 2) (.t 2), .none⟩, ⟨.tmp, .load 1 false (.t 3), .none⟩, ⟨.tmp, .mov (.v 5), .none⟩, ⟨.tmp, .bin .add .arith (.t 4) (.t 5), .none⟩, ⟨.tmp, .mov (.v 4), .none⟩, ⟨.tmp, .bin .sub .arith (.t 7) (.c (.int .i64 7)), .none⟩, ⟨.tmp, .aaddr 64 1 (.v 2) (.t 8), .none⟩, ⟨.tmp, .load 1 false (.t 9), .none⟩, ⟨.tmp, .bin .add .arith (.t 6) (.t 10), .none⟩, ⟨.tmp, .mov (.v 6), .none⟩, ⟨.tmp, .bin .add .arith (.t 11) (.t 12), .none⟩, ⟨.tmp, .aaddr 64 1 (.v 2) (.t 0), .none⟩, ⟨.no, .store 1 (.t 14) (.t 13), .none⟩])))) (.ops [⟨.tmp, .mov (.v 4), .none⟩, ⟨.tmp, .bin .add .arith (.t 0) (.c (.int .i64 1)), .none⟩, ⟨(.var 4), .mov (.t 1), .none⟩])))))) (.seq (.ops [⟨.tmp, .load 64 true (.v 2), .none⟩, ⟨.no, .store 64 (.v 1) (.t 0), .none⟩]) .ret))))), [.c 1 64 true], []⟩
def c106 : AFunc := ⟨[0, 1, 4], (.seq (.ops [⟨(.var 2), .mov (.c (.int .u32 0)), .none⟩]) (.seq (.ops [⟨.tmp, .mov (.v 0), .none⟩, ⟨.tmp, .mov (.v 1), .none⟩, ⟨.tmp, .bin .shr .arith (.t 0) (.t 1), .none⟩, ⟨.tmp, .mov (.v 0), .none⟩, ⟨.tmp, .mov (.v 1), .none⟩, ⟨.tmp, .bin .sub .arith (.c (.int .i64 32)) (.t 4), .none⟩, ⟨.tmp, .bin .shl .arith (.t 3) (.t 5), .none⟩, ⟨.tmp, .bin .or .arith (.t 2) (.t 6), .none⟩, ⟨(.var 2), .mov (.t 7), .none⟩]) .ret)), [.v 2], []⟩
def c110 : AFunc := ⟨[0, 2, 3, 4, 6, 7, 8, 9, 10, 11, 12, 15, 22, 23, 24, 25], (.seq (.ops [⟨(.var 1), .alloc 161 64 true (List.replicate 64 (.int .u32 0)), .none⟩]) (.seq (.ops [⟨(.var 2), .alloc 161 64 true (List.replicate 64 (.int .u32 0)), .none⟩]) (.seq (.seq (.ops [⟨(.var 9), .mov (.c (.int .i64 0)), .none⟩]) (.block 0 (.loop (.seq (.ops [⟨(.var 10), .bin .lss .arith (.v 9) (.c (.int .i64 64)), .none⟩]) (.seq (.cond (.v 10) .skip (.exit 0)) (.seq (.block 1 (.seq (.ops [⟨.tmp, .mov (.v 9), .none⟩, ⟨(.var 3), .mov (.t 0), .none⟩]) (.seq (.seq (.ops [⟨.tmp, .mov (.v 3), .none⟩, ⟨(.var 11), .bin .lss .arith (.t 0) (.c (.int .i64 16)), .none⟩]) (.cond (.v 11) (.seq (.seq (.ops [⟨.tmp, .mov (.v 0), .none⟩, ⟨.tmp, .mov (.v 3), .none⟩, ⟨.tmp, .bin .mul .arith (.c (.int .i64 4)) (.t 1), .none⟩, ⟨.tmp, .mov (.v 3), .none⟩, ⟨.tmp, .bin .mul .arith (.c (.int .i64 4)) (.t 3), .none⟩, ⟨.tmp, .bin .add .arith (.t 4) (.c (.int .i64 4)), .none⟩, ⟨(.var 12), .slice 1 (.t 0) (some (.t 2)) (some (.t 5)), .none⟩, ⟨(.var 13), .len (.v 12), .none⟩, ⟨(.var 14), .mov (.c (.int .i64 0)), .none⟩]) (.block 2 (.loop (.seq (.ops [⟨(.var 15), .bin .lss .arith (.v 14) (.v 13), .none⟩]) (.seq (.cond (.v 15) .skip (.exit 2)) (.seq (.block 3 (.seq (.ops [⟨.tmp, .iaddr 1 (.v 12) (.v 14), .none⟩, ⟨.tmp, .load 1 false (.t 0), .none⟩, ⟨(.var 4), .mov (.t 1), .none⟩]) (.ops [⟨.tmp, .mov (.v 3), .none⟩, ⟨.tmp, .mov (.v 3), .none⟩, ⟨.tmp, .aaddr 64 1 (.v 2) (.t 1), .none⟩, ⟨.tmp, .load 1 false (.t 2), .none⟩, ⟨.tmp, .bin .shl .arith (.t 3) (.c (.int .u64 8)), .none⟩, ⟨.tmp, .mov (.v 4), .none⟩, ⟨.tmp, .toInt .u32 (.t 5), .none⟩, ⟨.tmp, .bin .or .arith (.t 4) (.t 6), .none⟩, ⟨.tmp, .aaddr 64 1 (.v 2) (.t 0), .none⟩, ⟨.no, .store 1 (.t 8) (.t 7), .none⟩]))) (.ops [⟨.tmp, .bin .add .arith (.v 14) (.c (.int .i64 1)), .none⟩, ⟨(.var 14), .mov (.t 0), .none⟩]))))))) (.exit 1)) .skip)) (.seq (.ops [⟨.tmp, .mov (.v 3), .none⟩, ⟨.tmp, .bin .sub .arith (.t 0) (.c (.int .i64 15)), .none⟩, ⟨.tmp, .aaddr 64 1 (.v 2) (.t 1), .none⟩, ⟨.tmp, .load 1 false (.t 2), .none⟩, ⟨.tmp, .mov (.v 3), .none⟩, ⟨.tmp, .bin .sub .arith (.t 4) (.c (.int .i64 2)), .none⟩, ⟨.tmp, .aaddr 64 1 (.v 2) (.t 5), .none⟩, ⟨.tmp, .load 1 false (.t 6), .none⟩, ⟨(.var 5), .mov (.t 3), .none⟩, ⟨(.var 6), .mov (.t 7), .none⟩]) (.seq (.ops [⟨.tmp, .mov (.v 5), .none⟩, ⟨.tmp, .pcall 123 [(.t 0), (.c (.int .i64 (-7)))], .none⟩, ⟨.tmp, .mov (.v 5), .none⟩, ⟨.tmp, .pcall 123 [(.t 2), (.c (.int .i64 (-18)))], .none⟩, ⟨.tmp, .bin .xor .arith (.t 1) (.t 3), .none⟩, ⟨.tmp, .mov (.v 5), .none⟩, ⟨.tmp, .bin .shr .arith (.t 5) (.c (.int .u64 3)), .none⟩, ⟨.tmp, .bin .xor .arith (.t 4) (.t 6), .none⟩, ⟨(.var 7), .mov (.t 7), .none⟩]) (.seq (.ops [⟨.tmp, .mov (.v 6), .none⟩, ⟨.tmp, .pcall 123 [(.t 0), (.c (.int .i64 (-17)))], .none⟩, ⟨.tmp, .mov (.v 6), .none⟩, ⟨.tmp, .pcall 123 [(.t 2), (.c (.int .i64 (-19)))], .none⟩, ⟨.tmp, .bin .xor .arith (.t 1) (.t 3), .none⟩, ⟨.tmp, .mov (.v 6), .none⟩, ⟨.tmp, .bin .shr .arith (.t 5) (.c (.int .u64 10)), .none⟩, ⟨.tmp, .bin .xor .arith (.t 4) (.t 6), .none⟩, ⟨(.var 8), .mov (.t 7), .none⟩]) (.ops [⟨.tmp, .mov (.v 3), .none⟩, ⟨.tmp, .mov (.v 3), .none⟩, ⟨.tmp, .bin .sub .arith (.t 1) (.c (.int .i64 16)), .none⟩, ⟨.tmp, .aaddr 64 1 (.v 2) (.t 2), .none⟩, ⟨.tmp, .load 1 false (.t 3), .none⟩, ⟨.tmp, .mov (.v 7), .none⟩, ⟨.tmp, .bin .add .arith (.t 4) (.t 5), .none⟩, ⟨.tmp, .mov (.v 3), .none⟩, ⟨.tmp, .bin .sub .arith (.t 7) (.c (.int .i64 7)), .none⟩, ⟨.tmp, .aaddr 64 1 (.v 2) (.t 8), .none⟩, ⟨.tmp, .load 1 false (.t 9), .none⟩, ⟨.tmp, .bin .add .arith (.t 6) (.t 10), .none⟩, ⟨.tmp, .mov (.v 8), .none⟩, ⟨.tmp, .bin .add .arith (.t 11) (.t 12), .none⟩, ⟨.tmp, .aaddr 64 1 (.v 2) (.t 0), .none⟩, ⟨.no, .store 1 (.t 14) (.t 13), .none⟩]))))))) (.ops [⟨.tmp, .bin .add .arith (.v 9) (.c (.int .i64 1)), .none⟩, ⟨(.var 9), .mov (.t 0), .none⟩]))))))) (.seq (.ops [⟨.tmp, .load 64 true (.v 2), .none⟩, ⟨.no, .store 64 (.v 1) (.t 0), .none⟩]) .ret)))), [.c 1 64 true], []⟩
def c111 : AFunc := ⟨[0, 1, 2, 3, 8], (.seq (.ops [⟨(.var 4), .mov (.c (.int .u32 0)), .none⟩]) (.seq (.ops [⟨.tmp, .mov (.v 0), .none⟩, ⟨.tmp, .mov (.v 1), .none⟩, ⟨.tmp, .un .neg (.t 1), .none⟩, ⟨.tmp, .pcall 123 [(.t 0), (.t 2)], .none⟩, ⟨.tmp, .mov (.v 0), .none⟩, ⟨.tmp, .mov (.v 2), .none⟩, ⟨.tmp, .un .neg (.t 5), .none⟩, ⟨.tmp, .pcall 123 [(.t 4), (.t 6)], .none⟩, ⟨.tmp, .bin .xor .arith (.t 3) (.t 7), .none⟩, ⟨.tmp, .mov (.v 0), .none⟩, ⟨.tmp, .mov (.v 3), .none⟩, ⟨.tmp, .un .neg (.t 10), .none⟩, ⟨.tmp, .pcall 123 [(.t 9), (.t 11)], .none⟩, ⟨.tmp, .bin .xor .arith (.t 8) (.t 12), .none⟩, ⟨(.var 4), .mov (.t 13), .none⟩]) .ret)), [.v 4], []⟩
def c123 : AFunc := ⟨[0, 1, 4, 5], (.seq (.ops [⟨(.var 2), .mov (.c (.int .u32 0)), .none⟩]) (.seq (.ops [⟨.tmp, .mov (.v 1), .none⟩, ⟨.tmp, .toInt .u64 (.t 0), .none⟩, ⟨.tmp, .bin .and .arith (.t 1) (.c (.int .u64 31)), .none⟩, ⟨(.var 3), .mov (.t 2), .none⟩]) (.seq (.ops [⟨.tmp, .mov (.v 0), .none⟩, ⟨.tmp, .mov (.v 3), .none⟩, ⟨.tmp, .bin .shl .arith (.t 0) (.t 1), .none⟩, ⟨.tmp, .mov (.v 0), .none⟩, ⟨.tmp, .mov (.v 3), .none⟩, ⟨.tmp, .bin .sub .arith (.c (.int .u64 32)) (.t 4), .none⟩, ⟨.tmp, .bin .shr .arith (.t 3) (.t 5), .none⟩, ⟨.tmp, .bin .or .arith (.t 2) (.t 6), .none⟩, ⟨(.var 2), .mov (.t 7), .none⟩]) .ret))), [.v 2], []⟩
def c102_0 : ACode :=
 (.ops [⟨(.var 2), .box 8 true (.v 0), .none⟩,
   ⟨(.var 3), .alloc 146 8 true [(.int .u32 0), (.int .u32 0), (.int .u32 0), (.int .u32 0), (.int .u32 0), (.int .u32 0), (.int .u32 0), (.int .u32 0)], .none⟩])
def c102_1 : ACode :=
 (.ops [⟨.tmp, .mov (.v 1), .none⟩,
   ⟨.tmp, .pcall 110 [(.t 0)], .none⟩,
   ⟨(.var 4), .alloc 161 64 true (List.replicate 64 (.int .u32 0)), .none⟩,
   ⟨.no, .store 64 (.v 4) (.t 1), .none⟩])
def c102_3 : ACode :=
 (.seq (.ops [⟨(.var 12), .load 64 true (.c (.rp shaK)), .none⟩,
   ⟨(.var 13), .mov (.c (.int .i64 0)), .none⟩])
 (.block 0 (.loop (.seq (.ops [⟨(.var 14), .bin .lss .arith (.v 13) (.c (.int .i64 64)), .none⟩])
   (.seq (.cond (.v 14)
    .skip
    (.exit 0))
   (.seq (.block 1 (.seq (.ops [⟨.tmp, .mov (.v 13), .none⟩,
      ⟨.tmp, .aidx 64 1 false (.v 12) (.v 13), .none⟩,
      ⟨(.var 7), .mov (.t 0), .none⟩,
      ⟨(.var 8), .mov (.t 1), .none⟩])
    (.seq (.ops [⟨.tmp, .aaddr 4 1 (.v 6) (.c (.int .i64 3)), .none⟩,
      ⟨.tmp, .load 1 false (.t 0), .none⟩,
      ⟨.tmp, .aaddr 4 1 (.v 6) (.c (.int .i64 0)), .none⟩,
      ⟨.tmp, .load 1 false (.t 2), .none⟩,
      ⟨.tmp, .pcall 111 [(.t 3), (.c (.int .i64 6)), (.c (.int .i64 11)), (.c (.int .i64 25))], .none⟩,
      ⟨.tmp, .bin .add .arith (.t 1) (.t 4), .none⟩,
      ⟨.tmp, .aaddr 4 1 (.v 6) (.c (.int .i64 0)), .none⟩,
      ⟨.tmp, .load 1 false (.t 6), .none⟩,
      ⟨.tmp, .aaddr 4 1 (.v 6) (.c (.int .i64 1)), .none⟩,
      ⟨.tmp, .load 1 false (.t 8), .none⟩,
      ⟨.tmp, .bin .and .arith (.t 7) (.t 9), .none⟩,
      ⟨.tmp, .aaddr 4 1 (.v 6) (.c (.int .i64 0)), .none⟩,
      ⟨.tmp, .load 1 false (.t 11), .none⟩,
      ⟨.tmp, .un .xor (.t 12), .none⟩,
      ⟨.tmp, .aaddr 4 1 (.v 6) (.c (.int .i64 2)), .none⟩,
      ⟨.tmp, .load 1 false (.t 14), .none⟩,
      ⟨.tmp, .bin .and .arith (.t 13) (.t 15), .none⟩,
      ⟨.tmp, .bin .xor .arith (.t 10) (.t 16), .none⟩,
      ⟨.tmp, .bin .add .arith (.t 5) (.t 17), .none⟩,
      ⟨.tmp, .mov (.v 8), .none⟩,
      ⟨.tmp, .bin .add .arith (.t 18) (.t 19), .none⟩,
      ⟨.tmp, .mov (.v 7), .none⟩,
      ⟨.tmp, .aaddr 64 1 (.v 4) (.t 21), .none⟩,
      ⟨.tmp, .load 1 false (.t 22), .none⟩,
      ⟨.tmp, .bin .add .arith (.t 20) (.t 23), .none⟩,
      ⟨(.var 9), .mov (.t 24), .none⟩])
    (.seq (.ops [⟨.tmp, .aaddr 4 1 (.v 5) (.c (.int .i64 0)), .none⟩,
      ⟨.tmp, .load 1 false (.t 0), .none⟩,
      ⟨.tmp, .pcall 111 [(.t 1), (.c (.int .i64 2)), (.c (.int .i64 13)), (.c (.int .i64 22))], .none⟩,
      ⟨.tmp, .aaddr 4 1 (.v 5) (.c (.int .i64 0)), .none⟩,
      ⟨.tmp, .load 1 false (.t 3), .none⟩,
      ⟨.tmp, .aaddr 4 1 (.v 5) (.c (.int .i64 1)), .none⟩,
      ⟨.tmp, .load 1 false (.t 5), .none⟩,
      ⟨.tmp, .bin .and .arith (.t 4) (.t 6), .none⟩,
      ⟨.tmp, .aaddr 4 1 (.v 5) (.c (.int .i64 0)), .none⟩,
      ⟨.tmp, .load 1 false (.t 8), .none⟩,
      ⟨.tmp, .aaddr 4 1 (.v 5) (.c (.int .i64 2)), .none⟩,
      ⟨.tmp, .load 1 false (.t 10), .none⟩,
      ⟨.tmp, .bin .and .arith (.t 9) (.t 11), .none⟩,
      ⟨.tmp, .bin .xor .arith (.t 7) (.t 12), .none⟩,
      ⟨.tmp, .aaddr 4 1 (.v 5) (.c (.int .i64 1)), .none⟩,
      ⟨.tmp, .load 1 false (.t 14), .none⟩,
      ⟨.tmp, .aaddr 4 1 (.v 5) (.c (.int .i64 2)), .none⟩,
      ⟨.tmp, .load 1 false (.t 16), .none⟩,
      ⟨.tmp, .bin .and .arith (.t 15) (.t 17), .none⟩,
      ⟨.tmp, .bin .xor .arith (.t 13) (.t 18), .none⟩,
      ⟨.tmp, .bin .add .arith (.t 2) (.t 19), .none⟩,
      ⟨(.var 10), .mov (.t 20), .none⟩])
    (.seq (.ops [⟨.tmp, .aaddr 4 1 (.v 5) (.c (.int .i64 3)), .none⟩,
      ⟨.tmp, .load 1 false (.t 0), .none⟩,
      ⟨.tmp, .mov (.v 9), .none⟩,
      ⟨.tmp, .bin .add .arith (.t 1) (.t 2), .none⟩,
      ⟨.tmp, .aaddr 4 1 (.v 6) (.c (.int .i64 0)), .none⟩,
      ⟨.tmp, .load 1 false (.t 4), .none⟩,
      ⟨.tmp, .aaddr 4 1 (.v 6) (.c (.int .i64 1)), .none⟩,
      ⟨.tmp, .load 1 false (.t 6), .none⟩,
      ⟨.tmp, .aaddr 4 1 (.v 6) (.c (.int .i64 2)), .none⟩,
      ⟨.tmp, .load 1 false (.t 8), .none⟩,
      ⟨.tmp, .build [(.int .u32 0), (.int .u32 0), (.int .u32 0), (.int .u32 0)] [(0, 1, (.t 3)), (1, 1, (.t 5)), (2, 1, (.t 7)), (3, 1, (.t 9))], .none⟩,
      ⟨.no, .store 4 (.v 6) (.t 10), .none⟩])
    (.ops [⟨.tmp, .mov (.v 9), .none⟩,
      ⟨.tmp, .mov (.v 10), .none⟩,
      ⟨.tmp, .bin .add .arith (.t 0) (.t 1), .none⟩,
      ⟨.tmp, .aaddr 4 1 (.v 5) (.c (.int .i64 0)), .none⟩,
      ⟨.tmp, .load 1 false (.t 3), .none⟩,
      ⟨.tmp, .aaddr 4 1 (.v 5) (.c (.int .i64 1)), .none⟩,
      ⟨.tmp, .load 1 false (.t 5), .none⟩,
      ⟨.tmp, .aaddr 4 1 (.v 5) (.c (.int .i64 2)), .none⟩,
      ⟨.tmp, .load 1 false (.t 7), .none⟩,
      ⟨.tmp, .build [(.int .u32 0), (.int .u32 0), (.int .u32 0), (.int .u32 0)] [(0, 1, (.t 2)), (1, 1, (.t 4)), (2, 1, (.t 6)), (3, 1, (.t 8))], .none⟩,
      ⟨.no, .store 4 (.v 5) (.t 9), .none⟩]))))))
   (.ops [⟨.tmp, .bin .add .arith (.v 13) (.c (.int .i64 1)), .none⟩,
     ⟨(.var 13), .mov (.t 0), .none⟩])))))))
def c102_4 : ACode :=
 (.seq (.seq (.ops [⟨(.var 15), .mov (.c (.int .i64 0)), .none⟩])
 (.block 2 (.loop (.seq (.ops [⟨(.var 16), .bin .lss .arith (.v 15) (.c (.int .i64 4)), .none⟩])
   (.seq (.cond (.v 16)
    .skip
    (.exit 2))
   (.seq (.block 3 (.seq (.ops [⟨.tmp, .mov (.v 15), .none⟩,
      ⟨(.var 11), .mov (.t 0), .none⟩])
    (.seq (.ops [⟨.tmp, .mov (.v 11), .none⟩,
      ⟨.tmp, .aaddr 8 1 (.v 2) (.t 0), .none⟩,
      ⟨.tmp, .load 1 false (.t 1), .none⟩,
      ⟨.tmp, .mov (.v 11), .none⟩,
      ⟨.tmp, .aaddr 4 1 (.v 5) (.t 3), .none⟩,
      ⟨.tmp, .load 1 false (.t 4), .none⟩,
      ⟨.tmp, .bin .add .arith (.t 2) (.t 5), .none⟩,
      ⟨.tmp, .aaddr 8 1 (.v 2) (.t 0), .none⟩,
      ⟨.no, .store 1 (.t 7) (.t 6), .none⟩])
    (.ops [⟨.tmp, .mov (.v 11), .none⟩,
      ⟨.tmp, .bin .add .arith (.t 0) (.c (.int .i64 4)), .none⟩,
      ⟨.tmp, .aaddr 8 1 (.v 2) (.t 1), .none⟩,
      ⟨.tmp, .load 1 false (.t 2), .none⟩,
      ⟨.tmp, .mov (.v 11), .none⟩,
      ⟨.tmp, .aaddr 4 1 (.v 6) (.t 4), .none⟩,
      ⟨.tmp, .load 1 false (.t 5), .none⟩,
      ⟨.tmp, .bin .add .arith (.t 3) (.t 6), .none⟩,
      ⟨.tmp, .aaddr 8 1 (.v 2) (.t 1), .none⟩,
      ⟨.no, .store 1 (.t 8) (.t 7), .none⟩]))))
   (.ops [⟨.tmp, .bin .add .arith (.v 15) (.c (.int .i64 1)), .none⟩,
     ⟨(.var 15), .mov (.t 0), .none⟩])))))))
 (.seq (.ops [⟨.tmp, .load 8 true (.v 2), .none⟩,
   ⟨.no, .store 8 (.v 3) (.t 0), .none⟩])
 .ret))
def c102_nt : Nat := 116
def c102_slots : List Nat := [0, 1, 2, 4, 5, 6, 7, 8, 9, 10, 11, 12, 21, 22, 23, 94, 95]
def c102_res : List ResV := [.c 3 8 true]
def c102_r2 : List AOper := [⟨.tmp, .x (.aslice 8 1 false false true) [(.v 2), (.c (.int .i64 4))], .none⟩,
 ⟨.tmp, .x (.s2ap 4 1) [(.t 0)], .none⟩,
 ⟨.tmp, .load 4 true (.t 1), .none⟩,
 ⟨.tmp, .x (.aslice 8 1 false true false) [(.v 2), (.c (.int .i64 4))], .none⟩,
 ⟨.tmp, .x (.s2ap 4 1) [(.t 3)], .none⟩,
 ⟨.tmp, .load 4 true (.t 4), .none⟩,
 ⟨(.var 5), .alloc 167 4 true [(.int .u32 0), (.int .u32 0), (.int .u32 0), (.int .u32 0)], .none⟩,
 ⟨(.var 6), .alloc 167 4 true [(.int .u32 0), (.int .u32 0), (.int .u32 0), (.int .u32 0)], .none⟩,
 ⟨.no, .store 4 (.v 5) (.t 2), .none⟩,
 ⟨.no, .store 4 (.v 6) (.t 5), .none⟩]
def c102_r2_0 : List AOper := [⟨.tmp, .x (.aslice 8 1 false false true) [(.v 2), (.c (.int .i64 4))], .none⟩,
 ⟨.tmp, .x (.s2ap 4 1) [(.t 0)], .none⟩,
 ⟨.tmp, .load 4 true (.t 1), .none⟩,
 ⟨.tmp, .x (.aslice 8 1 false true false) [(.v 2), (.c (.int .i64 4))], .none⟩,
 ⟨.tmp, .x (.s2ap 4 1) [(.t 3)], .none⟩,
 ⟨.tmp, .load 4 true (.t 4), .none⟩,
 ⟨(.var 5), .alloc 167 4 true [(.int .u32 0), (.int .u32 0), (.int .u32 0), (.int .u32 0)], .none⟩,
 ⟨(.var 6), .alloc 167 4 true [(.int .u32 0), (.int .u32 0), (.int .u32 0), (.int .u32 0)], .none⟩,
 ⟨.no, .store 4 (.v 5) (.t 2), .none⟩,
 ⟨.no, .store 4 (.v 6) (.t 5), .none⟩]
def c102_r2_1 : List AOper := [⟨.tmp, .x (.aslice 8 1 false false true) [(.v 2), (.c (.int .i64 4))], .none⟩,
 ⟨.tmp, .x (.s2ap 4 1) [(.t 0)], .none⟩,
 ⟨.tmp, .load 4 true (.t 1), .none⟩,
 ⟨.tmp, .x (.aslice 8 1 false true false) [(.v 2), (.c (.int .i64 4))], .none⟩,
 ⟨.tmp, .x (.s2ap 4 1) [(.t 3)], .none⟩,
 ⟨.tmp, .load 4 true (.t 4), .none⟩,
 ⟨(.var 6), .alloc 167 4 true [(.int .u32 0), (.int .u32 0), (.int .u32 0), (.int .u32 0)], .none⟩,
 ⟨(.var 5), .alloc 167 4 true [(.int .u32 0), (.int .u32 0), (.int .u32 0), (.int .u32 0)], .none⟩,
 ⟨.no, .store 4 (.v 5) (.t 2), .none⟩,
 ⟨.no, .store 4 (.v 6) (.t 5), .none⟩]
def c102_r2_2 : List AOper := [⟨.tmp, .x (.aslice 8 1 false false true) [(.v 2), (.c (.int .i64 4))], .none⟩,
 ⟨.tmp, .x (.s2ap 4 1) [(.t 0)], .none⟩,
 ⟨.tmp, .load 4 true (.t 1), .none⟩,
 ⟨(.var 5), .alloc 167 4 true [(.int .u32 0), (.int .u32 0), (.int .u32 0), (.int .u32 0)], .none⟩,
 ⟨(.var 6), .alloc 167 4 true [(.int .u32 0), (.int .u32 0), (.int .u32 0), (.int .u32 0)], .none⟩,
 ⟨.no, .store 4 (.v 5) (.t 2), .none⟩,
 ⟨.tmp, .x (.aslice 8 1 false true false) [(.v 2), (.c (.int .i64 4))], .none⟩,
 ⟨.tmp, .x (.s2ap 4 1) [(.t 6)], .none⟩,
 ⟨.tmp, .load 4 true (.t 7), .none⟩,
 ⟨.no, .store 4 (.v 6) (.t 8), .none⟩]
def c102_r2_3 : List AOper := [⟨.tmp, .x (.aslice 8 1 false false true) [(.v 2), (.c (.int .i64 4))], .none⟩,
 ⟨.tmp, .x (.s2ap 4 1) [(.t 0)], .none⟩,
 ⟨.tmp, .load 4 true (.t 1), .none⟩,
 ⟨(.var 6), .alloc 167 4 true [(.int .u32 0), (.int .u32 0), (.int .u32 0), (.int .u32 0)], .none⟩,
 ⟨(.var 5), .alloc 167 4 true [(.int .u32 0), (.int .u32 0), (.int .u32 0), (.int .u32 0)], .none⟩,
 ⟨.no, .store 4 (.v 5) (.t 2), .none⟩,
 ⟨.tmp, .x (.aslice 8 1 false true false) [(.v 2), (.c (.int .i64 4))], .none⟩,
 ⟨.tmp, .x (.s2ap 4 1) [(.t 6)], .none⟩,
 ⟨.tmp, .load 4 true (.t 7), .none⟩,
 ⟨.no, .store 4 (.v 6) (.t 8), .none⟩]
def c102_r2_4 : List AOper := [⟨.tmp, .x (.aslice 8 1 false false true) [(.v 2), (.c (.int .i64 4))], .none⟩,
 ⟨.tmp, .x (.s2ap 4 1) [(.t 0)], .none⟩,
 ⟨.tmp, .load 4 true (.t 1), .none⟩,
 ⟨.tmp, .x (.aslice 8 1 false true false) [(.v 2), (.c (.int .i64 4))], .none⟩,
 ⟨(.var 5), .alloc 167 4 true [(.int .u32 0), (.int .u32 0), (.int .u32 0), (.int .u32 0)], .none⟩,
 ⟨(.var 6), .alloc 167 4 true [(.int .u32 0), (.int .u32 0), (.int .u32 0), (.int .u32 0)], .none⟩,
 ⟨.no, .store 4 (.v 5) (.t 2), .none⟩,
 ⟨.tmp, .x (.s2ap 4 1) [(.t 3)], .none⟩,
 ⟨.tmp, .load 4 true (.t 7), .none⟩,
 ⟨.no, .store 4 (.v 6) (.t 8), .none⟩]
def c102_r2_5 : List AOper := [⟨.tmp, .x (.aslice 8 1 false false true) [(.v 2), (.c (.int .i64 4))], .none⟩,
 ⟨.tmp, .x (.s2ap 4 1) [(.t 0)], .none⟩,
 ⟨.tmp, .load 4 true (.t 1), .none⟩,
 ⟨.tmp, .x (.aslice 8 1 false true false) [(.v 2), (.c (.int .i64 4))], .none⟩,
 ⟨(.var 6), .alloc 167 4 true [(.int .u32 0), (.int .u32 0), (.int .u32 0), (.int .u32 0)], .none⟩,
 ⟨(.var 5), .alloc 167 4 true [(.int .u32 0), (.int .u32 0), (.int .u32 0), (.int .u32 0)], .none⟩,
 ⟨.no, .store 4 (.v 5) (.t 2), .none⟩,
 ⟨.tmp, .x (.s2ap 4 1) [(.t 3)], .none⟩,
 ⟨.tmp, .load 4 true (.t 7), .none⟩,
 ⟨.no, .store 4 (.v 6) (.t 8), .none⟩]
theorem c5_ok : compFunc Tryz.prog hints 5 = some c5 := by kernel_rfl
theorem c7_ok : compFunc Tryz.prog hints 7 = some c7 := by kernel_rfl
theorem c8_ok : compFunc Tryz.prog hints 8 = some c8 := by kernel_rfl
theorem c10_ok : compFunc Tryz.prog hints 10 = some c10 := by kernel_rfl
theorem c12_ok : compFunc Tryz.prog hints 12 = some c12 := by kernel_rfl
theorem c15_ok : compFunc Tryz.prog hints 15 = some c15 := by kernel_rfl
theorem c16_ok : compFunc Tryz.prog hints 16 = some c16 := by kernel_rfl
theorem c17_ok : compFunc Tryz.prog hints 17 = some c17 := by kernel_rfl
theorem c18_ok : compFunc Tryz.prog hints 18 = some c18 := by kernel_rfl
theorem c19_ok : compFunc Tryz.prog hints 19 = some c19 := by kernel_rfl
theorem c20_ok : compFunc Tryz.prog hints 20 = some c20 := by kernel_rfl
theorem c21_ok : compFunc Tryz.prog hints 21 = some c21 := by kernel_rfl
theorem c22_ok : compFunc Tryz.prog hints 22 = some c22 := by kernel_rfl
theorem c23_ok : compFunc Tryz.prog hints 23 = some c23 := by kernel_rfl
theorem c24_ok : compFunc Tryz.prog hints 24 = some c24 := by kernel_rfl
theorem c25_ok : compFunc Tryz.prog hints 25 = some c25 := by kernel_rfl
theorem c26_ok : compFunc Tryz.prog hints 26 = some c26 := by kernel_rfl
theorem c27_ok : compFunc Tryz.prog hints 27 = some c27 := by kernel_rfl
theorem c28_ok : compFunc Tryz.prog hints 28 = some c28 := by kernel_rfl
theorem c34_ok : compFunc Tryz.prog hints 34 = some c34 := by kernel_rfl
theorem c37_ok : compFunc Tryz.prog hints 37 = some c37 := by kernel_rfl
theorem c38_ok : compFunc Tryz.prog hints 38 = some c38 := by kernel_rfl
theorem c40_ok : compFunc Tryz.prog hints 40 = some c40 := by kernel_rfl
theorem c41_ok : compFunc Tryz.prog hints 41 = some c41 := by kernel_rfl
theorem c42_ok : compFunc Tryz.prog hints 42 = some c42 := by kernel_rfl
theorem c43_ok : compFunc Tryz.prog hints 43 = some c43 := by kernel_rfl
theorem c44_ok : compFunc Tryz.prog hints 44 = some c44 := by kernel_rfl
theorem c47_ok : compFunc Tryz.prog hints 47 = some c47 := by kernel_rfl
theorem c48_ok : compFunc Tryz.prog hints 48 = some c48 := by kernel_rfl
theorem c49_ok : compFunc Tryz.prog hints 49 = some c49 := by kernel_rfl
theorem c50_ok : compFunc Tryz.prog hints 50 = some c50 := by kernel_rfl
theorem c51_ok : compFunc Tryz.prog hints 51 = some c51 := by kernel_rfl
theorem c54_ok : compFunc Tryz.prog hints 54 = some c54 := by kernel_rfl
theorem c56_ok : compFunc Tryz.prog hints 56 = some c56 := by kernel_rfl
theorem c60_ok : compFunc Tryz.prog hints 60 = some c60 := by kernel_rfl
theorem c61_ok : compFunc Tryz.prog hints 61 = some c61 := by kernel_rfl
theorem c62_ok : compFunc Tryz.prog hints 62 = some c62 := by kernel_rfl
theorem c63_ok : compFunc Tryz.prog hints 63 = some c63 := by kernel_rfl
theorem c64_ok : compFunc Tryz.prog hints 64 = some c64 := by kernel_rfl
theorem c65_ok : compFunc Tryz.prog hints 65 = some c65 := by kernel_rfl
theorem c74_ok : compFunc Tryz.prog hints 74 = some c74 := by kernel_rfl
theorem c75_ok : compFunc Tryz.prog hints 75 = some c75 := by kernel_rfl
theorem c76_ok : compFunc Tryz.prog hints 76 = some c76 := by kernel_rfl
theorem c77_ok : compFunc Tryz.prog hints 77 = some c77 := by kernel_rfl
theorem c78_ok : compFunc Tryz.prog hints 78 = some c78 := by kernel_rfl
theorem c79_ok : compFunc Tryz.prog hints 79 = some c79 := by kernel_rfl
theorem c80_ok : compFunc Tryz.prog hints 80 = some c80 := by kernel_rfl
theorem c81_ok : compFunc Tryz.prog hints 81 = some c81 := by kernel_rfl
theorem c82_ok : compFunc Tryz.prog hints 82 = some c82 := by kernel_rfl
theorem c84_ok : compFunc Tryz.prog hints 84 = some c84 := by kernel_rfl
theorem c90_ok : compFunc Tryz.prog hints 90 = some c90 := by kernel_rfl
theorem c91_ok : compFunc Tryz.prog hints 91 = some c91 := by kernel_rfl
theorem c92_ok : compFunc Tryz.prog hints 92 = some c92 := by kernel_rfl
theorem c93_ok : compFunc Tryz.prog hints 93 = some c93 := by kernel_rfl
theorem c94_ok : compFunc Tryz.prog hints 94 = some c94 := by kernel_rfl
theorem c95_ok : compFunc Tryz.prog hints 95 = some c95 := by kernel_rfl
theorem c96_ok : compFunc Tryz.prog hints 96 = some c96 := by kernel_rfl
theorem c103_ok : compFunc Tryz.prog hints 103 = some c103 := by kernel_rfl
theorem c104_ok : compFunc Tryz.prog hints 104 = some c104 := by kernel_rfl
theorem c105_ok : compFunc Tryz.prog hints 105 = some c105 := by kernel_rfl
theorem c106_ok : compFunc Tryz.prog hints 106 = some c106 := by kernel_rfl
theorem c110_ok : compFunc Tryz.prog hints 110 = some c110 := by kernel_rfl
theorem c111_ok : compFunc Tryz.prog hints 111 = some c111 := by kernel_rfl
theorem c123_ok : compFunc Tryz.prog hints 123 = some c123 := by kernel_rfl
theorem c102_0_ok : compCode Tryz.prog hints 102 c102_nt c102_slots false 0 (seqL (bodyOf Tryz.prog 102)) = c102_0 := by kernel_rfl
theorem c102_1_ok : compCode Tryz.prog hints 102 c102_nt c102_slots false 0 (seqL (seqR (bodyOf Tryz.prog 102))) = c102_1 := by kernel_rfl
theorem c102_r2_ok : compOpers Tryz.prog hints 102 c102_slots (regOps (seqL (seqR (seqR (bodyOf Tryz.prog 102))))).toList (regOps (seqL (seqR (seqR (bodyOf Tryz.prog 102))))).toList 0 = some c102_r2 := by kernel_rfl
theorem c102_r2_0_ok : renOpers [0, 1, 2, 3, 4, 5, 6, 7, 8, 9] c102_r2 [0, 1, 2, 3, 4, 5, 6, 7, 8, 9] = some c102_r2_0 := by kernel_rfl
theorem c102_r2_1_ok : renOpers [0, 1, 2, 3, 4, 5, 7, 6, 8, 9] c102_r2 [0, 1, 2, 3, 4, 5, 7, 6, 8, 9] = some c102_r2_1 := by kernel_rfl
theorem c102_r2_2_ok : renOpers [0, 1, 2, 6, 7, 8, 3, 4, 5, 9] c102_r2 [0, 1, 2, 6, 7, 8, 3, 4, 5, 9] = some c102_r2_2 := by kernel_rfl
theorem c102_r2_3_ok : renOpers [0, 1, 2, 7, 6, 8, 3, 4, 5, 9] c102_r2 [0, 1, 2, 7, 6, 8, 3, 4, 5, 9] = some c102_r2_3 := by kernel_rfl
theorem c102_r2_4_ok : renOpers [0, 1, 2, 3, 6, 7, 8, 4, 5, 9] c102_r2 [0, 1, 2, 3, 6, 7, 8, 4, 5, 9] = some c102_r2_4 := by kernel_rfl
theorem c102_r2_5_ok : renOpers [0, 1, 2, 3, 7, 6, 8, 4, 5, 9] c102_r2 [0, 1, 2, 3, 7, 6, 8, 4, 5, 9] = some c102_r2_5 := by kernel_rfl
theorem c102_3_ok : compCode Tryz.prog hints 102 c102_nt c102_slots false 0 (seqL (seqR (seqR (seqR (bodyOf Tryz.prog 102))))) = c102_3 := by kernel_rfl
theorem c102_4_ok : compCode Tryz.prog hints 102 c102_nt c102_slots false 0 (seqR (seqR (seqR (seqR (bodyOf Tryz.prog 102))))) = c102_4 := by kernel_rfl
end Go.Proofs.YtjofjgflcogklaaGreatDoor
