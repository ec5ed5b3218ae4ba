/-
  Merged from AbsLaw AbsShape AbsRow: From a run of the abstract machine to a row: the law answers true, and each argument reads as it read.
-/
import Derived.Test.YthcbcmpbipcibaaGreatM02
import Derived.ProofKit
import Derived.Deep.Slices
set_option linter.unusedSimpArgs false
set_option linter.unusedVariables false
set_option linter.defProp false
set_option linter.constructorNameAsVariable false
/-
  From a run of the abstract machine to a row: the law answers true, and each argument reads as it read.
-/
namespace Go.Abs
open Go.ChangeShapes Go.WideShapes Go.ChangeAt Go.RowKit
variable {P : Program} {H : Type} {enc : TypeId × Value → H} {E : Env}
def G0 (E : Env) : Ghost := ⟨0, fun _ => 0, fun _ => 0, fun _ => none, E⟩
theorem hrel0 (W : World) {E : Env} (hg : ∀ g cs, E.glob g = some cs → VRel W (G0 E) (.pointer (some ⟨g, 0, none⟩)) (.rp cs) ∧ ∀ c ∈ cs, strip c = some c) : HRel W (G0 E) Heap.empty :=
  ⟨rfl, fun id o h => by rw [Heap.get_empty] at h; simp at h, fun id o h => by rw [Heap.get_empty] at h; simp at h, fun i j oi oj h => by rw [Heap.get_empty] at h; simp at h, hg⟩
theorem stab0 {E : Env} (b k : Nat) : stab (G0 E) b k := fun m h => by simp [G0] at h
inductive Arg where
  | int (n : Int)
  | ints (l : List Int) (t : Tok)
def Arg.val : Arg → AVal
  | .int n => .int .i64 n
  | .ints l t => .sl (l.map (.int .i64)) t
def Arg.wf : Arg → Prop
  | .int n => -9223372036854775808 ≤ n ∧ n < 9223372036854775808
  | .ints l t => (t = .none ∨ t = .nil ∧ l = []) ∧ l.length ≤ maxLen ∧ ∀ n ∈ l, -9223372036854775808 ≤ n ∧ n < 9223372036854775808
theorem wf_i64 {n : Int} (h : (Lit.int .i64 n).wf = true) : -9223372036854775808 ≤ n ∧ n < 9223372036854775808 := by
  simp only [Lit.wf, Bool.and_eq_true, decide_eq_true_eq] at h
  have h1 : IntKind.i64.min = -9223372036854775808 := rfl
  have h2 : IntKind.i64.max = 9223372036854775807 := rfl
  omega
theorem Below.trodAll (hl : laidOutB P = true) {W W' : World} (hb : Below W.heap.size W W') : ∀ {ts : List TypeId} {vs : List Value} {ds : List (DataW H)} {ps : List MemPlace}, (∀ t ∈ ts, P.readableRec t = true ∧ t < P.types.size) →
    (∀ x ∈ ps, x.block < W.heap.size) → DataW.TrodAll enc P W 0 (fun _ => true) true ts vs ds ps → DataW.TrodAll enc P W' 0 (fun b => decide (b < W.heap.size)) true ts vs ds ps
  | [], [], [], _, _, _, h => h
  | t :: ts, v :: vs, d :: ds, ps, ht, hp, h => by
    obtain ⟨p, q, h1, h2, rfl⟩ := h
    exact ⟨p, q, RowKit.Below.trod hl (ht t (by simp)).1 (ht t (by simp)).2 h1 hb (fun x hx => hp x (by simp [hx])), Below.trodAll hl hb (fun t' h' => ht t' (by simp [h'])) (fun x hx => hp x (by simp [hx])) h2, rfl⟩
  | [], _ :: _, _, _, _, _, h => h.elim
  | [], [], _ :: _, _, _, _, h => h.elim
  | _ :: _, [], _, _, _, _, h => h.elim
  | _ :: _, _ :: _, [], _, _, _, h => h.elim
theorem law_post {f : Func} {s : ChangeSpec} {W W' : World} {args : Array Value} {ds gs : List (DataW H)} {before : List MemPlace} {tb : TypeId} (hl : laidOutB P = true) (hts : ∀ t ∈ f.params.toList, P.readableRec t = true ∧ t < P.types.size)
    (hv : s.vars = []) (hr : f.resultTypes = #[tb]) (hb : P.underlying tb = some .bool) (hW : DataW.Whole enc P f.params.toList s.vars false W args.toList ds gs before) (hB : Below W.heap.size W W')
    (hs : s.fn H (ds ++ gs) = { results := [.lit (.bool true)], args := ds }) : s.post enc P f false true false false W args (.bool true) W' := by
  have hlt := hW.lt
  have hW0 := hW
  obtain ⟨p, q, hA, hV, rfl, hfz, hnd⟩ := hW
  rw [hv] at hV
  have hq : q = [] := by
    match gs, hV with
    | [], h => exact h
  subst hq
  refine ⟨ds, gs, p ++ [], [], p, [], hW0, ?_, ?_, ?_, hB.frame _, fun h => by simp at h⟩
  · rw [hr, hs]
    exact ⟨[], [], RowKit.shut_bool hb true, rfl, rfl⟩
  · rw [hs]
    exact Below.trodAll hl hB hts (fun x hx => hlt x (by simp [hx])) hA
  · rw [hv, hs]
    rfl
end Go.Abs

namespace Go.Abs
open Go.ChangeShapes Go.WideShapes Go.ChangeAt Go.RowKit Go.Deep
def shapeOk (P : Program) : Nat → TypeId → Bool
  | 0, _ => false
  | n + 1, t => match P.underlying t with
    | some .bool | some (.int _) | some .string => P.cellsOf t == 1
    | some (.slice e) => P.cellsOf t == 1 && decide (0 < P.cellsOf e) && shapeOk P n e
    | some (.struct fs) => P.cellsOf t == fs.size && (List.range fs.size).all fun i => match fs[i]? with
      | some f => f.offset == i && P.cellsOf f.type == 1 && shapeOk P n f.type
      | none => false
    | _ => false
def isSt (P : Program) (t : TypeId) : Bool := match P.underlying t with
  | some (.struct _) => true
  | _ => false
def okA (P : Program) : Nat → TypeId → List AVal → Prop
  | 0, _, _ => False
  | n + 1, t, asx => match P.underlying t with
    | some .bool => ∃ b, asx = [.bool b]
    | some (.int k) => ∃ z, asx = [.int k z] ∧ (Lit.int k z).wf = true
    | some .string => ∃ s, asx = [.str s] ∧ s.length ≤ maxLen
    | some (.slice e) => ∃ xs tk, asx = [.sl xs tk] ∧ (tk = .none ∨ tk = .nil ∧ xs = []) ∧ xs.length ≤ maxLen ∧ ∀ x ∈ xs, mk (isSt P e) x.cells = some x ∧ okA P n e x.cells
    | some (.struct fs) => asx.length = fs.size ∧ ∀ (i : Nat) (f : Field), fs[i]? = some f → ∃ y, asx[i]? = some y ∧ okA P n f.type [y]
    | _ => False
variable {P : Program} {H : Type} {enc : TypeId × Value → H} {W : World} {E : Env}
theorem flat_find {sz : Nat} : ∀ {xs : List AVal}, (∀ x ∈ xs, x.cells.length = sz) → ∀ {k : Nat} {c : AVal}, (flat xs)[k]? = some c → ∃ (i j : Nat) (x : AVal), xs[i]? = some x ∧ x.cells[j]? = some c ∧ k = i * sz + j ∧ j < sz
  | [], _, k, c, h => by simp [flat] at h
  | x :: xs, h0, k, c, h => by
    have hx := h0 x (by simp)
    have hf : flat (x :: xs) = x.cells ++ flat xs := rfl
    rw [hf] at h
    by_cases hk : k < x.cells.length
    · rw [List.getElem?_append_left hk] at h
      exact ⟨0, k, x, rfl, h, by omega, by omega⟩
    · rw [List.getElem?_append_right (by omega)] at h
      obtain ⟨i, j, y, h1, h2, h3, h4⟩ := flat_find (fun y hy => h0 y (by simp [hy])) h
      exact ⟨i + 1, j, y, by simpa using h1, h2, by rw [Nat.add_mul]; omega, h4⟩
theorem pts1 {G : Ghost} {c : Value} {a : AVal} (h : VRel W G c a) : Pts W G #[c] [a] := ⟨rfl, fun k c' a' h1 h2 => by
  match k with
  | 0 => simp at h1 h2; subst h1; subst h2; exact h
  | k + 1 => simp at h2⟩
theorem cells_of_mk {ag : Bool} {cs : List AVal} {x : AVal} (h : mk ag cs = some x) (h1 : ∀ c ∈ cs, c.one = true) : x.cells = cs := by
  unfold mk at h
  split at h
  · simp at h; subst h; rfl
  · split at h
    · rename_i c
      simp at h; subst h
      have := h1 c (by simp)
      cases c <;> simp [AVal.one] at this <;> rfl
    · simp at h
theorem trod_cells : ∀ (n : Nat) {fuel : Nat} {t : TypeId} {cs : List Value} {x : DataW H × List MemPlace}, shapeOk P n t = true → DataW.trod enc P W 0 (fun _ => true) true fuel t cs = some x →
    ∃ asx, Pts W (G0 E) ⟨cs⟩ asx ∧ okA P n t asx ∧ (∀ a ∈ asx, a.one = true) ∧ (∀ a ∈ asx, strip a = some a) ∧ cs.length = P.cellsOf t ∧ (isSt P t = false → asx.length = 1)
  | 0, fuel, t, cs, x, hs, h => by simp [shapeOk] at hs
  | n + 1, fuel, t, cs, x, hs, h => by
    simp only [shapeOk] at hs
    split at hs
    · -- a bool
      rename_i hu
      cases fuel with
      | zero => simp [DataW.trod] at h
      | succ fuel =>
        unfold DataW.trod at h
        rw [hu] at h
        split at h <;> simp_all
        rename_i b
        exact ⟨[.bool b], pts1 (.bool b), by simp [okA, hu], by simp [AVal.one], by simp [strip], fun _ => rfl⟩
    · -- an int
      rename_i k hu
      cases fuel with
      | zero => simp [DataW.trod] at h
      | succ fuel =>
        unfold DataW.trod at h
        rw [hu] at h
        split at h <;> simp_all
        rename_i z _
        obtain ⟨⟨h1, h2⟩, _⟩ := h
        subst h1
        exact ⟨[.int _ z], pts1 (.int _ z), by simp [okA, hu, h2], by simp [AVal.one], by simp [strip], fun _ => rfl⟩
    · -- a string
      rename_i hu
      cases fuel with
      | zero => simp [DataW.trod] at h
      | succ fuel =>
        unfold DataW.trod at h
        rw [hu] at h
        split at h <;> simp_all
        rename_i s
        exact ⟨[.str s.data.toList], pts1 (.str s), by simp only [okA, hu]; exact ⟨_, rfl, by simpa using h.1⟩, by simp [AVal.one], by simp [strip], fun _ => rfl⟩
    · -- a slice
      rename_i e hu
      simp only [Bool.and_eq_true, beq_iff_eq, decide_eq_true_eq] at hs
      obtain ⟨⟨hc1, hpos⟩, hse⟩ := hs
      have hst : isSt P t = false := by simp [isSt, hu]
      rcases open_slice hu h with ⟨rfl, _⟩ | ⟨a, len, cap, m, f, D, Pl, rfl, _, hlc, hcm, hm, _, hel⟩
      · refine ⟨[.sl [] .nil], pts1 (.nilsl _ (.inl rfl)), ?_, by simp [AVal.one], by simp [strip], by simp [hc1], by simp⟩
        simp only [okA, hu]
        exact ⟨[], .nil, rfl, .inr ⟨rfl, rfl⟩, by simp, by simp⟩
      · simp only [if_true] at hm
        subst hm
        have hcells : ∀ i, i < m → ∃ xc : AVal × List AVal, mk (isSt P e) xc.1.cells = some xc.1 ∧ okA P n e xc.1.cells ∧ (∀ a ∈ xc.1.cells, a.one = true) ∧ (∀ a ∈ xc.1.cells, strip a = some a) ∧ xc.1.cells.length = P.cellsOf e ∧
            ∀ j c, xc.1.cells[j]? = some c → ∃ u, W.cell? ((a.add (i * P.cellsOf e)).add j) = some u ∧ VRel W (G0 E) u c := by
          intro i hi
          obtain ⟨cs', h1, h2⟩ := hel i hi
          obtain ⟨asx, p1, p2, p3, p4, p5, p6⟩ := trod_cells n hse h2
          obtain ⟨_, q1, q2⟩ := World.cells?_some h1
          have hlen : asx.length = P.cellsOf e := by rw [← p1.len]; simpa using q1
          obtain ⟨x, hx⟩ : ∃ x, mk (isSt P e) asx = some x := by
            unfold mk
            cases hst : isSt P e with
            | true => exact ⟨_, rfl⟩
            | false =>
              have := p6 hst
              match asx, this with
              | [y], _ => exact ⟨y, rfl⟩
          have hxc := cells_of_mk hx p3
          refine ⟨(x, []), ?_⟩
          simp only [hxc]
          refine ⟨hx, p2, p3, p4, hlen, fun j c hj => ?_⟩
          have hjl : j < P.cellsOf e := by rw [← hlen]; exact (List.getElem?_eq_some_iff.1 hj).1
          obtain ⟨u, hu'⟩ : ∃ u, cs'[j]? = some u := ⟨_, List.getElem?_eq_getElem (by omega)⟩
          exact ⟨u, by rw [q2 j hjl, hu'], p1.rel j u c (by simpa using hu') hj⟩
        obtain ⟨A, hA⟩ := choose_lt (α := AVal × List AVal) hcells
        have hok : ∀ x ∈ (List.range len).map (fun i => (A i).1), mk (isSt P e) x.cells = some x ∧ okA P n e x.cells := by
          intro x hx
          obtain ⟨i, hi, rfl⟩ := List.mem_map.1 hx
          have := hA i (by have := List.mem_range.1 hi; omega)
          exact ⟨this.1, this.2.1⟩
        by_cases hcap : m = 0
        · have hl0 : len = 0 := by omega
          subst hl0; subst hcap
          refine ⟨[.sl [] .none], pts1 (.emp a .none (.inl rfl)), ?_, by simp [AVal.one], by simp [strip], by simp [hc1], by simp⟩
          simp only [okA, hu]
          exact ⟨[], .none, rfl, .inl rfl, by simp, by simp⟩
        · -- the place is one of cells
          have hspot : a.spot = none := by
            obtain ⟨_, _, _, _, hl, hc⟩ := hA 0 (by omega)
            obtain ⟨c, hc'⟩ : ∃ c, (A 0).1.cells[0]? = some c := ⟨_, List.getElem?_eq_getElem (by omega)⟩
            obtain ⟨u, hu', _⟩ := hc 0 c hc'
            rw [Nat.zero_mul] at hu'
            have : (a.add 0).add 0 = a := by simp [Addr.add]
            rw [this] at hu'
            unfold World.cell? at hu'
            split at hu'
            · split at hu'
              · simp at hu'
              · rename_i q; simpa using q
            · simp at hu'
          obtain ⟨b, off, sp⟩ := a
          simp only at hspot
          subst hspot
          have hsz : ∀ x ∈ (List.range len).map (fun i => (A i).1), x.cells.length = P.cellsOf e := by
            intro x hx
            obtain ⟨i, hi, rfl⟩ := List.mem_map.1 hx
            exact (hA i (by have := List.mem_range.1 hi; omega)).2.2.2.2.1
          have hfind : ∀ (k : Nat) (c : AVal), (flat ((List.range len).map (fun i => (A i).1)))[k]? = some c → (∃ u, W.cell? ⟨b, off + k, none⟩ = some u ∧ VRel W (G0 E) u c) ∧ c.one = true ∧ strip c = some c := by
            intro k c hk
            obtain ⟨i, j, x, h1, h2, h3, h4⟩ := flat_find hsz hk
            rw [List.getElem?_map, Option.map_eq_some_iff] at h1
            obtain ⟨i', h1, rfl⟩ := h1
            have hi' : i = i' := by
              have := List.getElem?_eq_some_iff.1 h1
              obtain ⟨_, h⟩ := this
              simpa using h
            subst hi'
            have hil : i < len := by have := (List.getElem?_eq_some_iff.1 h1).1; simpa using this
            obtain ⟨a1, a2, a3, a4, a5, a6⟩ := hA i (by omega)
            obtain ⟨u, hu1, hu2⟩ := a6 j c h2
            have hmem : c ∈ (A i).1.cells := List.mem_of_getElem? h2
            refine ⟨⟨u, ?_, hu2⟩, a3 c hmem, a4 c hmem⟩
            rw [h3, ← hu1, Addr.add_lit, Addr.add_lit, Nat.add_assoc]
          refine ⟨[.sl ((List.range len).map (fun i => (A i).1)) .none], pts1 ?_, ?_, by simp [AVal.one], by simp [strip], by simp [hc1], by simp⟩
          · have hll : ((List.range len).map (fun i => (A i).1)).length = len := by simp
            have key : VRel W (G0 E) (.slice (some ⟨b, off, none⟩) ((List.range len).map (fun i => (A i).1)).length m) (.sl ((List.range len).map (fun i => (A i).1)) .none) := by
              refine .sl b off m (P.cellsOf e) _ .none (fun k => (W.cell? ⟨b, off + k, none⟩).getD (.bool false)) hsz (fun k c hk => ?_) (fun k c hk => ?_) (fun k hk => stab0 _ _) (fun c hc' => ?_) (fun c hc' => ?_) (by rw [hll]; exact hlc) (by simp) (by simp)
              · obtain ⟨⟨u, q1, q2⟩, _⟩ := hfind k c hk
                simp [q1]
              · obtain ⟨⟨u, q1, q2⟩, _⟩ := hfind k c hk
                simp [q1]; exact q2
              · obtain ⟨k, hk⟩ := List.getElem?_of_mem hc'
                exact (hfind k c hk).2.1
              · obtain ⟨k, hk⟩ := List.getElem?_of_mem hc'
                exact (hfind k c hk).2.2
            rwa [hll] at key
          · simp only [okA, hu]
            exact ⟨_, .none, rfl, .inl rfl, by simp; omega, hok⟩
    · -- a struct
      rename_i fs hu
      simp only [Bool.and_eq_true, beq_iff_eq, List.all_eq_true, List.mem_range] at hs
      obtain ⟨hc1, hfs⟩ := hs
      obtain ⟨xs, f, _, _, hl, hxl, hel⟩ := DataW.trod_struct hu h
      have hfield : ∀ i, i < fs.size → ∃ y : AVal, (∃ c, cs[i]? = some c ∧ VRel W (G0 E) c y) ∧ (∀ fd, fs[i]? = some fd → okA P n fd.type [y]) ∧ y.one = true ∧ strip y = some y := by
        intro i hi
        have hfi := hfs i hi
        obtain ⟨fd, hfd⟩ : ∃ fd, fs[i]? = some fd := ⟨_, Array.getElem?_eq_getElem hi⟩
        rw [hfd] at hfi
        simp only [Bool.and_eq_true, beq_iff_eq] at hfi
        obtain ⟨⟨f1, f2⟩, f3⟩ := hfi
        have hh := hel i fd hfd
        rw [f1, f2] at hh
        obtain ⟨c, hc⟩ : ∃ c, cs[i]? = some c := ⟨_, List.getElem?_eq_getElem (by omega)⟩
        have hcs : (cs.drop i).take 1 = [c] := by
          rw [List.take_one, List.head?_drop, hc]; rfl
        rw [hcs] at hh
        obtain ⟨y, hy⟩ : ∃ y, xs[i]? = some y := ⟨_, List.getElem?_eq_getElem (by omega)⟩
        rw [hy] at hh
        obtain ⟨asx, p1, p2, p3, p4, p5, p6⟩ := trod_cells n f3 hh
        have hl1 : asx.length = 1 := by rw [← p1.len]; rfl
        match asx, hl1 with
        | [y], _ =>
          refine ⟨y, ⟨c, hc, p1.rel 0 c y rfl rfl⟩, fun fd' hfd' => ?_, p3 y (by simp), p4 y (by simp)⟩
          rw [hfd] at hfd'
          obtain rfl := Option.some.inj hfd'
          exact p2
      obtain ⟨A, hA⟩ := choose_lt (α := AVal) hfield
      have hlen : cs.length = fs.size := by rw [hl, hc1]
      refine ⟨(List.range fs.size).map A, ⟨by simp [hlen], fun k c a h1 h2 => ?_⟩, ?_, fun a ha => ?_, fun a ha => ?_, hl, fun q => by simp [isSt, hu] at q⟩
      · rw [List.getElem?_map, Option.map_eq_some_iff] at h2
        obtain ⟨k', h2, rfl⟩ := h2
        obtain ⟨hk1, hk2⟩ := List.getElem?_eq_some_iff.1 h2
        simp at hk1 hk2
        subst hk2
        obtain ⟨⟨c', q1, q2⟩, _⟩ := hA k hk1
        have : c' = c := by
          have h1' : cs[k]? = some c := by simpa using h1
          rw [h1'] at q1; exact (Option.some.inj q1).symm
        subst this
        exact q2
      · simp only [okA, hu]
        refine ⟨by simp, fun i fd hfd => ?_⟩
        have hi : i < fs.size := (Array.getElem?_eq_some_iff.1 hfd).1
        exact ⟨A i, by simp [hi], (hA i hi).2.1 fd hfd⟩
      · obtain ⟨i, hi, rfl⟩ := List.mem_map.1 ha
        exact (hA i (by simpa using hi)).2.2.1
      · obtain ⟨i, hi, rfl⟩ := List.mem_map.1 ha
        exact (hA i (by simpa using hi)).2.2.2
    · simp at hs
theorem arg_shape (n : Nat) {t : TypeId} {v : Value} {d : DataW H} {ps : List MemPlace} {base : Nat} (hs : shapeOk P n t = true) (hval : Value.okWide P W .any base t v) (hd : DataW.Trod enc P W 0 (fun _ => true) true t v d ps) :
    ∃ x, VRel W (G0 E) v x ∧ mk (isSt P t) x.cells = some x ∧ okA P n t x.cells := by
  obtain ⟨fuel, hf⟩ := hd
  obtain ⟨asx, p1, p2, p3, p4, p5, p6⟩ := trod_cells n hs hf
  cases hst : isSt P t with
  | true =>
    refine ⟨.agg asx, ?_, rfl, p2⟩
    unfold isSt at hst
    split at hst
    · rename_i fs hu
      simp only [Value.okWide, hu] at hval
      obtain ⟨cs, rfl, _⟩ := hval
      exact .agg _ _ p1.len p1.rel p3
    · simp at hst
  | false =>
    have hl := p6 hst
    match asx, hl with
    | [y], _ =>
      have hc : y.cells = [y] := by
        have := p3 y (by simp)
        cases y <;> simp [AVal.one] at this <;> rfl
      refine ⟨y, ?_, by rw [hc]; rfl, by rw [hc]; exact p2⟩
      have hv : v.cells = #[v] := by
        cases v <;> first | rfl | skip
        rename_i cs
        cases n with
        | zero => simp [shapeOk] at hs
        | succ n =>
          simp only [shapeOk] at hs
          split at hs
          all_goals first
            | (simp at hs; done)
            | (rename_i hu; simp [isSt, hu] at hst; done)
            | (rename_i hu; simp [Value.okWide, Cell.okWide, Cell.ok, hu] at hval; done)
      have hr := p1.rel 0 v y (by simp [hv]) rfl
      exact hr
end Go.Abs

namespace Go.Abs
open Go.ChangeShapes Go.WideShapes Go.ChangeAt Go.RowKit Go.Deep
inductive ShArgs (P : Program) (n : Nat) : List TypeId → List AVal → Prop
  | nil : ShArgs P n [] []
  | cons {t : TypeId} {x : AVal} {ts : List TypeId} {xs : List AVal} (h1 : mk (isSt P t) x.cells = some x) (h2 : okA P n t x.cells) (h3 : ShArgs P n ts xs) : ShArgs P n (t :: ts) (x :: xs)
variable {P : Program} {H : Type} {enc : TypeId × Value → H} {W : World} {E : Env}
theorem pts_cons {v : Value} {vs : List Value} {x : AVal} {xs : List AVal} (h1 : VRel W (G0 E) v x) (h2 : Pts W (G0 E) ⟨vs⟩ xs) : Pts W (G0 E) ⟨v :: vs⟩ (x :: xs) := by
  refine ⟨by have := h2.1; simpa using this, fun k c a hc ha => ?_⟩
  cases k with
  | zero => simp at hc ha; subst hc; subst ha; exact h1
  | succ k => exact h2.2 k c a (by simpa using hc) (by simpa using ha)
theorem sh_args {n base : Nat} : ∀ {ts : List TypeId} {vs : List Value} {ds : List (DataW H)} {p : List MemPlace}, (∀ t ∈ ts, shapeOk P n t = true) → (∀ (j : Nat) t v, ts[j]? = some t → vs[j]? = some v → Value.okWide P W .any base t v) →
    DataW.TrodAll enc P W 0 (fun _ => true) true ts vs ds p → ∃ xs, ShArgs P n ts xs ∧ Pts W (G0 E) ⟨vs⟩ xs ∧ ds.length = ts.length
  | [], [], [], _, _, _, _ => ⟨[], .nil, ⟨rfl, fun k c a hc _ => by simp at hc⟩, rfl⟩
  | t :: ts, v :: vs, d :: ds, p, hs, hv, h => by
    obtain ⟨p0, q0, h1, h2, _⟩ := h
    obtain ⟨x, r1, r2, r3⟩ := arg_shape n (hs t (by simp)) (hv 0 t v rfl rfl) h1
    obtain ⟨xs, r4, r5, r6⟩ := sh_args (fun t' h' => hs t' (by simp [h'])) (fun j t' v' q1 q2 => hv (j + 1) t' v' (by simpa using q1) (by simpa using q2)) h2
    exact ⟨x :: xs, .cons r2 r3 r4, pts_cons r1 r5, by simp [r6]⟩
  | [], _ :: _, _, _, _, _, h => h.elim
  | [], [], _ :: _, _, _, _, h => h.elim
  | _ :: _, [], _, _, _, _, h => h.elim
  | _ :: _, _ :: _, [], _, _, _, h => h.elim
theorem law_callsA {F : Nat → Option AEnt} {Hh : Hints} (hmix : P.follows .mixedOrders = true) (hT : Table P Hh F) {g : Nat} {cargs : Array Value} {args : List AVal} (hgl : ∀ g cs, Hh.glob g = some cs → VRel W (G0 (envOf P Hh)) (.pointer (some ⟨g, 0, none⟩)) (.rp cs) ∧ ∀ c ∈ cs, strip c = some c) (hp : Pts W (G0 (envOf P Hh)) cargs args) {h' : Heap}
    (c : Gives F g args Heap.empty (.bool true) h') : Calls P g cargs W fun e W' => e = .returned (.bool true) ∧ Below W.heap.size W W' := by
  obtain ⟨n, hn⟩ := gives_run c
  refine (sound hmix hT hn W (G0 (envOf P Hh)) cargs rfl (hrel0 W hgl) hp).mono ?_
  rintro e W' ⟨v, G', rfl, hX, hH, hV⟩
  cases hV with
  | bool =>
    refine ⟨rfl, hX.os, hX.tape, hX.out, hX.size, fun k hk => (hX.keep k hk ?_).1⟩
    rintro ⟨id, o, h1, _⟩
    rw [Heap.get_empty] at h1
    simp at h1
theorem row_calls {F : Nat → Option AEnt} {Hh : Hints} (hgl : ∀ g cs, Hh.glob g = some cs → VRel W (G0 (envOf P Hh)) (.pointer (some ⟨g, 0, none⟩)) (.rp cs) ∧ ∀ c ∈ cs, strip c = some c) (hmix : P.follows .mixedOrders = true) (hT : Table P Hh F) (hl : laidOutB P = true) {g n : Nat} {f : Func} {ts : List TypeId} {tb : TypeId} {s : ChangeSpec}
    (hp : f.params.toList = ts) (hts : ∀ t ∈ ts, P.readableRec t = true ∧ t < P.types.size) (hsh : ∀ t ∈ ts, shapeOk P n t = true) (hr : f.resultTypes = #[tb]) (hb : P.underlying tb = some .bool) (hv : s.vars = [])
    (hs : ∀ (H : Type) (ds : List (DataW H)), ds.length = ts.length → s.fn H ds = { results := [.lit (.bool true)], args := ds })
    (hg : ∀ xs, ShArgs P n ts xs → ∃ h', Gives F g xs Heap.empty (.bool true) h')
    (base : Nat) (args : Array Value) (ds gs : List (DataW H)) (before : List MemPlace) (hval : ∀ (j : Nat) t v, f.params[j]? = some t → args[j]? = some v → Value.okWide P W .any base t v)
    (hW : DataW.Whole enc P f.params.toList s.vars false W args.toList ds gs before) :
    Calls P g args W fun e W' => ∃ v, e = .returned v ∧ s.post enc P f false true false false W args v W' := by
  have hW' := hW
  obtain ⟨p, q, hA, hV, hpq, hfz, hnd⟩ := hW
  rw [hp] at hA
  obtain ⟨lst⟩ := args
  obtain ⟨xs, r1, r2, r3⟩ := sh_args hsh (fun j t v q1 q2 => hval j t v (by rw [← hp] at q1; simpa using q1) (by simpa using q2)) hA
  obtain ⟨h', hh⟩ := hg xs r1
  refine (law_callsA hmix hT hgl r2 hh).mono ?_
  rintro e W' ⟨rfl, hB⟩
  refine ⟨_, rfl, law_post hl (by rw [hp]; exact hts) hv hr hb hW' hB ?_⟩
  rw [hv] at hV
  match gs, hV with
  | [], _ => rw [List.append_nil]; exact hs H ds r3
end Go.Abs
