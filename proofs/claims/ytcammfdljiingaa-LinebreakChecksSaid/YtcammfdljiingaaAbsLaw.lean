/-
  From a run of the abstract machine to a row: the law answers true, and each argument reads as it read.
-/
import Derived.Test.YtcammfdljiingaaAbsSound
import Derived.Test.YtcammfdljiingaaAbsWP
import Derived.ProofKit
set_option linter.unusedSimpArgs false
set_option linter.unusedVariables false
namespace Go.Abs
open Go.ChangeShapes Go.WideShapes Go.ChangeAt Go.RowKit

variable {P : Program} {H : Type} {enc : TypeId × Value → H}

/-- The ghost at the start: nothing is owned, every cell stands. -/
def G0 : Ghost := ⟨0, fun _ => 0, fun _ => 0, fun _ => none⟩

theorem hrel0 (W : World) : HRel W G0 Heap.empty := ⟨rfl, fun id o h => by rw [Heap.get_empty] at h; simp at h, fun id o h => by rw [Heap.get_empty] at h; simp at h, fun i j oi oj h => by rw [Heap.get_empty] at h; simp at h⟩

theorem stab0 (b k : Nat) : stab G0 b k := fun m h => by simp [G0] at h

/-- The kinds of arguments. -/
inductive Arg where
  | int (n : Int)
  | ints (l : List Int) (t : Tok)

def Arg.val : Arg → AVal
  | .int n => .int .i64 n
  | .ints l t => .sl (l.map (.int .i64)) t

/-- A slice of integers and the token that it comes with, and the bounds that its size implies. -/
def Arg.wf : Arg → Prop
  | .int n => -9223372036854775808 ≤ n ∧ n < 9223372036854775808
  | .ints l t => (t = .none ∨ t = .nil ∧ l = []) ∧ l.length ≤ maxLen ∧ ∀ n ∈ l, -9223372036854775808 ≤ n ∧ n < 9223372036854775808

theorem wf_i64 {n : Int} (h : (Lit.int .i64 n).wf = true) : -9223372036854775808 ≤ n ∧ n < 9223372036854775808 := by
  simp only [Lit.wf, Bool.and_eq_true, decide_eq_true_eq] at h
  have h1 : IntKind.i64.min = -9223372036854775808 := rfl
  have h2 : IntKind.i64.max = 9223372036854775807 := rfl
  omega

theorem flat_ints (l : List Int) : flat (l.map (AVal.int .i64)) = l.map (AVal.int .i64) := by
  induction l with
  | nil => rfl
  | cons x l ih => simp only [flat, List.map_cons, List.flatMap_cons, AVal.cells] at ih ⊢; rw [ih]; rfl

theorem arg_int {W : World} {t : TypeId} {v : Value} {d : DataW H} {ps : List MemPlace} {base : Nat} (ht : P.underlying t = some (.int .i64)) (hval : Value.okWide P W .any base t v) (hd : DataW.Trod enc P W 0 (fun _ => true) true t v d ps) :
    ∃ n, VRel W G0 v (Arg.val (.int n)) ∧ (Arg.int n).wf := by
  obtain ⟨n, rfl, rfl, rfl, hw⟩ := open_int ht hval hd
  exact ⟨n, .int _ _, wf_i64 hw⟩

theorem arg_ints {W : World} {t e : TypeId} {v : Value} {d : DataW H} {ps : List MemPlace} {base : Nat} (ht : P.underlying t = some (.slice e)) (he : P.underlying e = some (.int .i64)) (hc : P.cellsOf e = 1) (hval : Value.okWide P W .any base t v) (hd : DataW.Trod enc P W 0 (fun _ => true) true t v d ps) :
    ∃ l tk, VRel W G0 v (Arg.val (.ints l tk)) ∧ (Arg.ints l tk).wf := by
  obtain ⟨a0, len0, cap0, rfl⟩ := okWide_slice ht hval
  obtain ⟨fuel, hf⟩ := hd
  rcases open_ints ht he hc hf with ⟨h1, h2⟩ | ⟨a, len, cap, zs, h1, h2, h3, h4, h5, h6, h7, h8⟩
  · simp [Value.cells] at h1
    obtain ⟨rfl, rfl, rfl⟩ := h1
    exact ⟨[], .nil, .nilsl _ (.inl rfl), .inr ⟨rfl, rfl⟩, by simp, by simp⟩
  · simp [Value.cells] at h1
    obtain ⟨rfl, rfl, rfl⟩ := h1
    simp only [if_true] at h5
    simp only [Value.okWide, ht, Cell.okWide, Cell.ok] at hval
    obtain ⟨b, off, sp⟩ := a
    obtain rfl : sp = none := hval.2.2.2.1
    have hl : (zs.take len0).length = len0 := by rw [List.length_take]; omega
    refine ⟨zs.take len0, .none, ?_, .inl rfl, by omega, fun n hn => wf_i64 (h8 n (List.mem_of_mem_take hn))⟩
    have hfl := flat_ints (zs.take len0)
    have key : VRel W G0 (.slice (some ⟨b, off, none⟩) ((zs.take len0).map (AVal.int .i64)).length cap0) (.sl ((zs.take len0).map (AVal.int .i64)) .none) := by
      refine .sl b off cap0 1 _ .none (fun k => .int .i64 (zs.getD k 0)) (fun x hx => ?_) (fun k c hk => ?_) (fun k c hk => ?_) (fun k hk => stab0 _ _) (fun c hc' => ?_) (fun c hc' => ?_) (by rw [List.length_map, hl]; exact h3) (by simp) (by simp)
      · simp only [List.mem_map] at hx
        obtain ⟨n, _, rfl⟩ := hx
        rfl
      · rw [hfl] at hk
        have hlt := (List.getElem?_eq_some_iff.1 hk).1
        rw [List.length_map, hl] at hlt
        have := h7 k (by omega)
        rw [Addr.add_lit] at this
        exact this
      · rw [hfl] at hk
        have hlt := (List.getElem?_eq_some_iff.1 hk).1
        rw [List.length_map, hl] at hlt
        simp only [List.getElem?_map, List.getElem?_take, hlt, if_true, Option.map_eq_some_iff] at hk
        obtain ⟨n, hn, rfl⟩ := hk
        rw [List.getD_eq_getElem?_getD, hn]
        exact .int _ _
      · rw [hfl] at hc'
        simp only [List.mem_map] at hc'
        obtain ⟨n, _, rfl⟩ := hc'
        rfl
      · rw [hfl] at hc'
        simp only [List.mem_map] at hc'
        obtain ⟨n, _, rfl⟩ := hc'
        rfl
    rw [List.length_map, hl] at key
    exact key

theorem Below.trodAll (hl : laidOutB P = true) {W W' : World} (hb : Below W.heap.size W W') : ∀ {ts : List TypeId} {vs : List Value} {ds : List (DataW H)} {ps : List MemPlace}, (∀ t ∈ ts, P.readableRec t = true ∧ t < P.types.size) →
    (∀ x ∈ ps, x.block < W.heap.size) → DataW.TrodAll enc P W 0 (fun _ => true) true ts vs ds ps → DataW.TrodAll enc P W' 0 (fun b => decide (b < W.heap.size)) true ts vs ds ps
  | [], [], [], _, _, _, h => h
  | t :: ts, v :: vs, d :: ds, ps, ht, hp, h => by
    obtain ⟨p, q, h1, h2, rfl⟩ := h
    exact ⟨p, q, RowKit.Below.trod hl (ht t (by simp)).1 (ht t (by simp)).2 h1 hb (fun x hx => hp x (by simp [hx])), Below.trodAll hl hb (fun t' h' => ht t' (by simp [h'])) (fun x hx => hp x (by simp [hx])) h2, rfl⟩
  | [], _ :: _, _, _, _, _, h => h.elim
  | [], [], _ :: _, _, _, _, h => h.elim
  | _ :: _, [], _, _, _, _, h => h.elim
  | _ :: _, _ :: _, [], _, _, _, h => h.elim

/-- Behind a law that answers true and writes nothing that stood before. -/
theorem law_post {f : Func} {s : ChangeSpec} {W W' : World} {args : Array Value} {ds gs : List (DataW H)} {before : List MemPlace} {tb : TypeId} (hl : laidOutB P = true) (hts : ∀ t ∈ f.params.toList, P.readableRec t = true ∧ t < P.types.size)
    (hv : s.vars = []) (hr : f.resultTypes = #[tb]) (hb : P.underlying tb = some .bool) (hW : DataW.Whole enc P f.params.toList s.vars false W args.toList ds gs before) (hB : Below W.heap.size W W')
    (hs : s.fn H (ds ++ gs) = { results := [.lit (.bool true)], args := ds }) : s.post enc P f false true false false W args (.bool true) W' := by
  have hlt := hW.lt
  have hW0 := hW
  obtain ⟨p, q, hA, hV, rfl, hfz, hnd⟩ := hW
  rw [hv] at hV
  have hq : q = [] := by
    match gs, hV with
    | [], h => exact h
  subst hq
  refine ⟨ds, gs, p ++ [], [], p, [], hW0, ?_, ?_, ?_, hB.frame _, fun h => by simp at h⟩
  · rw [hr, hs]
    exact ⟨[], [], RowKit.shut_bool hb true, rfl, rfl⟩
  · rw [hs]
    exact Below.trodAll hl hB hts (fun x hx => hlt x (by simp [hx])) hA
  · rw [hv, hs]
    rfl

/-- The run on related arguments, from outside. -/
theorem law_calls {F : Nat → Option AEnt} {Hh : Hints} (hmix : P.follows .mixedOrders = true) (hT : Table P Hh F) {g : Nat} {W : World} {cargs : Array Value} {args : List Arg} (hp : Pts W G0 cargs (args.map Arg.val)) {h' : Heap}
    (c : Gives F g (args.map Arg.val) Heap.empty (.bool true) h') : Calls P g cargs W fun e W' => e = .returned (.bool true) ∧ Below W.heap.size W W' := by
  obtain ⟨n, hn⟩ := gives_run c
  refine (sound hmix hT hn W G0 cargs (hrel0 W) hp).mono ?_
  rintro e W' ⟨v, G', rfl, hX, hH, hV⟩
  cases hV with
  | bool =>
    refine ⟨rfl, hX.os, hX.tape, hX.out, hX.size, fun k hk => (hX.keep k hk ?_).1⟩
    rintro ⟨id, o, h1, _⟩
    rw [Heap.get_empty] at h1
    simp at h1

end Go.Abs
