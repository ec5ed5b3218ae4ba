/-
  Merged from AbsSound DkTab: The abstract machine is sound: what it computes, the model's run gives, in every world and on every tape.
-/
import Derived.Test.YtjofjgflcogklaaM01
import Derived.Scope
import Derived.Test.YtjofjgflcogklaaProg
import Derived.KernelRfl
/-
  The abstract machine is sound: what it computes, the model's run gives, in every world and on every tape.
-/
namespace Go.Abs
set_option linter.unusedSimpArgs false
set_option linter.unusedVariables false

theorem look_go : ∀ {l : List Nat} {t i k : Nat}, look.go l t k = some i → k ≤ i ∧ l[i - k]? = some t
  | [], t, i, k, h => by simp [look.go] at h
  | x :: l, t, i, k, h => by
    simp only [look.go] at h
    split at h
    · rename_i e; obtain rfl := Option.some.inj h; subst e; simp
    · obtain ⟨h1, h2⟩ := look_go h
      refine ⟨by omega, ?_⟩
      rw [show i - k = (i - (k + 1)) + 1 by omega, List.getElem?_cons_succ]; exact h2

theorem look_some {l : List Nat} {t i : Nat} (h : look l t = some i) : l[i]? = some t := by
  have := look_go h; simpa using this.2

theorem look_go_none : ∀ {l : List Nat} {t k : Nat}, look.go l t k = none → t ∉ l
  | [], t, k, _ => by simp
  | x :: l, t, k, h => by
    simp only [look.go] at h
    split at h
    · simp at h
    · rename_i e
      have := look_go_none h
      simp only [List.mem_cons, not_or]; exact ⟨fun q => e q.symm, this⟩

theorem lookT_go : ∀ {l : List Oper} {k t j i : Nat} {r : Option Nat}, lookT.go k t l i r = some j → (r = some j) ∨ (i ≤ j ∧ j < k ∧ ∃ o, l[j - i]? = some o ∧ o.dst = some t)
  | [], k, t, j, i, r, h => by simp [lookT.go] at h; exact .inl h
  | o :: l, k, t, j, i, r, h => by
    simp only [lookT.go] at h
    split at h
    · rename_i hik
      rcases lookT_go h with h' | ⟨h1, h2, o', h3, h4⟩
      · split at h'
        · rename_i hd
          obtain rfl := Option.some.inj h'
          exact .inr ⟨Nat.le_refl _, hik, o, by simp, hd⟩
        · exact .inl h'
      · refine .inr ⟨by omega, h2, o', ?_, h4⟩
        rw [show j - i = (j - (i + 1)) + 1 by omega, List.getElem?_cons_succ]; exact h3
    · exact .inl h

theorem lookT_some {ops : List Oper} {k t j : Nat} (h : lookT ops k t = some j) : j < k ∧ ∃ o, ops[j]? = some o ∧ o.dst = some t := by
  rcases lookT_go h with h' | ⟨_, h2, o, h3, h4⟩
  · simp at h'
  · exact ⟨h2, o, by simpa using h3, h4⟩

/-! ### frames -/

structure FRel (w : World) (G : Ghost) (tmps : Array Value) (slots : List Nat) (vs : List AVal) : Prop where
  len : vs.length = slots.length
  rel : ∀ (i s : Nat) (x : AVal), slots[i]? = some s → vs[i]? = some x → VRel w G (tmps.getD s undef) x

structure TRel (w : World) (G : Ghost) (tmps : Array Value) (slots : List Nat) (ops : List Oper) (ts : List AVal) : Prop where
  len : ts.length = ops.length
  rel : ∀ (k t : Nat) (o : Oper) (x : AVal), ops[k]? = some o → o.dst = some t → look slots t = none → ts[k]? = some x → VRel w G (tmps.getD t undef) x

theorem FRel.mono {w G h w' G' h'} (x : Ext w G h w' G' h') {tmps : Array Value} {slots : List Nat} {vs : List AVal} (r : FRel w G tmps slots vs) : FRel w' G' tmps slots vs := ⟨r.len, fun i s y h1 h2 => (r.rel i s y h1 h2).mono x⟩
theorem TRel.mono {w G h w' G' h'} (x : Ext w G h w' G' h') {tmps : Array Value} {slots : List Nat} {ops : List Oper} {ts : List AVal} (r : TRel w G tmps slots ops ts) : TRel w' G' tmps slots ops ts := ⟨r.len, fun i s o y h1 h2 h3 h4 => (r.rel i s o y h1 h2 h3 h4).mono x⟩

theorem operand_ok {w : World} {G : Ghost} {a : Act} {slots : List Nat} {ops : List Oper} {k : Nat} {vs ts : List AVal} (F : FRel w G a.tmps slots vs) (T : TRel w G a.tmps slots ops ts) : Ops a w G (compOpd slots ops k) (evOpd vs ts) := by
  intro x y e
  cases x with
  | tmp t =>
    simp only [compOpd] at e
    split at e
    · rename_i i hi
      obtain rfl := Option.some.inj e
      have hs := look_some hi
      obtain ⟨v, hv⟩ : ∃ v, vs[i]? = some v := ⟨_, List.getElem?_eq_getElem (by rw [F.len]; exact (List.getElem?_eq_some_iff.1 hs).1)⟩
      simp only [evOpd, hv, Option.getD_some]
      exact F.rel i t v hs hv
    · rename_i hn
      simp only [Option.map_eq_some_iff] at e
      obtain ⟨j, hj, rfl⟩ := e
      obtain ⟨_, o, ho, hd⟩ := lookT_some hj
      obtain ⟨v, hv⟩ : ∃ v, ts[j]? = some v := ⟨_, List.getElem?_eq_getElem (by rw [T.len]; exact (List.getElem?_eq_some_iff.1 ho).1)⟩
      simp only [evOpd, hv, Option.getD_some]
      exact T.rel j t o v ho hd hn hv
  | const v =>
    simp only [compOpd, Option.map_eq_some_iff] at e
    obtain ⟨z, hz, rfl⟩ := e
    exact constA_ok hz
  | func f =>
    simp only [compOpd, Option.some.injEq] at e
    subst e
    exact .fn f #[] [] rfl (by simp)
  | global g => simp [compOpd] at e

theorem fm_inj {α β : Type} {f : α → Option β} : ∀ {l : List α}, (l.filterMap f).Nodup → ∀ (i j : Nat) (x y : α) (b : β), l[i]? = some x → l[j]? = some y → f x = some b → f y = some b → i = j
  | [], _, i, j, x, y, b, hi, _, _, _ => by simp at hi
  | z :: l, hn, i, j, x, y, b, hi, hj, hx, hy => by
    cases i with
    | zero =>
      cases j with
      | zero => rfl
      | succ j =>
        simp at hi; subst hi
        simp only [List.filterMap_cons, hx, List.nodup_cons] at hn
        exact absurd (List.mem_filterMap.2 ⟨y, List.mem_of_getElem? (by simpa using hj), hy⟩) hn.1
    | succ i =>
      have hn' : (l.filterMap f).Nodup := by
        simp only [List.filterMap_cons] at hn
        split at hn
        · exact hn
        · exact (List.nodup_cons.1 hn).2
      cases j with
      | zero =>
        simp at hj; subst hj
        simp only [List.filterMap_cons, hy, List.nodup_cons] at hn
        exact absurd (List.mem_filterMap.2 ⟨x, List.mem_of_getElem? (by simpa using hi), hx⟩) hn.1
      | succ j => rw [fm_inj hn' i j x y b (by simpa using hi) (by simpa using hj) hx hy]

/-- The state of a region. -/
structure SRel (w : World) (G : Ghost) (a : Act) (nt : Nat) (slots : List Nat) (ops : List Oper) (s : St) : Prop where
  H : HRel w G s.h
  F : FRel w G a.tmps slots s.vs
  T : TRel w G a.tmps slots ops s.ts
  size : nt ≤ a.tmps.size

theorem getD_set {tmps : Array Value} {d t : Nat} {v : Value} (h : d < tmps.size) : (tmps.setIfInBounds d v).getD t undef = if d = t then v else tmps.getD t undef := by
  rw [Array.getD_eq_getD_getElem?, Array.getElem?_setIfInBounds, Array.getD_eq_getD_getElem?]
  split
  · rename_i e; subst e; simp [h]
  · rfl

theorem put_rel {w w' : World} {G G' : Ghost} {a : Act} {nt : Nat} {slots : List Nat} {ops : List Oper} {s : St} {h' : Heap} {k : Nat} {o : Oper} {v : Value} {r : AVal} (hnd : slots.Nodup) (hd : dstsOk nt slots ops = true) (ho : ops[k]? = some o)
    (S : SRel w G a nt slots ops s) (x : Ext w G s.h w' G' h') (H' : HRel w' G' h') (hv : VRel w' G' v r) : SRel w' G' (a.put o.dst v) nt slots ops (s.put k (compDst slots o.dst) r h') := by
  simp only [dstsOk, Bool.and_eq_true, List.all_eq_true, decide_eq_true_eq] at hd
  obtain ⟨hd1, hd2⟩ := hd
  have F' := S.F.mono x
  have T' := S.T.mono x
  cases hdst : o.dst with
  | none =>
    simp only [Act.put, compDst, St.put]
    exact ⟨H', F', T', S.size⟩
  | some t =>
    have hlt : t < nt := by have := hd1 o (List.mem_of_getElem? ho); rw [hdst] at this; simpa using this
    have hltS : t < a.tmps.size := Nat.lt_of_lt_of_le hlt S.size
    simp only [Act.put, compDst]
    cases hlk : look slots t with
    | some i =>
      have hs := look_some hlk
      simp only [St.put]
      refine ⟨H', ⟨by simp [F'.len], fun j s' y h1 h2 => ?_⟩, ⟨T'.len, fun j t' o' y h1 h2 h3 h4 => ?_⟩, by simp [S.size]⟩
      · rw [getD_set hltS]
        rw [List.getElem?_set] at h2
        by_cases hji : i = j
        · subst hji
          rw [hs] at h1; obtain rfl := Option.some.inj h1
          split at h2
          · split at h2
            · obtain rfl := Option.some.inj h2
              simpa using hv
            · simp at h2
          · rename_i hc; exact absurd rfl hc
        · rw [if_neg hji] at h2
          have hne : t ≠ s' := fun e => by
            subst e
            have h1' := (List.getElem?_eq_some_iff.1 hs)
            have h2' := (List.getElem?_eq_some_iff.1 h1)
            exact hji ((List.getElem_inj hnd).1 (h1'.2.trans h2'.2.symm))
          rw [if_neg hne]
          exact F'.rel j s' y h1 h2
      · rw [getD_set hltS]
        have hne : t ≠ t' := fun e => by subst e; rw [hlk] at h3; simp at h3
        rw [if_neg hne]
        exact T'.rel j t' o' y h1 h2 h3 h4
    | none =>
      simp only [St.put]
      refine ⟨H', ⟨F'.len, fun j s' y h1 h2 => ?_⟩, ⟨by simp [T'.len], fun j t' o' y h1 h2 h3 h4 => ?_⟩, by simp [S.size]⟩
      · rw [getD_set hltS]
        have hne : t ≠ s' := fun e => by
          subst e
          exact look_go_none hlk (List.mem_of_getElem? h1)
        rw [if_neg hne]
        exact F'.rel j s' y h1 h2
      · rw [getD_set hltS]
        rw [List.getElem?_set] at h4
        by_cases hjk : k = j
        · subst hjk
          rw [ho] at h1; obtain rfl := Option.some.inj h1
          rw [hdst] at h2; obtain rfl := Option.some.inj h2
          split at h4
          · split at h4
            · obtain rfl := Option.some.inj h4
              simpa using hv
            · simp at h4
          · rename_i hc; exact absurd rfl hc
        · rw [if_neg hjk] at h4
          have hne : t ≠ t' := fun e => by
            subst e
            exact hjk (fm_inj hd2 k j o o' t ho h1 (by simp [hdst, hlk]) (by simp [h2, hlk]))
          rw [if_neg hne]
          exact T'.rel j t' o' y h1 h2 h3 h4

/-! ### calls -/

/-- What a call of the model does, told by the abstract machine. -/
def CallRel (P : Program) (f : Nat) (args : List AVal) (h : Heap) (r : AVal) (h' : Heap) : Prop :=
  ∀ (w : World) (G : Ghost) (cargs : Array Value), HRel w G h → Pts w G cargs args → Calls P f cargs w (fun e w' => ∃ v G', e = .returned v ∧ Ext w G h w' G' h' ∧ HRel w' G' h' ∧ VRel w' G' v r)

variable {P : Program} {Hh : Hints} {F : Nat → Option AEnt}

/-- What is given by hand tells of the model's function. -/
def HandOk (P : Program) (g : Nat) (s : List AVal → Heap → Option (AVal × Heap)) : Prop :=
  (∀ args h r h', s args h = some (r, h') → CallRel P g args h r h') ∧ ∀ (args : Array Value) (w : World), (callFunc g args).run P w = .ok (.enter g args) w

/-- The table of functions is what the translation gives, or what is proved. -/
def EntOk (P : Program) (Hh : Hints) (g : Nat) : Option AEnt → Prop
  | none => True
  | some (.comp af) => compFunc P Hh g = some af ∧ Hh.grow g = false
  | some (.hand s) => HandOk P g s ∧ (Hh.grow g = true → ∀ args h r h', s args h = some (r, h') → TokExt h h')

def Table (P : Program) (Hh : Hints) (F : Nat → Option AEnt) : Prop := ∀ g, EntOk P Hh g (F g)

theorem Table.comp (hT : Table P Hh F) {g : Nat} {af : AFunc} (h : F g = some (.comp af)) : compFunc P Hh g = some af := by have := hT g; rw [h] at this; exact this.1
theorem Table.hand (hT : Table P Hh F) {g : Nat} {s} (h : F g = some (.hand s)) : HandOk P g s := by have := hT g; rw [h] at this; exact this.1

theorem compFunc_some {g : Nat} {af : AFunc} (h : compFunc P Hh g = some af) : ∃ fn c rs, P.funcs[g]? = some fn ∧ fn.body = some c ∧ (fn.name == "runtime.NumGoroutine") = false ∧ resTmps fn.results.toList = some rs ∧ optL (look af.slots) rs = some af.results ∧
    af.slots.Nodup ∧ (∀ s ∈ af.slots, s < fn.ntmps) ∧ af.body = compCode P Hh g fn.ntmps af.slots c := by
  unfold compFunc at h
  split at h
  · simp at h
  · rename_i fn hf
    split at h
    · rename_i c rs hb hr
      simp only at h
      split at h
      · rename_i ris hi
        split at h
        · rename_i hcond
          simp only [Bool.and_eq_true, Bool.not_eq_true', decide_eq_true_eq, List.all_eq_true] at hcond
          obtain rfl := Option.some.inj h
          exact ⟨fn, c, rs, hf, hb, hcond.1.1, hr, hi, hcond.1.2, hcond.2, rfl⟩
        · simp at h
      · simp at h
    · simp at h

theorem callFunc_enter {g : Nat} {af : AFunc} (h : compFunc P Hh g = some af) (args : Array Value) (w : World) : (callFunc g args).run P w = .ok (.enter g args) w := by
  obtain ⟨fn, c, rs, hf, hb, hn, _⟩ := compFunc_some h
  have hn' : fn.name ≠ "runtime.NumGoroutine" := by simpa using hn
  simp [callFunc, hf, hb, hn']

theorem scal_to {w : World} {G G2 : Ghost} {v : Value} {x : AVal} (r : VRel w G v x) : scal x = true → VRel w G2 v x := by
  have key : ∀ {asx : List AVal}, scalL asx = true → ∀ (k : Nat) (a : AVal), asx[k]? = some a → scal a = true := by
    intro asx
    induction asx with
    | nil => intro _ k a h; simp at h
    | cons x xs ih =>
      intro h k a hk
      simp only [scalL, Bool.and_eq_true] at h
      cases k with
      | zero => simp at hk; subst hk; exact h.1
      | succ k => exact ih h.2 k a (by simpa using hk)
  induction r with
  | bool b => intro _; exact .bool b
  | int k n => intro _; exact .int k n
  | str s => intro _; exact .str s
  | nilptr => intro _; exact .nilptr
  | ptr => intro h; simp [scal] at h
  | rp => intro h; simp [scal] at h
  | nilsl t ht => intro _; exact .nilsl t ht
  | emp a t ht => intro _; exact .emp a t ht
  | sl b off cap sz xs t u h0 h1 h2 h3 h4 h5 hc hn ho ih => intro h; simp [scal] at h; exact absurd h.2 hn.1
  | ref => intro h; simp [scal] at h
  | ref0 => intro h; simp [scal] at h
  | fn => intro h; simp [scal] at h
  | nilfn => intro _; exact .nilfn
  | nilif => intro _; exact .nilif
  | mp => intro h; simp [scal] at h
  | nilmp => intro _; exact .nilmp
  | agg cs asx hl _ h4 ih => intro h; simp only [scal] at h; exact .agg cs asx hl (fun k c a hc ha => ih k c a hc ha (key h k a ha)) h4
  | tup cs asx hl _ ih => intro h; simp only [scal] at h; exact .tup cs asx hl (fun k c a hc ha => ih k c a hc ha (key h k a ha))
  | bad v => intro h; simp [scal] at h

mutual
theorem refs_live (h : Heap) : ∀ (x : AVal) {y : AVal}, purify h x = some y → ∀ id ∈ refIds x, ∃ o, h.get id = some o
  | .bool _, _, _, id, hid => by simp [refIds] at hid
  | .int _ _, _, _, id, hid => by simp [refIds] at hid
  | .str _, _, _, id, hid => by simp [refIds] at hid
  | .sl _ _, _, _, id, hid => by simp [refIds] at hid
  | .nilptr, _, _, id, hid => by simp [refIds] at hid
  | .ptr _ _, _, _, id, hid => by simp [refIds] at hid
  | .rp _, _, _, id, hid => by simp [refIds] at hid
  | .ref j off len sz, y, e, id, hid => by
    simp only [refIds, List.mem_singleton] at hid
    subst hid
    simp only [purify, Option.map_eq_some_iff] at e
    obtain ⟨xs, hx, _⟩ := e
    unfold readRef at hx
    split at hx
    · rename_i hg; exact ⟨_, hg⟩
    · simp at hx
  | .fn f cap, y, e, id, hid => by
    simp only [purify, Option.map_eq_some_iff] at e
    obtain ⟨c, hc, _⟩ := e
    exact refsL_live h cap hc id (by simpa [refIds] using hid)
  | .nilfn, _, _, id, hid => by simp [refIds] at hid
  | .nilif, _, _, id, hid => by simp [refIds] at hid
  | .mp _, _, _, id, hid => by simp [refIds] at hid
  | .nilmp, _, _, id, hid => by simp [refIds] at hid
  | .agg cs, y, e, id, hid => by
    simp only [purify, Option.map_eq_some_iff] at e
    obtain ⟨c, hc, _⟩ := e
    exact refsL_live h cs hc id (by simpa [refIds] using hid)
  | .tup cs, y, e, id, hid => by
    simp only [purify, Option.map_eq_some_iff] at e
    obtain ⟨c, hc, _⟩ := e
    exact refsL_live h cs hc id (by simpa [refIds] using hid)
  | .bad, _, _, id, hid => by simp [refIds] at hid
theorem refsL_live (h : Heap) : ∀ (xs : List AVal) {ys : List AVal}, purifyL h xs = some ys → ∀ id ∈ refIdsL xs, ∃ o, h.get id = some o
  | [], _, _, id, hid => by simp [refIdsL] at hid
  | x :: xs, ys, e, id, hid => by
    simp only [purifyL] at e
    split at e
    · rename_i y ys' h1 h2
      simp only [refIdsL, List.mem_append] at hid
      exact hid.elim (refs_live h x h1 id) (refsL_live h xs h2 id)
    · simp at e
end

/-- A call on a heap of its own, seen from the caller. -/
theorem iso_call {g : Nat} {asx as0 : List AVal} {r r' : AVal} {h0 h : Heap} {w : World} {G : Ghost} {cargs : Array Value} (C : CallRel P g asx Heap.empty r h0) (H : HRel w G h) (hp : Pts w G cargs as0)
    (hcase : (stripL as0 = some asx ∧ purify h0 r = some r') ∨ (purifyL h as0 = some asx ∧ scal r = true ∧ r' = r)) :
    Calls P g cargs w (fun e w' => ∃ v G', e = .returned v ∧ Ext w G h w' G' h ∧ HRel w' G' h ∧ VRel w' G' v r') := by
  have hempty : ∀ id o, Heap.empty.get id = some o → False := fun id o e => by rw [Heap.get_empty] at e; simp at e
  have hno : ∀ (G0 : Ghost) b, ¬ owned G0 Heap.empty b := fun G0 b ⟨id, o, e, _⟩ => hempty id o e
  have hH0 : ∀ G0 : Ghost, G0.n = 0 → HRel w G0 Heap.empty := fun G0 hn => ⟨hn, fun id o e => (hempty id o e).elim, fun id o e => (hempty id o e).elim, fun i j oi oj e => (hempty i oi e).elim⟩
  have out : ∀ {w' : World} {G0 G1 : Ghost}, Ext w G0 Heap.empty w' G1 h0 → ∃ G' : Ghost, G' = { G with lim := fun b => if b < w.heap.size then G.lim b else none } ∧ Ext w G h w' G' h ∧ HRel w' G' h := by
    intro w' G0 G1 hX
    have hkeep : ∀ b, b < w.heap.size → w'.heap[b]? = w.heap[b]? := fun b hb => (hX.keep b hb (hno G0 b)).1
    have hE : Ext w G h w' { G with lim := fun b => if b < w.heap.size then G.lim b else none } h := ⟨hX.os, hX.tape, hX.out, hX.size, fun b hb _ => ⟨hkeep b hb, by simp [hb]⟩, fun b k hb hst => ⟨by simp [World.cell?, hkeep b hb], fun m hm => by simp [hb] at hm; exact hst m hm⟩, fun b hb => by simp [World.shape?, hkeep b hb], Nat.le_refl _, fun _ _ => ⟨rfl, rfl⟩, fun b hb ho => ho⟩
    exact ⟨_, rfl, hE, ⟨H.n_eq, fun id o e => Nat.lt_of_lt_of_le (H.lt id o e) hX.size, fun id o e => OkObj.mono hE (by rw [H.n_eq]; exact Heap.get_lt e) (H.lt id o e) (hkeep _ (H.lt id o e)) (by simp [H.lt id o e]) (H.obj id o e), H.inj⟩⟩
  rcases hcase with ⟨hs, hpur⟩ | ⟨hs, hsc, rfl⟩
  · have hk := stripL_ok hs
    have hp0 : Pts w { G with n := 0 } cargs asx := ⟨by rw [hp.len, hk.1], fun k c a hc ha => by
      obtain ⟨x, hx, hx'⟩ := back_get hk ha
      exact VRel.strip_to (G := G) (G2 := { G with n := 0 }) (fun _ _ h => h) (hp.rel k c x hc hx) hx'⟩
    refine (C w { G with n := 0 } cargs (hH0 _ rfl) hp0).mono fun e w' ⟨v, G1, he, hX, H1, hv⟩ => ?_
    obtain ⟨G', hG', hE, hH⟩ := out hX
    refine ⟨v, G', he, hE, hH, hv.purify_to H1 (fun b k hst => ?_) (fun id hid k => ?_) hpur⟩
    · subst hG'
      by_cases hb : b < w.heap.size
      · have hl := (hX.keep b hb (hno _ b)).2
        intro m hm
        simp [hb] at hm
        exact hst m (by rw [hl]; exact hm)
      · intro m hm; simp [hb] at hm
    · subst hG'
      by_cases hb : G1.loc id < w.heap.size
      · obtain ⟨o, ho⟩ := refs_live h0 r hpur id hid
        exact absurd (hX.fresh _ hb ⟨id, o, ho, rfl⟩) (hno _ _)
      · intro m hm; simp [hb] at hm
  · have hk := purifyL_ok hs
    have hp0 : Pts w { G with n := 0, lim := fun _ => none } cargs asx := ⟨by rw [hp.len, hk.1], fun k c a hc ha => by
      obtain ⟨x, hx, hx'⟩ := back_get hk ha
      exact VRel.purify_to (G := G) (G2 := { G with n := 0, lim := fun _ => none }) H (fun _ _ _ m hm => by simp at hm) (hp.rel k c x hc hx) (fun _ _ _ m hm => by simp at hm) hx'⟩
    refine (C w _ cargs (hH0 _ rfl) hp0).mono fun e w' ⟨v, G1, he, hX, H1, hv⟩ => ?_
    obtain ⟨G', hG', hE, hH⟩ := out hX
    exact ⟨v, G', he, hE, hH, scal_to hv hsc⟩

/-- The translation's operations, place by place. -/
theorem compOpers_get {slots : List Nat} {ops : List Oper} {fid : Nat} : ∀ {l : List Oper} {k : Nat} {asx : List AOper}, compOpers P Hh fid slots ops l k = some asx → asx.length = l.length ∧ ∀ j o, l[j]? = some o → ∃ a, asx[j]? = some a ∧ compOper P Hh fid slots ops (k + j) o = some a
  | [], k, asx, h => by simp [compOpers] at h; subst h; simp
  | o :: l, k, asx, h => by
    simp only [compOpers] at h
    split at h
    · rename_i a as' h1 h2
      obtain rfl := Option.some.inj h
      obtain ⟨e1, e2⟩ := compOpers_get h2
      refine ⟨by simp [e1], fun j o' hj => ?_⟩
      cases j with
      | zero => simp at hj; subst hj; exact ⟨a, by simp, by simpa using h1⟩
      | succ j =>
        obtain ⟨a', q1, q2⟩ := e2 j o' (by simpa using hj)
        exact ⟨a', by simpa using q1, by rw [show k + (j + 1) = k + 1 + j by omega]; exact q2⟩
    · simp at h

/-- The function that runs the calls of a region is sound. -/
def CfOk (P : Program) (Hh : Hints) (cf : CallF) : Prop := ∀ g args h r h', cf g args h = some (r, h') → CallRel P g args h r h' ∧ (∀ (cargs : Array Value) (w : World), (callFunc g cargs).run P w = .ok (.enter g cargs) w) ∧ (Hh.grow g = true → TokExt h h')

theorem pts_append {w : World} {G : Ghost} {a b : Array Value} {x y : List AVal} (h1 : Pts w G a x) (h2 : Pts w G b y) : Pts w G (a ++ b) (x ++ y) := by
  refine ⟨by simp [h1.len, h2.len], fun k c z hc hz => ?_⟩
  by_cases hk : k < a.size
  · rw [Array.getElem?_append_left hk] at hc
    rw [List.getElem?_append_left (by rw [← h1.len]; exact hk)] at hz
    exact h1.rel k c z hc hz
  · rw [Array.getElem?_append_right (by omega)] at hc
    rw [List.getElem?_append_right (by rw [← h1.len]; omega), ← h1.len] at hz
    exact h2.rel _ c z hc hz

/-- One step of a region. -/
theorem step_ok {cf : CallF} (hcf : CfOk P Hh cf) {fid nt : Nat} {slots : List Nat} {ops : Array Oper} {k : Nat} {o : Oper} {ao : AOper} (hnd : slots.Nodup) (hd : dstsOk nt slots ops.toList = true) (ho : ops[k]? = some o) (hcomp : compOper P Hh fid slots ops.toList k o = some ao)
    {a : Act} {w : World} {G : Ghost} {s s' : St} (S : SRel w G a nt slots ops.toList s) (e : stepA cf ao k s = some s') {next : Act → World → Prop} {Q : Exit → Act → World → Prop}
    (hK : ∀ a' w' G', Ext w G s.h w' G' s'.h → SRel w' G' a' nt slots ops.toList s' → a'.defers = a.defers → next a' w') :
    if Region.wanted o (yielded ops a.tmps) then o.wp P a w next Q ∨ (o.asks P a w ∧ LetsOut Q) else next (a.put o.dst undef) w := by
  have hops : Ops a w G (compOpd slots ops.toList k) (evOpd s.vs s.ts) := operand_ok S.F S.T
  have hol : ops.toList[k]? = some o := by simpa using ho
  unfold compOper at hcomp
  split at hcomp
  · rename_i aop g hop hg
    obtain rfl := Option.some.inj hcomp
    -- the guard
    have hwant : ∀ b, wantA (evOpd s.vs s.ts) g = some b → Region.wanted o (yielded ops a.tmps) = b := by
      intro b hb
      cases hgd : o.guard with
      | none =>
        rw [hgd] at hg
        simp [compGuard] at hg; subst hg
        simp [wantA] at hb; subst hb
        simp [Region.wanted, hgd]
      | some p =>
        obtain ⟨j, want⟩ := p
        rw [hgd] at hg
        simp only [compGuard] at hg
        split at hg
        · rename_i oj hoj
          split at hg
          · rename_i t ht
            split at hg
            · rename_i hjk
              have hoj' : ops[j]? = some oj := by simpa using hoj
              have hlt : t < a.tmps.size := by
                simp only [dstsOk, Bool.and_eq_true, List.all_eq_true] at hd
                have := hd.1 oj (List.mem_of_getElem? hoj)
                rw [ht] at this; exact Nat.lt_of_lt_of_le (by simpa using this) S.size
              have hy : yielded ops a.tmps j = match (a.tmps.getD t undef) with | .bool b => some b | _ => none := by
                simp only [yielded, hoj', Option.bind_some, ht]
                rw [Array.getD_eq_getD_getElem?, Array.getElem?_eq_getElem hlt]
                simp only [Option.getD_some]
                cases a.tmps[t] <;> rfl
              have hval : ∃ x, g = some (x, want) ∧ VRel w G (a.tmps.getD t undef) (evOpd s.vs s.ts x) := by
                split at hg
                · rename_i i hi
                  simp at hg; subst hg
                  refine ⟨.v i, rfl, ?_⟩
                  have hs := look_some hi
                  obtain ⟨v, hv⟩ : ∃ v, s.vs[i]? = some v := ⟨_, List.getElem?_eq_getElem (by rw [S.F.len]; exact (List.getElem?_eq_some_iff.1 hs).1)⟩
                  simp only [evOpd, hv, Option.getD_some]
                  exact S.F.rel i t v hs hv
                · rename_i hn
                  simp at hg; subst hg
                  refine ⟨.t j, rfl, ?_⟩
                  obtain ⟨v, hv⟩ : ∃ v, s.ts[j]? = some v := ⟨_, List.getElem?_eq_getElem (by rw [S.T.len]; exact (List.getElem?_eq_some_iff.1 hoj).1)⟩
                  simp only [evOpd, hv, Option.getD_some]
                  exact S.T.rel j t oj v hoj ht hn hv
              obtain ⟨x, rfl, hx⟩ := hval
              simp only [wantA] at hb
              simp only [Region.wanted, hgd, hy]
              split at hb
              · rename_i c hc
                rw [hc] at hx
                obtain rfl := Option.some.inj hb
                generalize a.tmps.getD t undef = vv at hx
                cases hx
                simp
              · rename_i hc
                rw [hc] at hx
                obtain rfl := Option.some.inj hb
                generalize a.tmps.getD t undef = vv at hx
                cases hx
                simp
              · simp at hb
            · simp at hg
          · simp at hg
        · simp at hg
    unfold stepA at e
    simp only at e
    split at e
    · simp at e
    · rename_i hw
      rw [hwant _ hw]
      obtain rfl := Option.some.inj e
      simp only [Bool.false_eq_true, if_false]
      exact hK _ w G (by cases compDst slots o.dst <;> exact Ext.refl _ _ _) (put_rel hnd hd hol S (Ext.refl _ _ _) S.H (.tup #[] [] rfl (by simp))) (by cases o.dst <;> rfl)
    · rename_i hw
      rw [hwant _ hw]
      simp only [if_true]
      left
      split at e
      · rename_i r h' hex
        obtain rfl := Option.some.inj e
        have fin : ∀ {v : Value} {w' : World} {G' : Ghost}, Ext w G s.h w' G' h' → HRel w' G' h' → VRel w' G' v r → next (a.put o.dst v) w' := fun hX hH hv =>
          hK _ _ _ (by cases compDst slots o.dst <;> exact hX) (put_rel hnd hd hol S hX hH hv) (by cases o.dst <;> rfl)
        cases hic : isCall aop with
        | false =>
          have hev : evalA aop (evOpd s.vs s.ts) s.h = some (r, h') := by
            cases aop <;> first
              | exact hex
              | (simp [isCall] at hic)
          obtain ⟨v, w', G', hr, hX, hH, hv⟩ := op_ok S.H hops hop hic hev
          unfold Oper.wp
          rcases hr with hr | ⟨hr, rfl⟩
          · rw [hr, Oper.upon_value]; exact fin hX hH hv
          · rw [hr, Oper.upon_skip]; exact fin hX hH hv
        | true =>
          obtain ⟨f, args, asx, ts, hcall, has, hkind⟩ := call_of_comp hop hic
          obtain ⟨p1, p2⟩ := opds_ok hops has
          have hpts : Pts w G (args.map a.eval) (asx.map (evOpd s.vs s.ts)) := ⟨by simpa using p1, fun k c x hc hx => p2 k c x (by simpa using hc) hx⟩
          have done : ∀ {g : Nat} {cargs : Array Value}, (execOp a.eval o).run P w = .ok (.enter g cargs) w → Calls P g cargs w (fun e w' => ∃ v G', e = .returned v ∧ Ext w G s.h w' G' h' ∧ HRel w' G' h' ∧ VRel w' G' v r) → o.wp P a w next Q := by
            intro g cargs hr hC
            unfold Oper.wp
            rw [hr, Oper.upon_enter]
            refine hC.mono fun e w' ⟨v, G', he, hX, hH, hv⟩ => ?_
            subst he
            exact fin hX hH hv
          rcases hkind with ⟨g, rfl, rfl⟩ | ⟨f', hf', rfl⟩
          · simp only [execA] at hex
            have hrun : ∀ {as' r0 h0}, cf g as' Heap.empty = some (r0, h0) → (execOp a.eval o).run P w = .ok (.enter g (args.map a.eval)) w := fun hc => by
              have := (hcf g _ _ _ _ hc).2.1 (args.map a.eval) w
              simp [execOp, hcall, resolve, Act.eval, Deferred.ofValue, invoke, this]
            split at hex
            · rename_i as' hs
              split at hex
              · rename_i r0 h0 hc
                simp only [Option.map_eq_some_iff, Prod.mk.injEq] at hex
                obtain ⟨x, hpur, rfl, rfl⟩ := hex
                exact done (hrun hc) (iso_call (hcf g _ _ _ _ hc).1 S.H hpts (.inl ⟨hs, hpur⟩))
              · simp at hex
            · split at hex
              · rename_i as' hs
                split at hex
                · rename_i r0 h0 hc
                  split at hex
                  · rename_i hsc
                    simp at hex; obtain ⟨rfl, rfl⟩ := hex
                    exact done (hrun hc) (iso_call (hcf g _ _ _ _ hc).1 S.H hpts (.inr ⟨hs, hsc, rfl⟩))
                  · simp at hex
                · simp at hex
              · simp at hex
          · simp only [execA] at hex
            split at hex
            · rename_i g cap hfn
              have hfv : VRel w G (a.eval f) (evOpd s.vs s.ts f') := by
                rcases hf' with hf' | ⟨g', rfl, rfl⟩
                · exact hops _ _ hf'
                · exact .fn g' #[] [] rfl (by simp)
              rw [hfn] at hfv
              generalize hfe : a.eval f = fv at hfv
              cases hfv with
              | fn _ cs _ hl hr =>
                have hrun := (hcf g _ _ _ _ hex).2.1 (args.map a.eval ++ cs) w
                refine done (g := g) (cargs := args.map a.eval ++ cs) ?_ ((hcf g _ _ _ _ hex).1 w G _ S.H (pts_append hpts ⟨hl, hr⟩))
                simp [execOp, hcall, resolve, hfe, Deferred.ofValue, invoke, hrun]
            · simp at hex
      · simp at e
  · simp at hcomp

/-- A list of steps. -/
theorem fold_ok {cf : CallF} (hcf : CfOk P Hh cf) {fid nt : Nat} {slots : List Nat} {ops : Array Oper} {asx : List AOper} (hnd : slots.Nodup) (hd : dstsOk nt slots ops.toList = true) (hcomp : compOpers P Hh fid slots ops.toList ops.toList 0 = some asx) {Q : Exit → Act → World → Prop} :
    ∀ (l : List Nat) {a : Act} {w : World} {G : Ghost} {s s' : St}, SRel w G a nt slots ops.toList s → foldI cf asx l s = some s' →
      (∀ a' w' G', Ext w G s.h w' G' s'.h → SRel w' G' a' nt slots ops.toList s' → a'.defers = a.defers → Q .normal a' w') → wpOps P ops Q l a w
  | [], a, w, G, s, s', S, e, hQ => by
    simp only [foldI, Option.some.injEq] at e; subst e
    exact hQ a w G (Ext.refl _ _ _) S rfl
  | k :: l, a, w, G, s, s', S, e, hQ => by
    simp only [foldI] at e
    split at e
    · rename_i ao hao
      split at e
      · rename_i s1 hs1
        obtain ⟨e1, e2⟩ := compOpers_get hcomp
        obtain ⟨o, ho⟩ : ∃ o, ops.toList[k]? = some o := ⟨_, List.getElem?_eq_getElem (by rw [← e1]; exact (List.getElem?_eq_some_iff.1 hao).1)⟩
        obtain ⟨ao', h1, h2⟩ := e2 k o ho
        rw [hao] at h1; obtain rfl := Option.some.inj h1
        rw [Nat.zero_add] at h2
        have ho' : ops[k]? = some o := by simpa using ho
        simp only [wpOps, ho']
        exact step_ok hcf hnd hd ho' h2 S hs1 fun a' w' G' hX S' hdf =>
          fold_ok hcf hnd hd hcomp l S' e fun a2 w2 G2 hX2 S2 hdf2 => hQ a2 w2 G2 (hX.trans hX2) S2 (hdf2.trans hdf)
      · simp at e
    · simp at e

/-! ### code and calls -/

def exitOf : AExit → Exit
  | .normal => .normal
  | .exit id => .exit id
  | .ret => .ret

/-- The state between regions. -/
structure CRel (w : World) (G : Ghost) (a : Act) (nt : Nat) (slots : List Nat) (vs : List AVal) (h : Heap) : Prop where
  H : HRel w G h
  F : FRel w G a.tmps slots vs
  size : nt ≤ a.tmps.size

theorem compCode_region {fid nt : Nat} {slots : List Nat} {id : Nat} {ops : Array Oper} {draw : Bool} {l : List AOper} (h : compCode P Hh fid nt slots (.region id ops draw) = .ops l) :
    ∃ asx, compOpers P Hh fid slots ops.toList ops.toList 0 = some asx ∧ dstsOk nt slots ops.toList = true ∧ ((l = asx ∧ (draw = true → drawOk Hh ops.toList asx = true)) ∨
      (draw = true ∧ ∃ ord, drawOkO Hh ops.toList asx ord = true ∧ renOpers ord asx ord = some l)) := by
  simp only [compCode] at h
  split at h
  · rename_i l' hl
    split at h
    · rename_i hd
      split at h
      · rename_i hc
        simp only [ACode.ops.injEq] at h
        subst h
        simp only [Bool.or_eq_true, Bool.not_eq_true'] at hc
        exact ⟨_, hl, hd, .inl ⟨rfl, fun hdr => hc.resolve_left (by rw [hdr]; simp)⟩⟩
      · rename_i hc
        have hdr : draw = true := by cases draw <;> simp at hc <;> rfl
        split at h
        · rename_i ho
          split at h
          · rename_i r hr
            simp only [ACode.ops.injEq] at h
            subst h
            exact ⟨_, hl, hd, .inr ⟨hdr, _, ho, hr⟩⟩
          · simp at h
        · simp at h
    · simp at h
  · simp at h

theorem results_ok {w : World} {G : Ghost} {slots : List Nat} {vs : List AVal} {tmps : Array Value} (Fr : FRel w G tmps slots vs) {fn : Func} {rs ris : List Nat} (h1 : resTmps fn.results.toList = some rs) (h2 : optL (look slots) rs = some ris) :
    ∃ v, (results fn tmps).run P w = .ok v w ∧ VRel w G v (resultsA ris vs) := by
  have key : ∀ {f : ResultVar → Sem Value}, (∀ t, f (.tmp t) = pure (tmps.getD t undef)) → ∀ {l : List ResultVar} {rs ris : List Nat}, resTmps l = some rs → optL (look slots) rs = some ris → ∃ vals : List Value, (l.mapM (m := Sem) f).run P w = .ok vals w ∧ vals.length = ris.length ∧ ∀ (k : Nat) (v : Value) (i : Nat), vals[k]? = some v → ris[k]? = some i → VRel w G v ((vs[i]?).getD .bad) := by
    intro f hf l
    induction l with
    | nil => intro rs ris h1 h2; simp [resTmps] at h1; subst h1; simp [optL] at h2; subst h2; exact ⟨[], by simp, rfl, by simp⟩
    | cons x l ih =>
      intro rs ris h1 h2
      cases x with
      | cell a t => simp [resTmps] at h1
      | tmp t =>
        simp only [resTmps, Option.map_eq_some_iff] at h1
        obtain ⟨rs', h1, rfl⟩ := h1
        simp only [optL] at h2
        split at h2
        · rename_i i is hi his
          obtain rfl := Option.some.inj h2
          obtain ⟨vals, q1, q2, q3⟩ := ih h1 his
          refine ⟨tmps.getD t undef :: vals, by simp [List.mapM_cons, hf, q1], by simp [q2], fun k v j hv hj => ?_⟩
          cases k with
          | zero =>
            simp at hv hj; subst hv; subst hj
            have hs := look_some hi
            obtain ⟨x, hx⟩ : ∃ x, vs[i]? = some x := ⟨_, List.getElem?_eq_getElem (by rw [Fr.len]; exact (List.getElem?_eq_some_iff.1 hs).1)⟩
            simp only [hx, Option.getD_some]
            have := Fr.rel i t x hs hx
            rwa [Array.getD_eq_getD_getElem?] at this
          | succ k => exact q3 k v j (by simpa using hv) (by simpa using hj)
        · simp at h2
  have hres : ∃ vals : List Value, (results fn tmps).run P w = .ok (if h : vals.toArray.size = 1 then vals.toArray[0] else .tuple vals.toArray) w ∧ vals.length = ris.length ∧ ∀ (k : Nat) (v : Value) (i : Nat), vals[k]? = some v → ris[k]? = some i → VRel w G v ((vs[i]?).getD .bad) := by
    unfold results
    simp only [Sem.run_bind]
    rw [Array.mapM_eq_mapM_toList]
    obtain ⟨vals, q1, q2, q3⟩ := key (f := fun x => match x with
      | .tmp t => pure (tmps.getD t undef)
      | .cell a t => do loadVar t (← asAddr (tmps.getD a undef))) (fun t => rfl) h1 h2
    refine ⟨vals, ?_, q2, q3⟩
    simp only [Sem.run_map]
    have q1' := q1
    erw [q1']
    simp only [Result.andThen_ok, Sem.run_pure]
  obtain ⟨vals, hrun, q2, q3⟩ := hres
  refine ⟨_, hrun, ?_⟩
  cases hr : ris with
  | nil =>
    rw [hr] at q2
    have : vals = [] := List.eq_nil_of_length_eq_zero q2
    subst this
    simp [resultsA]
    exact .tup #[] [] rfl (by simp)
  | cons i is =>
    cases his : is with
    | nil =>
      rw [hr, his] at q2 q3
      obtain ⟨v, rfl⟩ : ∃ v, vals = [v] := by
        match vals, q2 with
        | [v], _ => exact ⟨v, rfl⟩
      simp only [resultsA]
      simpa using q3 0 v i rfl rfl
    | cons j js =>
      rw [hr, his] at q2 q3
      have hne : ¬ (vals.toArray.size = 1) := by simp [q2]
      rw [dif_neg hne]
      simp only [resultsA]
      refine .tup _ _ (by simp [q2]) (fun k c x hc hx => ?_)
      simp only [List.getElem?_map, Option.map_eq_some_iff] at hx
      obtain ⟨i', hi', rfl⟩ := hx
      exact q3 k c i' (by simpa using hc) hi'

def CodeOk (P : Program) (Hh : Hints) (F : Nat → Option AEnt) (n : Nat) : Prop :=
  ∀ (fid nt : Nat) (slots : List Nat) (c : Code) (vs : List AVal) (h : Heap) (e : AExit) (vs' : List AVal) (h' : Heap) (a : Act) (w : World) (G : Ghost) (Q : Exit → Act → World → Prop), slots.Nodup →
    run F n (.code (compCode P Hh fid nt slots c) vs h) = some (.code e vs' h') → CRel w G a nt slots vs h →
    (∀ a' w' G', Ext w G h w' G' h' → CRel w' G' a' nt slots vs' h' → a'.defers = a.defers → Q (exitOf e) a' w') → c.wp P Q a w

def CallOk (P : Program) (F : Nat → Option AEnt) (n : Nat) : Prop := ∀ g args h r h', run F n (.call g args h) = some (.val r h') → CallRel P g args h r h'

theorem call_step (hT : Table P Hh F) {n : Nat} (ih : CodeOk P Hh F n) : CallOk P F (n + 1) := by
  intro g args h r h' e w G cargs H hp
  simp only [run] at e
  split at e
  · simp at e
  · rename_i s hs
    simp only [Option.map_eq_some_iff, Res.val.injEq] at e
    obtain ⟨p, hp', rfl, rfl⟩ := e
    exact (hT.hand hs).1 args h p.1 p.2 hp' w G cargs H hp
  · rename_i af haf
    obtain ⟨fn, c, rs, hf, hb, hn, hres, hris, hnd, hlt, hbody⟩ := compFunc_some (hT.comp haf)
    rw [hbody] at e
    refine calls_of_wp hf hb ?_
    have hget : ∀ s, (cargs ++ Array.replicate (fn.ntmps - cargs.size) undef).getD s undef = (cargs[s]?).getD undef := by
      intro s
      rw [Array.getD_eq_getD_getElem?]
      by_cases hs : s < cargs.size
      · rw [Array.getElem?_append_left hs]
      · rw [Array.getElem?_append_right (by omega : cargs.size ≤ s), Array.getElem?_replicate, Array.getElem?_eq_none (by omega : cargs.size ≤ s)]
        split <;> rfl
    have S0 : CRel w G { tmps := cargs ++ Array.replicate (fn.ntmps - cargs.size) undef, defers := [] } fn.ntmps af.slots (af.slots.map fun s => (args[s]?).getD (.tup [])) h := by
      refine ⟨H, ⟨by simp, fun i s x h1 h2 => ?_⟩, by simp; omega⟩
      simp only [List.getElem?_map, h1, Option.map_some, Option.some.injEq] at h2
      subst h2
      rw [hget]
      by_cases hs : s < cargs.size
      · obtain ⟨x, hx⟩ : ∃ x, args[s]? = some x := ⟨_, List.getElem?_eq_getElem (by rw [← hp.len]; exact hs)⟩
        rw [hx, Array.getElem?_eq_getElem hs]
        exact hp.rel s _ x (Array.getElem?_eq_getElem hs) hx
      · rw [Array.getElem?_eq_none (by omega), List.getElem?_eq_none (by rw [← hp.len]; omega)]
        exact .tup #[] [] rfl (by simp)
    have fin : ∀ {vs : List AVal} {a' : Act} {w' : World} {G' : Ghost}, Ext w G h w' G' h' → CRel w' G' a' fn.ntmps af.slots vs h' → a'.defers = [] → r = resultsA af.results vs →
        a'.defers = [] ∧ ∃ v, (results fn a'.tmps).run P w' = .ok v w' ∧ (∃ v0 G', Ending.returned v = .returned v0 ∧ Ext w G h w' G' h' ∧ HRel w' G' h' ∧ VRel w' G' v0 r) := by
      intro vs a' w' G' hX hS hd hr
      obtain ⟨v, h1, h2⟩ := results_ok (P := P) hS.F hres hris
      exact ⟨hd, v, h1, v, G', rfl, hX, hS.H, by rw [hr]; exact h2⟩
    split at e
    · rename_i vs h1 hrun
      simp only [Option.some.injEq, Res.val.injEq] at e
      obtain ⟨rfl, rfl⟩ := e
      exact ih g fn.ntmps af.slots c _ h .normal vs h1 _ w G _ hnd hrun S0 (fun a' w' G' hX hS hd => fin hX hS hd rfl)
    · rename_i vs h1 hrun
      simp only [Option.some.injEq, Res.val.injEq] at e
      obtain ⟨rfl, rfl⟩ := e
      exact ih g fn.ntmps af.slots c _ h .ret vs h1 _ w G _ hnd hrun S0 (fun a' w' G' hX hS hd => fin hX hS hd rfl)
    · simp at e

theorem wp_loop_ind {c : Code} {Q : Exit → Act → World → Prop} {a : Act} {w : World} (J : Nat → Act → World → Prop) {m : Nat} (h0 : J m a w)
    (round : ∀ m a w, J m a w → c.wp P (Exit.then (fun a' w' => ∃ m', m' < m ∧ J m' a' w') Q) a w) : (Code.loop c).wp P Q a w := by
  intro b k cs
  have key : ∀ m a w, J m a w → ∃ e a' w', Q e a' w' ∧ Arrives P (lone (b.at a (.code c :: .inLoop c :: k)) cs w) b k cs e a' w' := by
    intro m
    induction m using Nat.strongRecOn with
    | _ m ih =>
      intro a w hJ
      obtain ⟨e, a1, w1, hq, harr⟩ := round m a w hJ b (.inLoop c :: k) cs
      cases e with
      | normal =>
        obtain ⟨m', hlt, hJ'⟩ := hq
        obtain ⟨e2, a2, w2, hq2, harr2⟩ := ih m' hlt a1 w1 hJ'
        exact ⟨e2, a2, w2, hq2, .of_steps (Steps.trans harr (.one step_inLoop)) harr2⟩
      | exit id => exact ⟨_, a1, w1, hq, .pass (x := .inLoop c) rfl (fun _ _ => .inl (by simp)) harr⟩
      | goto l => exact ⟨_, a1, w1, hq, .pass (x := .inLoop c) rfl (fun _ _ => .inl (by simp)) harr⟩
      | ret => exact ⟨_, a1, w1, hq, .pass (x := .inLoop c) rfl (fun _ _ => .inl (by simp)) harr⟩
      | panic ch => exact ⟨_, a1, w1, hq, .pass (x := .inLoop c) rfl (fun _ _ => .inl (by simp)) harr⟩
      | outgrown => exact ⟨_, a1, w1, hq, .pass (x := .inLoop c) rfl (fun _ _ => .inl (by simp)) harr⟩
  obtain ⟨e, a', w', hq, harr⟩ := key m a w h0
  exact ⟨e, a', w', hq, .of_steps (.one step_loop) harr⟩

theorem CRel.mono_refl {w : World} {G : Ghost} {a : Act} {nt : Nat} {slots : List Nat} {vs : List AVal} {h : Heap} (S : CRel w G a nt slots vs h) : CRel w.drew G a nt slots vs h :=
  ⟨HRel.of_heap (w := w) ⟨rfl, rfl, rfl, rfl⟩ S.H, S.F.mono (Ext.of_heap (w := w) (w' := w.drew) (h := h) ⟨rfl, rfl, rfl, rfl⟩), S.size⟩

theorem region_ok (hmix : P.follows .mixedOrders = true) {cf : CallF} (hcf : CfOk P Hh cf) {fid nt : Nat} {slots : List Nat} (hnd : slots.Nodup) {id : Nat} {ops : Array Oper} {draw : Bool} {l : List AOper} (hc : compCode P Hh fid nt slots (.region id ops draw) = .ops l)
    {vs : List AVal} {h : Heap} {s' : St} {a : Act} {w : World} {G : Ghost} {Q : Exit → Act → World → Prop} (S : CRel w G a nt slots vs h) (e : foldA cf l 0 ⟨vs, List.replicate l.length .bad, h⟩ = some s')
    (hQ : ∀ a' w' G', Ext w G h w' G' s'.h → CRel w' G' a' nt slots s'.vs s'.h → a'.defers = a.defers → Q .normal a' w') : (Code.region id ops draw).wp P Q a w := by
  obtain ⟨asx, c1, c2, c3⟩ := compCode_region hc
  have hl : asx.length = ops.size := by have := (compOpers_get c1).1; simpa using this
  have hgr : ∀ g args h r h', Hh.grow g = true → cf g args h = some (r, h') → TokExt h h' := fun g args h r h' hg e => (hcf g args h r h' e).2.2 hg
  have mkS : ∀ {w0 : World}, CRel w0 G a nt slots vs h → SRel w0 G a nt slots ops.toList ⟨vs, List.replicate asx.length .bad, h⟩ := fun S => ⟨S.H, S.F, ⟨by simp [hl], fun k t o x h1 h2 h3 h4 => by
    simp only [List.getElem?_replicate] at h4
    split at h4
    · simp at h4; subst h4; exact .bad _
    · simp at h4⟩, S.size⟩
  rcases c3 with ⟨rfl, c3⟩ | ⟨rfl, ord, ho, hren⟩
  · rw [foldA_eq cf l l 0 _ (fun j => by simp)] at e
    cases draw with
    | false =>
      refine wp_region ?_
      rw [List.range_eq_range']
      rw [hl] at e
      exact fold_ok hcf hnd c2 c1 _ (mkS S) (by rw [hl]; exact e) fun a' w' G' hX S' hd => hQ a' w' G' hX ⟨S'.H, S'.F, S'.size⟩ hd
    | true =>
      refine wp_region_draw fun t => ?_
      rw [hmix]
      exact fold_ok hcf hnd c2 c1 _ (mkS S.mono_refl) (draw_ok hgr hl (c3 rfl) e t) fun a' w' G' hX S' hd => hQ a' w' G' hX.drew ⟨S'.H, S'.F, S'.size⟩ hd
  · simp only [drawOkO, permOk, Bool.and_eq_true, decide_eq_true_eq] at ho
    obtain ⟨⟨hE, ⟨⟨ho1, ho2⟩, ho3⟩⟩, ho4⟩ := ho
    have hll := renOpers_len hren
    have hmem : ∀ k, k ∈ ord ↔ k < ord.length := by
      have hsub : List.range ord.length ⊆ ord := fun k hk => by
        have := List.all_eq_true.1 ho2 k (by rw [← ho1]; exact hk)
        simpa using this
      intro k
      constructor
      · intro hk
        refine Classical.byContradiction fun hc => ?_
        have hn : (k :: List.range ord.length).Nodup := List.nodup_cons.2 ⟨by simpa using hc, List.nodup_range⟩
        have := hn.length_le_of_subset (fun x hx => by
          rcases List.mem_cons.1 hx with rfl | hx
          · exact hk
          · exact hsub hx)
        simp only [List.length_cons, List.length_range] at this
        omega
      · intro hk
        exact hsub (by simpa using hk)
    have hperm : ord.Perm (List.range ops.size) := by
      rw [List.perm_iff_count]
      intro i
      rw [ho3.count, (List.nodup_range (n := ops.size)).count]
      simp only [hmem i, List.mem_range, ho1, hl]
    obtain ⟨s1', r1, r2, r3⟩ := ren_fold (cf := cf) (asx := asx) ho3 0 ord l ⟨vs, List.replicate asx.length .bad, h⟩ ⟨vs, List.replicate l.length .bad, h⟩ s' rfl hren rfl rfl (by simp [hll]) (fun k => by rw [hmem k, ho1]; simp) (fun k => by
      simp only [evOpd, List.getElem?_replicate]
      split <;> split <;> rfl) e
    refine wp_region_draw fun t => ?_
    rw [hmix]
    have hB : ord.Pairwise fun x y => ∃ p q : Nat, p < q ∧ ord[p]? = some x ∧ ord[q]? = some y := by
      rw [List.pairwise_iff_getElem]
      intro i j hi hj hij
      exact ⟨i, j, hij, List.getElem?_eq_getElem hi, List.getElem?_eq_getElem hj⟩
    have hnn : ∀ x, ¬ ∃ p q : Nat, p < q ∧ ord[p]? = some x ∧ ord[q]? = some x := by
      rintro x ⟨p, q, hpq, h1, h2⟩
      have := (List.getElem?_inj (List.getElem?_eq_some_iff.1 h1).1 ho3).1 (h1.trans h2.symm)
      omega
    have hd := draw_gen hgr (ops := ops) (asx := asx) hnn hB hperm hl hE (fun x y hxy a b ha hb hcf => by
      obtain ⟨p, q, hpq, h1, h2⟩ := hxy
      have hp4 := pairsOkO_get ho4
      rw [List.pairwise_iff_getElem] at hp4
      have hpl := (List.getElem?_eq_some_iff.1 h1).1
      have hql := (List.getElem?_eq_some_iff.1 h2).1
      have := hp4 p q hpl hql hpq
      rw [(List.getElem?_eq_some_iff.1 h1).2, (List.getElem?_eq_some_iff.1 h2).2] at this
      exact this a b ha hb hcf) r1 t
    exact fold_ok hcf hnd c2 c1 _ (mkS S.mono_refl) hd fun a' w' G' hX S' hd => hQ a' w' G' (by rw [← r3]; exact hX.drew) (by rw [← r2, ← r3]; exact ⟨S'.H, S'.F, S'.size⟩) hd

theorem code_step (hmix : P.follows .mixedOrders = true) (hT : Table P Hh F) {n : Nat} (ih : ∀ m, m ≤ n → CodeOk P Hh F m) (ihc : CallOk P F n) : CodeOk P Hh F (n + 1) := by
  intro fid nt slots c vs h e vs' h' a w G Q hnd hr S hQ
  have ihn := ih n (Nat.le_refl _)
  cases c with
  | skip =>
    simp only [compCode, run, Option.some.injEq, Res.code.injEq] at hr
    obtain ⟨rfl, rfl, rfl⟩ := hr
    exact wp_skip (hQ a w G (Ext.refl _ _ _) S rfl)
  | label l =>
    simp only [compCode, run, Option.some.injEq, Res.code.injEq] at hr
    obtain ⟨rfl, rfl, rfl⟩ := hr
    exact wp_label (hQ a w G (Ext.refl _ _ _) S rfl)
  | exit id =>
    simp only [compCode, run, Option.some.injEq, Res.code.injEq] at hr
    obtain ⟨rfl, rfl, rfl⟩ := hr
    exact wp_exit (hQ a w G (Ext.refl _ _ _) S rfl)
  | ret =>
    simp only [compCode, run, Option.some.injEq, Res.code.injEq] at hr
    obtain ⟨rfl, rfl, rfl⟩ := hr
    exact wp_ret (hQ a w G (Ext.refl _ _ _) S rfl)
  | refuse why => simp [compCode, run] at hr
  | goto l => simp [compCode, run] at hr
  | rangeFunc f ps asx b => simp [compCode, run] at hr
  | region id ops draw =>
    cases hcc : compCode P Hh fid nt slots (.region id ops draw) with
    | ops l =>
      rw [hcc] at hr
      simp only [run] at hr
      split at hr
      · rename_i s' hs'
        simp only [Option.some.injEq, Res.code.injEq] at hr
        obtain ⟨rfl, rfl, rfl⟩ := hr
        refine region_ok hmix (cf := fun f args h => (run F n (.call f args h)).bind Res.asVal) (fun g args h0 r h1 hc => ?_) hnd hcc S hs' hQ
        simp only at hc
        cases hrun : run F n (.call g args h0) with
        | none => rw [hrun] at hc; simp at hc
        | some res =>
          rw [hrun] at hc
          cases res with
          | code _ _ _ => simp [Res.asVal] at hc
          | val r1 h2 =>
            simp only [Option.bind_some, Res.asVal, Option.some.injEq, Prod.mk.injEq] at hc
            obtain ⟨rfl, rfl⟩ := hc
            refine ⟨ihc g args h0 _ _ hrun, fun cargs w => ?_, fun hg => ?_⟩
            · cases n with
              | zero => simp [run] at hrun
              | succ n =>
                simp only [run] at hrun
                split at hrun
                · simp at hrun
                · rename_i s hs; exact (hT.hand hs).2 cargs w
                · rename_i af haf; exact callFunc_enter (hT.comp haf) cargs w
            · cases n with
              | zero => simp [run] at hrun
              | succ n =>
                simp only [run] at hrun
                split at hrun
                · simp at hrun
                · rename_i s hs
                  have hq := hT g
                  rw [hs] at hq
                  simp only [Option.map_eq_some_iff] at hrun
                  obtain ⟨p, hp, he⟩ := hrun
                  simp only [Res.val.injEq] at he
                  obtain ⟨rfl, rfl⟩ := he
                  exact hq.2 hg _ _ _ _ hp
                · rename_i af haf
                  have hq := hT g
                  rw [haf] at hq
                  rw [hq.2] at hg; simp at hg
      · simp at hr
    | refuse => rw [hcc] at hr; simp [run] at hr
    | _ =>
      exfalso
      simp only [compCode] at hcc
      repeat' split at hcc
      all_goals simp at hcc
  | seq x y =>
    simp only [compCode, run] at hr
    refine wp_seq ?_
    split at hr
    · rename_i vs1 h1 h1r
      exact ihn fid nt slots x vs h .normal vs1 h1 a w G _ hnd h1r S fun a1 w1 G1 hX1 S1 hd1 =>
        ihn fid nt slots y vs1 h1 e vs' h' a1 w1 G1 _ hnd hr S1 fun a2 w2 G2 hX2 S2 hd2 => hQ a2 w2 G2 (hX1.trans hX2) S2 (hd2.trans hd1)
    · rename_i hnn
      refine ihn fid nt slots x vs h e vs' h' a w G _ hnd hr S fun a1 w1 G1 hX1 S1 hd1 => ?_
      cases e with
      | normal => exact absurd hr (hnn vs' h')
      | exit id => exact hQ a1 w1 G1 hX1 S1 hd1
      | ret => exact hQ a1 w1 G1 hX1 S1 hd1
  | cond x c1 c2 =>
    simp only [compCode] at hr
    split at hr
    · rename_i x' hx
      simp only [run] at hr
      have hT0 : TRel w G a.tmps slots [] [] := ⟨rfl, by simp⟩
      have hv := operand_ok (k := 0) S.F hT0 x x' hx
      split at hr
      · rename_i hb
        rw [hb] at hv
        generalize hev : a.eval x = v at hv
        cases hv
        exact wp_cond_true hev (ihn fid nt slots c1 vs h e vs' h' a w G Q hnd hr S hQ)
      · rename_i hb
        rw [hb] at hv
        generalize hev : a.eval x = v at hv
        cases hv
        exact wp_cond_false hev (ihn fid nt slots c2 vs h e vs' h' a w G Q hnd hr S hQ)
      · simp at hr
    · simp [run] at hr
  | block id c1 =>
    simp only [compCode, run] at hr
    refine wp_block ?_
    split at hr
    · rename_i i vs1 h1 h1r
      refine ihn fid nt slots c1 vs h (.exit i) vs1 h1 a w G _ hnd h1r S fun a1 w1 G1 hX1 S1 hd1 => ?_
      split at hr
      · rename_i hi
        simp only [Option.some.injEq, Res.code.injEq] at hr
        obtain ⟨rfl, rfl, rfl⟩ := hr
        simp only [exitOf, Exit.inBlock, hi, if_true]
        exact hQ a1 w1 G1 hX1 S1 hd1
      · rename_i hi
        simp only [Option.some.injEq, Res.code.injEq] at hr
        obtain ⟨rfl, rfl, rfl⟩ := hr
        simp only [exitOf, Exit.inBlock, hi, if_false]
        exact hQ a1 w1 G1 hX1 S1 hd1
    · rename_i hnn
      refine ihn fid nt slots c1 vs h e vs' h' a w G _ hnd hr S fun a1 w1 G1 hX1 S1 hd1 => ?_
      cases e with
      | normal => exact hQ a1 w1 G1 hX1 S1 hd1
      | exit id' => exact absurd hr (hnn id' vs' h')
      | ret => exact hQ a1 w1 G1 hX1 S1 hd1
  | scope c1 =>
    simp only [compCode, run] at hr
    refine wp_scope_straight ?_
    have hskip : ∀ m, run F m (.code .skip vs h) = none ∨ run F m (.code .skip vs h) = some (.code .normal vs h) := fun m => by cases m <;> simp [run]
    rcases hskip n with h0 | h0
    · rw [h0] at hr; simp at hr
    · rw [h0] at hr
      simp only at hr
      refine ihn fid nt slots c1 vs h e vs' h' a w G _ hnd hr S fun a1 w1 G1 hX1 S1 hd1 => ?_
      cases e <;> exact hQ a1 w1 G1 hX1 S1 hd1
  | loop c1 =>
    refine wp_loop_ind (fun m a1 w1 => m ≤ n + 1 ∧ ∃ vs1 h1 G1, run F m (.code (compCode P Hh fid nt slots (.loop c1)) vs1 h1) = some (.code e vs' h') ∧ CRel w1 G1 a1 nt slots vs1 h1 ∧ Ext w G h w1 G1 h1 ∧ a1.defers = a.defers) (m := n + 1) ⟨Nat.le_refl _, vs, h, G, hr, S, Ext.refl _ _ _, rfl⟩ ?_
    rintro m a1 w1 ⟨hm, vs1, h1, G1, hr1, S1, hX1, hd1⟩
    cases m with
    | zero => simp [run] at hr1
    | succ m =>
      simp only [compCode, run] at hr1
      split at hr1
      · rename_i vs2 h2 h2r
        exact ih m (by omega) fid nt slots c1 vs1 h1 .normal vs2 h2 a1 w1 G1 _ hnd h2r S1 fun a2 w2 G2 hX2 S2 hd2 =>
          ⟨m, Nat.lt_succ_self _, by omega, vs2, h2, G2, by simp only [compCode]; exact hr1, S2, hX1.trans hX2, hd2.trans hd1⟩
      · rename_i hnn
        refine ih m (by omega) fid nt slots c1 vs1 h1 e vs' h' a1 w1 G1 _ hnd hr1 S1 fun a2 w2 G2 hX2 S2 hd2 => ?_
        cases e with
        | normal => exact absurd hr1 (hnn vs' h')
        | exit id' => exact hQ a2 w2 G2 (hX1.trans hX2) S2 (hd2.trans hd1)
        | ret => exact hQ a2 w2 G2 (hX1.trans hX2) S2 (hd2.trans hd1)

theorem all_ok (hmix : P.follows .mixedOrders = true) (hT : Table P Hh F) : ∀ n, CodeOk P Hh F n ∧ CallOk P F n := by
  intro n
  induction n using Nat.strongRecOn with
  | _ n ih =>
    cases n with
    | zero => exact ⟨fun fid nt slots c vs h e vs' h' a w G Q hnd hr => by simp [run] at hr, fun g args h r h' hr => by simp [run] at hr⟩
    | succ n => exact ⟨code_step hmix hT (fun m hm => (ih m (by omega)).1) (ih n (by omega)).2, call_step hT (ih n (by omega)).1⟩

/-- SOUNDNESS: what a call of the abstract machine computes, the call of the model gives. -/
theorem sound (hmix : P.follows .mixedOrders = true) (hT : Table P Hh F) {n g : Nat} {args : List AVal} {h h' : Heap} {r : AVal} (e : run F n (.call g args h) = some (.val r h')) : CallRel P g args h r h' := (all_ok hmix hT n).2 g args h r h' e
end Go.Abs

/-
  The functions that the statements reach, translated for the abstract machine, and that this is what the translation gives.
-/
namespace Go.Proofs.Ytjofjgflcogklaa
open Go Go.Abs

def hints : Hints := ⟨fun f s => (f == 32 && s == 28) || (f == 38 && s == 28), fun f s => (f == 29 && s == 8) || (f == 52 && s == 7), fun _ _ => false, fun f => [18, 21, 24, 41].contains f, fun f => [52, 53, 54].contains f, fun f r => if f == 28 && r == 1 then [0, 1, 2, 3, 5, 6, 7, 8, 10, 11, 12, 13, 15, 16, 17, 18, 19, 20, 21, 22, 4, 9, 14, 23, 24, 25] else if f == 29 && r == 1 then [0, 1, 2, 3, 4, 6, 7, 8, 9, 10, 11, 12, 13, 5, 14, 15, 16] else []⟩

def c3 : AFunc := ⟨[0, 1, 4, 5, 6, 7, 8, 9, 10, 11, 12, 13, 27, 43, 77],
 (.seq (.ops [⟨(.var 2), .mov (.c (.bool false)), .none⟩])
 (.seq (.ops [⟨.tmp, .call (.c (.fn 9 [])) [], .none⟩,
   ⟨(.var 3), .mov (.t 0), .none⟩])
 (.seq (.ops [⟨.tmp, .mov (.v 0), .none⟩,
   ⟨.tmp, .call (.c (.fn 10 [])) [(.t 0)], .none⟩,
   ⟨.tmp, .mov (.t 1), .none⟩,
   ⟨.tmp, .ext (.t 2) 0, .none⟩,
   ⟨.tmp, .ext (.t 2) 1, .none⟩,
   ⟨.tmp, .ext (.t 2) 2, .none⟩,
   ⟨(.var 4), .mov (.t 3), .none⟩,
   ⟨(.var 5), .mov (.t 4), .none⟩,
   ⟨(.var 6), .mov (.t 5), .none⟩])
 (.seq (.seq (.ops [⟨.tmp, .mov (.v 6), .none⟩,
   ⟨.tmp, .un .not (.t 0), .none⟩,
   ⟨.tmp, .mov (.t 1), .none⟩,
   ⟨.tmp, .mov (.v 1), (some ((.t 2), false))⟩,
   ⟨.tmp, .len (.t 3), (some ((.t 2), false))⟩,
   ⟨.tmp, .bin .gtr .arith (.t 4) (.c (.int .i64 60)), (some ((.t 2), false))⟩,
   ⟨(.var 12), .pick (.t 2) (.c (.bool true)) (.t 5), .none⟩])
 (.cond (.v 12)
  (.seq (.ops [⟨.tmp, .mov (.v 3), .none⟩,
    ⟨.tmp, .mov (.t 0), .none⟩,
    ⟨.tmp, .mov (.v 6), (some ((.t 1), true))⟩,
    ⟨.tmp, .mov (.t 2), (some ((.t 1), true))⟩,
    ⟨.tmp, .mov (.v 0), (some ((.t 3), false))⟩,
    ⟨.tmp, .bin .lss .arith (.t 4) (.c (.int .i64 1)), (some ((.t 3), false))⟩,
    ⟨.tmp, .pick (.t 3) (.c (.bool true)) (.t 5), (some ((.t 1), true))⟩,
    ⟨.tmp, .mov (.t 6), (some ((.t 1), true))⟩,
    ⟨.tmp, .mov (.v 0), (some ((.t 7), false))⟩,
    ⟨.tmp, .bin .gtr .arith (.t 8) (.c (.int .i64 64)), (some ((.t 7), false))⟩,
    ⟨.tmp, .pick (.t 7) (.c (.bool true)) (.t 9), (some ((.t 1), true))⟩,
    ⟨.tmp, .pick (.t 1) (.t 10) (.c (.bool false)), .none⟩,
    ⟨(.var 2), .mov (.t 11), .none⟩])
  .ret)
  .skip))
 (.seq (.seq (.ops [⟨(.var 7), .mov (.c (.int .i64 0)), .none⟩])
 (.block 0 (.loop (.seq (.seq (.ops [⟨.tmp, .mov (.v 7), .none⟩,
     ⟨.tmp, .mov (.v 1), .none⟩,
     ⟨.tmp, .len (.t 1), .none⟩,
     ⟨(.var 13), .bin .lss .arith (.t 0) (.t 2), .none⟩])
   (.cond (.v 13)
    .skip
    (.exit 0)))
   (.seq (.block 1 (.seq (.ops [⟨.tmp, .mov (.v 4), .none⟩,
      ⟨.tmp, .mov (.v 1), .none⟩,
      ⟨.tmp, .mov (.v 7), .none⟩,
      ⟨.tmp, .iaddr 5 (.t 1) (.t 2), .none⟩,
      ⟨.tmp, .load 5 true (.t 3), .none⟩,
      ⟨.tmp, .call (.c (.fn 11 [])) [(.t 0), (.t 4)], .none⟩,
      ⟨.tmp, .mov (.t 5), .none⟩,
      ⟨.tmp, .ext (.t 6) 0, .none⟩,
      ⟨.tmp, .ext (.t 6) 1, .none⟩,
      ⟨(.var 8), .mov (.t 7), .none⟩,
      ⟨(.var 9), .mov (.t 8), .none⟩])
    (.seq (.ops [⟨.tmp, .mov (.v 5), .none⟩,
      ⟨.tmp, .mov (.v 1), .none⟩,
      ⟨.tmp, .mov (.v 7), .none⟩,
      ⟨.tmp, .iaddr 5 (.t 1) (.t 2), .none⟩,
      ⟨.tmp, .load 5 true (.t 3), .none⟩,
      ⟨.tmp, .call (.c (.fn 12 [])) [(.t 0), (.t 4)], .none⟩,
      ⟨.tmp, .mov (.t 5), .none⟩,
      ⟨.tmp, .ext (.t 6) 0, .none⟩,
      ⟨.tmp, .ext (.t 6) 1, .none⟩,
      ⟨(.var 10), .mov (.t 7), .none⟩,
      ⟨(.var 11), .mov (.t 8), .none⟩])
    (.seq (.ops [⟨.tmp, .mov (.v 8), .none⟩,
      ⟨.tmp, .mov (.v 10), .none⟩,
      ⟨.tmp, .bin .neq .arith (.t 0) (.t 1), .none⟩,
      ⟨.tmp, .mov (.t 2), .none⟩,
      ⟨.tmp, .mov (.v 9), (some ((.t 3), false))⟩,
      ⟨.tmp, .mov (.v 11), (some ((.t 3), false))⟩,
      ⟨.tmp, .bin .neq .arith (.t 4) (.t 5), (some ((.t 3), false))⟩,
      ⟨.tmp, .pick (.t 3) (.c (.bool true)) (.t 6), .none⟩,
      ⟨.tmp, .mov (.t 7), .none⟩,
      ⟨.tmp, .mov (.v 4), (some ((.t 8), false))⟩,
      ⟨.tmp, .mov (.v 5), (some ((.t 8), false))⟩,
      ⟨.tmp, .call (.c (.fn 13 [])) [(.t 9), (.t 10)], (some ((.t 8), false))⟩,
      ⟨.tmp, .un .not (.t 11), (some ((.t 8), false))⟩,
      ⟨(.var 14), .pick (.t 8) (.c (.bool true)) (.t 12), .none⟩])
    (.cond (.v 14)
     (.seq (.ops [⟨(.var 2), .mov (.c (.bool false)), .none⟩])
     .ret)
     .skip)))))
   (.ops [⟨.tmp, .mov (.v 7), .none⟩,
     ⟨.tmp, .bin .add .arith (.t 0) (.c (.int .i64 1)), .none⟩,
     ⟨(.var 7), .mov (.t 1), .none⟩]))))))
 (.seq (.ops [⟨.tmp, .mov (.v 3), .none⟩,
   ⟨(.var 2), .mov (.t 0), .none⟩])
 .ret)))))),
 [2]⟩
def c4 : AFunc := ⟨[0, 1, 2, 6, 7, 8, 9, 10, 11, 12, 14, 15, 22, 50, 58, 85, 94],
 (.seq (.ops [⟨(.var 3), .mov (.c (.bool false)), .none⟩])
 (.seq (.ops [⟨.tmp, .call (.c (.fn 9 [])) [], .none⟩,
   ⟨(.var 4), .mov (.t 0), .none⟩])
 (.seq (.seq (.ops [⟨.tmp, .mov (.v 0), .none⟩,
   ⟨.tmp, .bin .lss .arith (.t 0) (.c (.int .i64 1)), .none⟩,
   ⟨.tmp, .mov (.t 1), .none⟩,
   ⟨.tmp, .mov (.v 0), (some ((.t 2), false))⟩,
   ⟨.tmp, .bin .gtr .arith (.t 3) (.c (.int .i64 4096)), (some ((.t 2), false))⟩,
   ⟨(.var 12), .pick (.t 2) (.c (.bool true)) (.t 4), .none⟩])
 (.cond (.v 12)
  (.seq (.ops [⟨.tmp, .mov (.v 0), .none⟩,
    ⟨.tmp, .call (.c (.fn 14 [])) [(.t 0)], .none⟩,
    ⟨.tmp, .mov (.t 1), .none⟩,
    ⟨.tmp, .ext (.t 2) 0, .none⟩,
    ⟨.tmp, .ext (.t 2) 1, .none⟩,
    ⟨(.var 5), .mov (.t 3), .none⟩,
    ⟨(.var 6), .mov (.t 4), .none⟩])
  (.ops [⟨.tmp, .mov (.v 4), .none⟩,
    ⟨.tmp, .mov (.t 0), .none⟩,
    ⟨.tmp, .mov (.v 5), (some ((.t 1), true))⟩,
    ⟨.tmp, .bin .eql .ptr (.t 2) (.c .nilptr), (some ((.t 1), true))⟩,
    ⟨.tmp, .pick (.t 1) (.t 3) (.c (.bool false)), .none⟩,
    ⟨.tmp, .mov (.t 4), .none⟩,
    ⟨.tmp, .mov (.v 6), (some ((.t 5), true))⟩,
    ⟨.tmp, .bin .eql .arith (.t 6) (.c (.int .i64 1)), (some ((.t 5), true))⟩,
    ⟨.tmp, .pick (.t 5) (.t 7) (.c (.bool false)), .none⟩,
    ⟨(.var 4), .mov (.t 8), .none⟩]))
  .skip))
 (.seq (.ops [⟨.tmp, .call (.c (.fn 14 [])) [(.c (.int .i64 3))], .none⟩,
   ⟨.tmp, .mov (.t 0), .none⟩,
   ⟨.tmp, .ext (.t 1) 0, .none⟩,
   ⟨.tmp, .ext (.t 1) 1, .none⟩,
   ⟨(.var 7), .mov (.t 2), .none⟩,
   ⟨(.var 8), .mov (.t 3), .none⟩])
 (.seq (.seq (.ops [⟨.tmp, .mov (.v 8), .none⟩,
   ⟨.tmp, .bin .neq .arith (.t 0) (.c (.int .i64 0)), .none⟩,
   ⟨.tmp, .mov (.t 1), .none⟩,
   ⟨.tmp, .mov (.v 7), (some ((.t 2), false))⟩,
   ⟨.tmp, .bin .eql .ptr (.t 3) (.c .nilptr), (some ((.t 2), false))⟩,
   ⟨.tmp, .pick (.t 2) (.c (.bool true)) (.t 4), .none⟩,
   ⟨.tmp, .mov (.t 5), .none⟩,
   ⟨.tmp, .mov (.v 4), (some ((.t 6), false))⟩,
   ⟨.tmp, .un .not (.t 7), (some ((.t 6), false))⟩,
   ⟨(.var 13), .pick (.t 6) (.c (.bool true)) (.t 8), .none⟩])
 (.cond (.v 13)
  (.seq (.ops [⟨(.var 3), .mov (.c (.bool false)), .none⟩])
  .ret)
  .skip))
 (.seq (.ops [⟨.tmp, .mov (.v 7), .none⟩,
   ⟨.tmp, .call (.c (.fn 15 [])) [(.t 0)], .none⟩,
   ⟨(.var 9), .mov (.t 1), .none⟩])
 (.seq (.seq (.ops [⟨.tmp, .mov (.v 1), .none⟩,
   ⟨.tmp, .bin .lss .arith (.t 0) (.c (.int .i64 0)), .none⟩,
   ⟨.tmp, .mov (.t 1), .none⟩,
   ⟨.tmp, .mov (.v 1), (some ((.t 2), false))⟩,
   ⟨.tmp, .bin .gtr .arith (.t 3) (.c (.int .i64 2)), (some ((.t 2), false))⟩,
   ⟨(.var 14), .pick (.t 2) (.c (.bool true)) (.t 4), .none⟩])
 (.cond (.v 14)
  (.seq (.ops [⟨.tmp, .mov (.v 7), .none⟩,
    ⟨.tmp, .mov (.v 1), .none⟩,
    ⟨.tmp, .call (.c (.fn 16 [])) [(.t 0), (.t 1)], .none⟩,
    ⟨.tmp, .mov (.t 2), .none⟩,
    ⟨.tmp, .ext (.t 3) 0, .none⟩,
    ⟨.tmp, .ext (.t 3) 1, .none⟩,
    ⟨.tmp, .mov (.t 4), .none⟩,
    ⟨(.var 10), .mov (.t 5), .none⟩])
  (.seq (.ops [⟨.tmp, .mov (.v 10), .none⟩,
    ⟨.tmp, .bin .neq .arith (.t 0) (.c (.int .i64 1)), .none⟩,
    ⟨.tmp, .mov (.t 1), .none⟩,
    ⟨.tmp, .mov (.v 7), (some ((.t 2), false))⟩,
    ⟨.tmp, .mov (.v 1), (some ((.t 2), false))⟩,
    ⟨.tmp, .pcall 18 [(.c (.int .u8 120))], (some ((.t 2), false))⟩,
    ⟨.tmp, .call (.c (.fn 17 [])) [(.t 3), (.t 4), (.t 5)], (some ((.t 2), false))⟩,
    ⟨.tmp, .bin .neq .arith (.t 6) (.c (.int .i64 1)), (some ((.t 2), false))⟩,
    ⟨.tmp, .pick (.t 2) (.c (.bool true)) (.t 7), .none⟩,
    ⟨.tmp, .mov (.t 8), .none⟩,
    ⟨.tmp, .mov (.v 7), (some ((.t 9), false))⟩,
    ⟨.tmp, .mov (.v 1), (some ((.t 9), false))⟩,
    ⟨.tmp, .call (.c (.fn 19 [])) [(.t 10), (.t 11), (.c (.int .i64 0))], (some ((.t 9), false))⟩,
    ⟨.tmp, .bin .neq .arith (.t 12) (.c (.int .i64 1)), (some ((.t 9), false))⟩,
    ⟨.tmp, .pick (.t 9) (.c (.bool true)) (.t 13), .none⟩,
    ⟨.tmp, .mov (.t 14), .none⟩,
    ⟨.tmp, .mov (.v 7), (some ((.t 15), false))⟩,
    ⟨.tmp, .mov (.v 1), (some ((.t 15), false))⟩,
    ⟨.tmp, .call (.c (.fn 20 [])) [(.t 16), (.t 17)], (some ((.t 15), false))⟩,
    ⟨.tmp, .bin .neq .arith (.t 18) (.c (.int .i64 1)), (some ((.t 15), false))⟩,
    ⟨(.var 15), .pick (.t 15) (.c (.bool true)) (.t 19), .none⟩])
  (.cond (.v 15)
   (.seq (.ops [⟨(.var 3), .mov (.c (.bool false)), .none⟩])
   .ret)
   .skip)))
  .skip))
 (.seq (.seq (.ops [⟨.tmp, .mov (.v 2), .none⟩,
   ⟨.tmp, .slen (.t 0), .none⟩,
   ⟨.tmp, .bin .neq .arith (.t 1) (.c (.int .i64 64)), .none⟩,
   ⟨.tmp, .mov (.t 2), .none⟩,
   ⟨.tmp, .mov (.v 7), (some ((.t 3), true))⟩,
   ⟨.tmp, .mov (.v 2), (some ((.t 3), true))⟩,
   ⟨.tmp, .call (.c (.fn 17 [])) [(.t 4), (.c (.int .i64 0)), (.t 5)], (some ((.t 3), true))⟩,
   ⟨.tmp, .bin .neq .arith (.t 6) (.c (.int .i64 1)), (some ((.t 3), true))⟩,
   ⟨(.var 16), .pick (.t 3) (.t 7) (.c (.bool false)), .none⟩])
 (.cond (.v 16)
  (.seq (.ops [⟨(.var 3), .mov (.c (.bool false)), .none⟩])
  .ret)
  .skip))
 (.seq (.ops [⟨.tmp, .mov (.v 9), .none⟩,
   ⟨.tmp, .mov (.v 7), .none⟩,
   ⟨.tmp, .call (.c (.fn 15 [])) [(.t 1)], .none⟩,
   ⟨.tmp, .pcall 21 [(.t 0), (.t 2)], .none⟩,
   ⟨(.var 11), .mov (.t 3), .none⟩])
 (.seq (.ops [⟨.tmp, .mov (.v 11), .none⟩,
   ⟨.tmp, .mov (.t 0), .none⟩,
   ⟨.tmp, .mov (.v 7), (some ((.t 1), true))⟩,
   ⟨.tmp, .call (.c (.fn 22 [])) [(.t 2)], (some ((.t 1), true))⟩,
   ⟨.tmp, .len (.t 3), (some ((.t 1), true))⟩,
   ⟨.tmp, .bin .eql .arith (.t 4) (.c (.int .i64 0)), (some ((.t 1), true))⟩,
   ⟨.tmp, .pick (.t 1) (.t 5) (.c (.bool false)), .none⟩,
   ⟨.tmp, .mov (.t 6), .none⟩,
   ⟨.tmp, .mov (.v 7), (some ((.t 7), true))⟩,
   ⟨.tmp, .call (.c (.fn 23 [])) [(.t 8)], (some ((.t 7), true))⟩,
   ⟨.tmp, .len (.t 9), (some ((.t 7), true))⟩,
   ⟨.tmp, .bin .eql .arith (.t 10) (.c (.int .i64 0)), (some ((.t 7), true))⟩,
   ⟨.tmp, .pick (.t 7) (.t 11) (.c (.bool false)), .none⟩,
   ⟨(.var 3), .mov (.t 12), .none⟩])
 .ret)))))))))),
 [3]⟩
def c5 : AFunc := ⟨[0, 1, 2, 6, 7, 8, 10, 11, 12, 13, 14, 16, 17, 18, 19, 33, 50, 60, 84, 97],
 (.seq (.ops [⟨(.var 3), .mov (.c (.bool false)), .none⟩])
 (.seq (.ops [⟨.tmp, .call (.c (.fn 9 [])) [], .none⟩,
   ⟨(.var 4), .mov (.t 0), .none⟩])
 (.seq (.ops [⟨.tmp, .mov (.v 0), .none⟩,
   ⟨.tmp, .call (.c (.fn 10 [])) [(.t 0)], .none⟩,
   ⟨.tmp, .mov (.t 1), .none⟩,
   ⟨.tmp, .ext (.t 2) 0, .none⟩,
   ⟨.tmp, .ext (.t 2) 1, .none⟩,
   ⟨.tmp, .ext (.t 2) 2, .none⟩,
   ⟨(.var 5), .mov (.t 3), .none⟩,
   ⟨.tmp, .mov (.t 4), .none⟩,
   ⟨(.var 6), .mov (.t 5), .none⟩])
 (.seq (.seq (.ops [⟨.tmp, .mov (.v 6), .none⟩,
   ⟨.tmp, .un .not (.t 0), .none⟩,
   ⟨.tmp, .mov (.t 1), .none⟩,
   ⟨.tmp, .mov (.v 1), (some ((.t 2), false))⟩,
   ⟨.tmp, .len (.t 3), (some ((.t 2), false))⟩,
   ⟨.tmp, .bin .gtr .arith (.t 4) (.c (.int .i64 60)), (some ((.t 2), false))⟩,
   ⟨(.var 15), .pick (.t 2) (.c (.bool true)) (.t 5), .none⟩])
 (.cond (.v 15)
  (.seq (.ops [⟨.tmp, .mov (.v 4), .none⟩,
    ⟨.tmp, .mov (.t 0), .none⟩,
    ⟨.tmp, .mov (.v 6), (some ((.t 1), true))⟩,
    ⟨.tmp, .mov (.t 2), (some ((.t 1), true))⟩,
    ⟨.tmp, .mov (.v 0), (some ((.t 3), false))⟩,
    ⟨.tmp, .bin .lss .arith (.t 4) (.c (.int .i64 1)), (some ((.t 3), false))⟩,
    ⟨.tmp, .pick (.t 3) (.c (.bool true)) (.t 5), (some ((.t 1), true))⟩,
    ⟨.tmp, .mov (.t 6), (some ((.t 1), true))⟩,
    ⟨.tmp, .mov (.v 0), (some ((.t 7), false))⟩,
    ⟨.tmp, .bin .gtr .arith (.t 8) (.c (.int .i64 64)), (some ((.t 7), false))⟩,
    ⟨.tmp, .pick (.t 7) (.c (.bool true)) (.t 9), (some ((.t 1), true))⟩,
    ⟨.tmp, .pick (.t 1) (.t 10) (.c (.bool false)), .none⟩,
    ⟨(.var 3), .mov (.t 11), .none⟩])
  .ret)
  .skip))
 (.seq (.ops [⟨.tmp, .mov (.v 0), .none⟩,
   ⟨.tmp, .mksl 16 1 false [(.str [])] (.t 0) (.t 0), .none⟩,
   ⟨(.var 7), .mov (.t 1), .none⟩])
 (.seq (.seq (.ops [⟨(.var 8), .mov (.c (.int .i64 0)), .none⟩])
 (.block 0 (.loop (.seq (.seq (.ops [⟨.tmp, .mov (.v 8), .none⟩,
     ⟨.tmp, .mov (.v 0), .none⟩,
     ⟨(.var 16), .bin .lss .arith (.t 0) (.t 1), .none⟩])
   (.cond (.v 16)
    .skip
    (.exit 0)))
   (.seq (.block 1 (.ops [⟨.tmp, .mov (.v 7), .none⟩,
      ⟨.tmp, .mov (.v 8), .none⟩,
      ⟨.tmp, .pcall 18 [(.c (.int .u8 0))], .none⟩,
      ⟨.tmp, .iaddr 1 (.t 0) (.t 1), .none⟩,
      ⟨.no, .store 1 (.t 3) (.t 2), .none⟩]))
   (.ops [⟨.tmp, .mov (.v 8), .none⟩,
     ⟨.tmp, .bin .add .arith (.t 0) (.c (.int .i64 1)), .none⟩,
     ⟨(.var 8), .mov (.t 1), .none⟩]))))))
 (.seq (.seq (.ops [⟨(.var 9), .mov (.c (.int .i64 0)), .none⟩])
 (.block 2 (.loop (.seq (.seq (.ops [⟨.tmp, .mov (.v 9), .none⟩,
     ⟨.tmp, .mov (.v 1), .none⟩,
     ⟨.tmp, .len (.t 1), .none⟩,
     ⟨(.var 17), .bin .lss .arith (.t 0) (.t 2), .none⟩])
   (.cond (.v 17)
    .skip
    (.exit 2)))
   (.seq (.block 3 (.seq (.ops [⟨.tmp, .mov (.v 1), .none⟩,
      ⟨.tmp, .mov (.v 9), .none⟩,
      ⟨.tmp, .iaddr 5 (.t 0) (.t 1), .none⟩,
      ⟨.tmp, .load 5 true (.t 2), .none⟩,
      ⟨(.var 10), .alloc 33 5 true [(.int .i64 0), (.int .i64 0), (.int .i64 0), (.str []), (.sl [] .nil)], .none⟩,
      ⟨.no, .store 5 (.v 10) (.t 3), .none⟩])
    (.seq (.seq (.ops [⟨.tmp, .faddr 0 (.v 10), .none⟩,
      ⟨.tmp, .load 1 false (.t 0), .none⟩,
      ⟨.tmp, .bin .eql .arith (.t 1) (.c (.int .i64 6)), .none⟩,
      ⟨.tmp, .mov (.t 2), .none⟩,
      ⟨.tmp, .faddr 0 (.v 10), (some ((.t 3), false))⟩,
      ⟨.tmp, .load 1 false (.t 4), (some ((.t 3), false))⟩,
      ⟨.tmp, .bin .eql .arith (.t 5) (.c (.int .i64 7)), (some ((.t 3), false))⟩,
      ⟨.tmp, .pick (.t 3) (.c (.bool true)) (.t 6), .none⟩,
      ⟨.tmp, .mov (.t 7), .none⟩,
      ⟨.tmp, .faddr 0 (.v 10), (some ((.t 8), false))⟩,
      ⟨.tmp, .load 1 false (.t 9), (some ((.t 8), false))⟩,
      ⟨.tmp, .bin .eql .arith (.t 10) (.c (.int .i64 4)), (some ((.t 8), false))⟩,
      ⟨.tmp, .pick (.t 8) (.c (.bool true)) (.t 11), .none⟩,
      ⟨.tmp, .mov (.t 12), .none⟩,
      ⟨.tmp, .faddr 0 (.v 10), (some ((.t 13), false))⟩,
      ⟨.tmp, .load 1 false (.t 14), (some ((.t 13), false))⟩,
      ⟨.tmp, .bin .eql .arith (.t 15) (.c (.int .i64 5)), (some ((.t 13), false))⟩,
      ⟨(.var 18), .pick (.t 13) (.c (.bool true)) (.t 16), .none⟩])
    (.cond (.v 18)
     (.exit 3)
     .skip))
    (.seq (.ops [⟨.tmp, .mov (.v 5), .none⟩,
      ⟨.tmp, .load 5 true (.v 10), .none⟩,
      ⟨.tmp, .call (.c (.fn 11 [])) [(.t 0), (.t 1)], .none⟩,
      ⟨.tmp, .mov (.t 2), .none⟩,
      ⟨.tmp, .ext (.t 3) 0, .none⟩,
      ⟨.tmp, .ext (.t 3) 1, .none⟩,
      ⟨.tmp, .mov (.t 4), .none⟩,
      ⟨(.var 11), .mov (.t 5), .none⟩])
    (.seq (.ops [⟨.tmp, .faddr 0 (.v 10), .none⟩,
      ⟨.tmp, .load 1 false (.t 0), .none⟩,
      ⟨.tmp, .bin .eql .arith (.t 1) (.c (.int .i64 1)), .none⟩,
      ⟨.tmp, .mov (.t 2), .none⟩,
      ⟨.tmp, .mov (.v 11), (some ((.t 3), true))⟩,
      ⟨.tmp, .bin .eql .arith (.t 4) (.c (.int .i64 0)), (some ((.t 3), true))⟩,
      ⟨(.var 19), .pick (.t 3) (.t 5) (.c (.bool false)), .none⟩])
    (.cond (.v 19)
     (.ops [⟨.tmp, .mov (.v 7), .none⟩,
       ⟨.tmp, .faddr 1 (.v 10), .none⟩,
       ⟨.tmp, .load 1 false (.t 1), .none⟩,
       ⟨.tmp, .load 5 true (.v 10), .none⟩,
       ⟨.tmp, .pcall 24 [(.t 3)], .none⟩,
       ⟨.tmp, .iaddr 1 (.t 0) (.t 2), .none⟩,
       ⟨.no, .store 1 (.t 5) (.t 4), .none⟩])
     .skip))))))
   (.ops [⟨.tmp, .mov (.v 9), .none⟩,
     ⟨.tmp, .bin .add .arith (.t 0) (.c (.int .i64 1)), .none⟩,
     ⟨(.var 9), .mov (.t 1), .none⟩]))))))
 (.seq (.ops [⟨.tmp, .mov (.v 5), .none⟩,
   ⟨.tmp, .call (.c (.fn 25 [])) [(.t 0)], .none⟩,
   ⟨(.var 12), .mov (.t 1), .none⟩])
 (.seq (.ops [⟨.tmp, .mov (.v 5), .none⟩,
   ⟨.tmp, .call (.c (.fn 15 [])) [(.t 0)], .none⟩,
   ⟨.tmp, .mov (.v 7), .none⟩,
   ⟨.tmp, .pcall 21 [(.t 1), (.t 2)], .none⟩,
   ⟨(.var 13), .mov (.t 3), .none⟩])
 (.seq (.ops [⟨.tmp, .mov (.v 5), .none⟩,
   ⟨.tmp, .mov (.v 2), .none⟩,
   ⟨.tmp, .call (.c (.fn 26 [])) [(.t 0), (.t 1)], .none⟩])
 (.seq (.ops [⟨.tmp, .mov (.v 5), .none⟩,
   ⟨.tmp, .call (.c (.fn 15 [])) [(.t 0)], .none⟩,
   ⟨.tmp, .mov (.v 7), .none⟩,
   ⟨.tmp, .pcall 21 [(.t 1), (.t 2)], .none⟩,
   ⟨(.var 14), .mov (.t 3), .none⟩])
 (.seq (.ops [⟨.tmp, .mov (.v 4), .none⟩,
   ⟨.tmp, .mov (.t 0), .none⟩,
   ⟨.tmp, .mov (.v 12), (some ((.t 1), true))⟩,
   ⟨.tmp, .bin .eql .arith (.t 2) (.c (.int .i64 0)), (some ((.t 1), true))⟩,
   ⟨.tmp, .pick (.t 1) (.t 3) (.c (.bool false)), .none⟩,
   ⟨.tmp, .mov (.t 4), .none⟩,
   ⟨.tmp, .mov (.v 13), (some ((.t 5), true))⟩,
   ⟨.tmp, .pick (.t 5) (.t 6) (.c (.bool false)), .none⟩,
   ⟨.tmp, .mov (.t 7), .none⟩,
   ⟨.tmp, .mov (.v 14), (some ((.t 8), true))⟩,
   ⟨.tmp, .pick (.t 8) (.t 9) (.c (.bool false)), .none⟩,
   ⟨(.var 3), .mov (.t 10), .none⟩])
 .ret)))))))))))),
 [3]⟩
def c6 : AFunc := ⟨[0, 1, 2, 6, 7, 8, 9, 10, 11, 12, 13, 14, 15, 16, 17, 18, 32, 48, 90, 93, 104, 108, 127, 144],
 (.seq (.ops [⟨(.var 3), .mov (.c (.bool false)), .none⟩])
 (.seq (.ops [⟨.tmp, .call (.c (.fn 9 [])) [], .none⟩,
   ⟨(.var 4), .mov (.t 0), .none⟩])
 (.seq (.ops [⟨.tmp, .mov (.v 0), .none⟩,
   ⟨.tmp, .call (.c (.fn 10 [])) [(.t 0)], .none⟩,
   ⟨.tmp, .mov (.t 1), .none⟩,
   ⟨.tmp, .ext (.t 2) 0, .none⟩,
   ⟨.tmp, .ext (.t 2) 1, .none⟩,
   ⟨.tmp, .ext (.t 2) 2, .none⟩,
   ⟨(.var 5), .mov (.t 3), .none⟩,
   ⟨(.var 6), .mov (.t 4), .none⟩,
   ⟨(.var 7), .mov (.t 5), .none⟩])
 (.seq (.seq (.ops [⟨.tmp, .mov (.v 7), .none⟩,
   ⟨.tmp, .un .not (.t 0), .none⟩,
   ⟨.tmp, .mov (.t 1), .none⟩,
   ⟨.tmp, .mov (.v 1), (some ((.t 2), false))⟩,
   ⟨.tmp, .len (.t 3), (some ((.t 2), false))⟩,
   ⟨.tmp, .bin .gtr .arith (.t 4) (.c (.int .i64 60)), (some ((.t 2), false))⟩,
   ⟨(.var 16), .pick (.t 2) (.c (.bool true)) (.t 5), .none⟩])
 (.cond (.v 16)
  (.seq (.ops [⟨.tmp, .mov (.v 4), .none⟩,
    ⟨.tmp, .mov (.t 0), .none⟩,
    ⟨.tmp, .mov (.v 7), (some ((.t 1), true))⟩,
    ⟨.tmp, .mov (.t 2), (some ((.t 1), true))⟩,
    ⟨.tmp, .mov (.v 0), (some ((.t 3), false))⟩,
    ⟨.tmp, .bin .lss .arith (.t 4) (.c (.int .i64 1)), (some ((.t 3), false))⟩,
    ⟨.tmp, .pick (.t 3) (.c (.bool true)) (.t 5), (some ((.t 1), true))⟩,
    ⟨.tmp, .mov (.t 6), (some ((.t 1), true))⟩,
    ⟨.tmp, .mov (.v 0), (some ((.t 7), false))⟩,
    ⟨.tmp, .bin .gtr .arith (.t 8) (.c (.int .i64 64)), (some ((.t 7), false))⟩,
    ⟨.tmp, .pick (.t 7) (.c (.bool true)) (.t 9), (some ((.t 1), true))⟩,
    ⟨.tmp, .pick (.t 1) (.t 10) (.c (.bool false)), .none⟩,
    ⟨(.var 3), .mov (.t 11), .none⟩])
  .ret)
  .skip))
 (.seq (.seq (.ops [⟨(.var 8), .mov (.c (.int .i64 0)), .none⟩])
 (.block 0 (.loop (.seq (.seq (.ops [⟨.tmp, .mov (.v 8), .none⟩,
     ⟨.tmp, .mov (.v 1), .none⟩,
     ⟨.tmp, .len (.t 1), .none⟩,
     ⟨(.var 17), .bin .lss .arith (.t 0) (.t 2), .none⟩])
   (.cond (.v 17)
    .skip
    (.exit 0)))
   (.seq (.block 1 (.seq (.ops [⟨.tmp, .mov (.v 5), .none⟩,
      ⟨.tmp, .mov (.v 1), .none⟩,
      ⟨.tmp, .mov (.v 8), .none⟩,
      ⟨.tmp, .iaddr 5 (.t 1) (.t 2), .none⟩,
      ⟨.tmp, .load 5 true (.t 3), .none⟩,
      ⟨.tmp, .call (.c (.fn 11 [])) [(.t 0), (.t 4)], .none⟩])
    (.ops [⟨.tmp, .mov (.v 6), .none⟩,
      ⟨.tmp, .mov (.v 1), .none⟩,
      ⟨.tmp, .mov (.v 8), .none⟩,
      ⟨.tmp, .iaddr 5 (.t 1) (.t 2), .none⟩,
      ⟨.tmp, .load 5 true (.t 3), .none⟩,
      ⟨.tmp, .call (.c (.fn 12 [])) [(.t 0), (.t 4)], .none⟩])))
   (.ops [⟨.tmp, .mov (.v 8), .none⟩,
     ⟨.tmp, .bin .add .arith (.t 0) (.c (.int .i64 1)), .none⟩,
     ⟨(.var 8), .mov (.t 1), .none⟩]))))))
 (.seq (.ops [⟨.tmp, .mov (.v 5), .none⟩,
   ⟨.tmp, .call (.c (.fn 15 [])) [(.t 0)], .none⟩,
   ⟨(.var 9), .mov (.t 1), .none⟩])
 (.seq (.ops [⟨.tmp, .mov (.v 5), .none⟩,
   ⟨.tmp, .mov (.v 2), .none⟩,
   ⟨.tmp, .call (.c (.fn 26 [])) [(.t 0), (.t 1)], .none⟩])
 (.seq (.ops [⟨.tmp, .mov (.v 5), .none⟩,
   ⟨.tmp, .call (.c (.fn 15 [])) [(.t 0)], .none⟩,
   ⟨(.var 10), .mov (.t 1), .none⟩])
 (.seq (.seq (.ops [⟨.tmp, .mov (.v 9), .none⟩,
   ⟨.tmp, .len (.t 0), .none⟩,
   ⟨.tmp, .mov (.v 0), .none⟩,
   ⟨.tmp, .bin .neq .arith (.t 1) (.t 2), .none⟩,
   ⟨.tmp, .mov (.t 3), .none⟩,
   ⟨.tmp, .mov (.v 10), (some ((.t 4), false))⟩,
   ⟨.tmp, .len (.t 5), (some ((.t 4), false))⟩,
   ⟨.tmp, .mov (.v 0), (some ((.t 4), false))⟩,
   ⟨.tmp, .bin .neq .arith (.t 6) (.t 7), (some ((.t 4), false))⟩,
   ⟨.tmp, .pick (.t 4) (.c (.bool true)) (.t 8), .none⟩,
   ⟨.tmp, .mov (.t 9), .none⟩,
   ⟨.tmp, .mov (.v 5), (some ((.t 10), false))⟩,
   ⟨.tmp, .call (.c (.fn 22 [])) [(.t 11)], (some ((.t 10), false))⟩,
   ⟨.tmp, .len (.t 12), (some ((.t 10), false))⟩,
   ⟨.tmp, .bin .neq .arith (.t 13) (.c (.int .i64 0)), (some ((.t 10), false))⟩,
   ⟨.tmp, .pick (.t 10) (.c (.bool true)) (.t 14), .none⟩,
   ⟨.tmp, .mov (.t 15), .none⟩,
   ⟨.tmp, .mov (.v 5), (some ((.t 16), false))⟩,
   ⟨.tmp, .call (.c (.fn 27 [])) [(.t 17)], (some ((.t 16), false))⟩,
   ⟨.tmp, .un .not (.t 18), (some ((.t 16), false))⟩,
   ⟨(.var 18), .pick (.t 16) (.c (.bool true)) (.t 19), .none⟩])
 (.cond (.v 18)
  (.seq (.ops [⟨(.var 3), .mov (.c (.bool false)), .none⟩])
  .ret)
  .skip))
 (.seq (.ops [⟨(.var 11), .mov (.c (.int .i64 0)), .none⟩])
 (.seq (.seq (.ops [⟨(.var 12), .mov (.c (.int .i64 0)), .none⟩])
 (.block 2 (.loop (.seq (.seq (.ops [⟨.tmp, .mov (.v 12), .none⟩,
     ⟨.tmp, .mov (.v 0), .none⟩,
     ⟨(.var 19), .bin .lss .arith (.t 0) (.t 1), .none⟩])
   (.cond (.v 19)
    .skip
    (.exit 2)))
   (.seq (.block 3 (.seq (.ops [⟨.tmp, .mov (.v 6), .none⟩,
      ⟨.tmp, .nilc (.t 0), .none⟩,
      ⟨.tmp, .faddr 0 (.t 1), .none⟩,
      ⟨.tmp, .load 1 false (.t 2), .none⟩,
      ⟨.tmp, .mov (.v 12), .none⟩,
      ⟨.tmp, .iaddr 4 (.t 3) (.t 4), .none⟩,
      ⟨.tmp, .load 4 true (.t 5), .none⟩,
      ⟨(.var 13), .alloc 54 4 true [(.str []), (.str []), (.bool false), (.bool false)], .none⟩,
      ⟨.no, .store 4 (.v 13) (.t 6), .none⟩])
    (.seq (.ops [⟨(.var 14), .mov (.c (.int .i64 0)), .none⟩])
    (.seq (.seq (.ops [⟨.tmp, .faddr 2 (.v 13), .none⟩,
      ⟨(.var 20), .load 1 false (.t 0), .none⟩])
    (.cond (.v 20)
     (.seq (.ops [⟨(.var 14), .mov (.c (.int .i64 64)), .none⟩])
     (.seq (.seq (.ops [⟨.tmp, .mov (.v 11), .none⟩,
       ⟨.tmp, .mov (.v 2), .none⟩,
       ⟨.tmp, .len (.t 1), .none⟩,
       ⟨(.var 21), .bin .lss .arith (.t 0) (.t 2), .none⟩])
     (.cond (.v 21)
      (.ops [⟨.tmp, .mov (.v 2), .none⟩,
        ⟨.tmp, .mov (.v 11), .none⟩,
        ⟨.tmp, .iaddr 1 (.t 0) (.t 1), .none⟩,
        ⟨.tmp, .load 1 false (.t 2), .none⟩,
        ⟨.tmp, .mnx false (.t 3) (.c (.int .i64 64)), .none⟩,
        ⟨.tmp, .mnx true (.c (.int .i64 0)) (.t 4), .none⟩,
        ⟨(.var 14), .mov (.t 5), .none⟩])
      .skip))
     (.ops [⟨.tmp, .mov (.v 11), .none⟩,
       ⟨.tmp, .bin .add .arith (.t 0) (.c (.int .i64 1)), .none⟩,
       ⟨(.var 11), .mov (.t 1), .none⟩])))
     .skip))
    (.seq (.ops [⟨.tmp, .mov (.v 9), .none⟩,
      ⟨.tmp, .mov (.v 12), .none⟩,
      ⟨.tmp, .iaddr 1 (.t 0) (.t 1), .none⟩,
      ⟨.tmp, .load 1 false (.t 2), .none⟩,
      ⟨(.var 15), .mov (.t 3), .none⟩])
    (.seq (.seq (.ops [⟨.tmp, .faddr 2 (.v 13), .none⟩,
      ⟨.tmp, .load 1 false (.t 0), .none⟩,
      ⟨.tmp, .mov (.t 1), .none⟩,
      ⟨.tmp, .faddr 3 (.v 13), (some ((.t 2), true))⟩,
      ⟨.tmp, .load 1 false (.t 3), (some ((.t 2), true))⟩,
      ⟨.tmp, .un .not (.t 4), (some ((.t 2), true))⟩,
      ⟨(.var 22), .pick (.t 2) (.t 5) (.c (.bool false)), .none⟩])
    (.cond (.v 22)
     (.ops [⟨.tmp, .faddr 1 (.v 13), .none⟩,
       ⟨.tmp, .load 1 false (.t 0), .none⟩,
       ⟨.tmp, .mov (.v 14), .none⟩,
       ⟨.tmp, .sslice (.t 1) .none (some (.t 2)), .none⟩,
       ⟨.tmp, .mov (.v 9), .none⟩,
       ⟨.tmp, .mov (.v 12), .none⟩,
       ⟨.tmp, .iaddr 1 (.t 4) (.t 5), .none⟩,
       ⟨.tmp, .load 1 false (.t 6), .none⟩,
       ⟨.tmp, .mov (.v 14), .none⟩,
       ⟨.tmp, .sslice (.t 7) (some (.t 8)) .none, .none⟩,
       ⟨.tmp, .bin .add .arith (.t 3) (.t 9), .none⟩,
       ⟨(.var 15), .mov (.t 10), .none⟩])
     .skip))
    (.seq (.ops [⟨.tmp, .mov (.v 10), .none⟩,
      ⟨.tmp, .mov (.v 12), .none⟩,
      ⟨.tmp, .iaddr 1 (.t 0) (.t 1), .none⟩,
      ⟨.tmp, .load 1 false (.t 2), .none⟩,
      ⟨.tmp, .mov (.v 15), .none⟩,
      ⟨(.var 23), .bin .neq .arith (.t 3) (.t 4), .none⟩])
    (.cond (.v 23)
     (.seq (.ops [⟨(.var 3), .mov (.c (.bool false)), .none⟩])
     .ret)
     .skip))))))))
   (.ops [⟨.tmp, .mov (.v 12), .none⟩,
     ⟨.tmp, .bin .add .arith (.t 0) (.c (.int .i64 1)), .none⟩,
     ⟨(.var 12), .mov (.t 1), .none⟩]))))))
 (.seq (.ops [⟨.tmp, .mov (.v 4), .none⟩,
   ⟨(.var 3), .mov (.t 0), .none⟩])
 .ret)))))))))))),
 [3]⟩
def c7 : AFunc := ⟨[0, 1, 2, 3, 8, 9, 10, 12, 13, 14, 15, 16, 17, 18, 19, 20, 21, 35, 51, 77, 142, 145, 168, 170, 208],
 (.seq (.ops [⟨(.var 4), .mov (.c (.bool false)), .none⟩])
 (.seq (.ops [⟨.tmp, .call (.c (.fn 9 [])) [], .none⟩,
   ⟨(.var 5), .mov (.t 0), .none⟩])
 (.seq (.ops [⟨.tmp, .mov (.v 0), .none⟩,
   ⟨.tmp, .call (.c (.fn 10 [])) [(.t 0)], .none⟩,
   ⟨.tmp, .mov (.t 1), .none⟩,
   ⟨.tmp, .ext (.t 2) 0, .none⟩,
   ⟨.tmp, .ext (.t 2) 1, .none⟩,
   ⟨.tmp, .ext (.t 2) 2, .none⟩,
   ⟨(.var 6), .mov (.t 3), .none⟩,
   ⟨.tmp, .mov (.t 4), .none⟩,
   ⟨(.var 7), .mov (.t 5), .none⟩])
 (.seq (.seq (.ops [⟨.tmp, .mov (.v 7), .none⟩,
   ⟨.tmp, .un .not (.t 0), .none⟩,
   ⟨.tmp, .mov (.t 1), .none⟩,
   ⟨.tmp, .mov (.v 1), (some ((.t 2), false))⟩,
   ⟨.tmp, .len (.t 3), (some ((.t 2), false))⟩,
   ⟨.tmp, .bin .gtr .arith (.t 4) (.c (.int .i64 60)), (some ((.t 2), false))⟩,
   ⟨(.var 17), .pick (.t 2) (.c (.bool true)) (.t 5), .none⟩])
 (.cond (.v 17)
  (.seq (.ops [⟨.tmp, .mov (.v 5), .none⟩,
    ⟨.tmp, .mov (.t 0), .none⟩,
    ⟨.tmp, .mov (.v 7), (some ((.t 1), true))⟩,
    ⟨.tmp, .mov (.t 2), (some ((.t 1), true))⟩,
    ⟨.tmp, .mov (.v 0), (some ((.t 3), false))⟩,
    ⟨.tmp, .bin .lss .arith (.t 4) (.c (.int .i64 1)), (some ((.t 3), false))⟩,
    ⟨.tmp, .pick (.t 3) (.c (.bool true)) (.t 5), (some ((.t 1), true))⟩,
    ⟨.tmp, .mov (.t 6), (some ((.t 1), true))⟩,
    ⟨.tmp, .mov (.v 0), (some ((.t 7), false))⟩,
    ⟨.tmp, .bin .gtr .arith (.t 8) (.c (.int .i64 64)), (some ((.t 7), false))⟩,
    ⟨.tmp, .pick (.t 7) (.c (.bool true)) (.t 9), (some ((.t 1), true))⟩,
    ⟨.tmp, .pick (.t 1) (.t 10) (.c (.bool false)), .none⟩,
    ⟨(.var 4), .mov (.t 11), .none⟩])
  .ret)
  .skip))
 (.seq (.seq (.ops [⟨(.var 8), .mov (.c (.int .i64 0)), .none⟩])
 (.block 0 (.loop (.seq (.seq (.ops [⟨.tmp, .mov (.v 8), .none⟩,
     ⟨.tmp, .mov (.v 1), .none⟩,
     ⟨.tmp, .len (.t 1), .none⟩,
     ⟨(.var 18), .bin .lss .arith (.t 0) (.t 2), .none⟩])
   (.cond (.v 18)
    .skip
    (.exit 0)))
   (.seq (.block 1 (.ops [⟨.tmp, .mov (.v 6), .none⟩,
      ⟨.tmp, .mov (.v 1), .none⟩,
      ⟨.tmp, .mov (.v 8), .none⟩,
      ⟨.tmp, .iaddr 5 (.t 1) (.t 2), .none⟩,
      ⟨.tmp, .load 5 true (.t 3), .none⟩,
      ⟨.tmp, .call (.c (.fn 11 [])) [(.t 0), (.t 4)], .none⟩]))
   (.ops [⟨.tmp, .mov (.v 8), .none⟩,
     ⟨.tmp, .bin .add .arith (.t 0) (.c (.int .i64 1)), .none⟩,
     ⟨(.var 8), .mov (.t 1), .none⟩]))))))
 (.seq (.ops [⟨.tmp, .mov (.v 6), .none⟩,
   ⟨.tmp, .call (.c (.fn 15 [])) [(.t 0)], .none⟩,
   ⟨(.var 9), .mov (.t 1), .none⟩])
 (.seq (.ops [⟨.tmp, .mov (.v 6), .none⟩,
   ⟨.tmp, .mov (.v 2), .none⟩,
   ⟨.tmp, .mov (.v 3), .none⟩,
   ⟨.tmp, .call (.c (.fn 19 [])) [(.t 0), (.t 1), (.t 2)], .none⟩,
   ⟨(.var 10), .mov (.t 3), .none⟩])
 (.seq (.ops [⟨.tmp, .mov (.v 6), .none⟩,
   ⟨.tmp, .call (.c (.fn 15 [])) [(.t 0)], .none⟩,
   ⟨(.var 11), .mov (.t 1), .none⟩])
 (.seq (.ops [⟨.tmp, .mov (.v 6), .none⟩,
   ⟨.tmp, .mov (.v 2), .none⟩,
   ⟨.tmp, .mov (.v 3), .none⟩,
   ⟨.tmp, .call (.c (.fn 19 [])) [(.t 0), (.t 1), (.t 2)], .none⟩,
   ⟨(.var 12), .mov (.t 3), .none⟩])
 (.seq (.ops [⟨.tmp, .mov (.v 9), .none⟩,
   ⟨.tmp, .mov (.v 6), .none⟩,
   ⟨.tmp, .call (.c (.fn 15 [])) [(.t 1)], .none⟩,
   ⟨.tmp, .pcall 21 [(.t 0), (.t 2)], .none⟩,
   ⟨(.var 13), .mov (.t 3), .none⟩])
 (.seq (.seq (.ops [⟨.tmp, .mov (.v 10), .none⟩,
   ⟨(.var 19), .bin .neq .arith (.t 0) (.c (.int .i64 0)), .none⟩])
 (.cond (.v 19)
  (.seq (.ops [⟨.tmp, .mov (.v 5), .none⟩,
    ⟨.tmp, .mov (.t 0), .none⟩,
    ⟨.tmp, .mov (.v 10), (some ((.t 1), true))⟩,
    ⟨.tmp, .bin .eql .arith (.t 2) (.c (.int .i64 1)), (some ((.t 1), true))⟩,
    ⟨.tmp, .pick (.t 1) (.t 3) (.c (.bool false)), .none⟩,
    ⟨.tmp, .mov (.t 4), .none⟩,
    ⟨.tmp, .mov (.v 12), (some ((.t 5), true))⟩,
    ⟨.tmp, .mov (.v 10), (some ((.t 5), true))⟩,
    ⟨.tmp, .bin .eql .arith (.t 6) (.t 7), (some ((.t 5), true))⟩,
    ⟨.tmp, .pick (.t 5) (.t 8) (.c (.bool false)), .none⟩,
    ⟨.tmp, .mov (.t 9), .none⟩,
    ⟨.tmp, .mov (.v 13), (some ((.t 10), true))⟩,
    ⟨.tmp, .pick (.t 10) (.t 11) (.c (.bool false)), .none⟩,
    ⟨.tmp, .mov (.t 12), .none⟩,
    ⟨.tmp, .mov (.v 2), (some ((.t 13), true))⟩,
    ⟨.tmp, .bin .lss .arith (.t 14) (.c (.int .i64 0)), (some ((.t 13), true))⟩,
    ⟨.tmp, .mov (.t 15), (some ((.t 13), true))⟩,
    ⟨.tmp, .mov (.v 2), (some ((.t 16), false))⟩,
    ⟨.tmp, .mov (.v 0), (some ((.t 16), false))⟩,
    ⟨.tmp, .bin .geq .arith (.t 17) (.t 18), (some ((.t 16), false))⟩,
    ⟨.tmp, .pick (.t 16) (.c (.bool true)) (.t 19), (some ((.t 13), true))⟩,
    ⟨.tmp, .mov (.t 20), (some ((.t 13), true))⟩,
    ⟨.tmp, .mov (.v 3), (some ((.t 21), false))⟩,
    ⟨.tmp, .bin .lss .arith (.t 22) (.c (.int .i64 0)), (some ((.t 21), false))⟩,
    ⟨.tmp, .pick (.t 21) (.c (.bool true)) (.t 23), (some ((.t 13), true))⟩,
    ⟨.tmp, .mov (.t 24), (some ((.t 13), true))⟩,
    ⟨.tmp, .mov (.v 3), (some ((.t 25), false))⟩,
    ⟨.tmp, .bin .gtr .arith (.t 26) (.c (.int .i64 511)), (some ((.t 25), false))⟩,
    ⟨.tmp, .pick (.t 25) (.c (.bool true)) (.t 27), (some ((.t 13), true))⟩,
    ⟨.tmp, .pick (.t 13) (.t 28) (.c (.bool false)), .none⟩,
    ⟨(.var 4), .mov (.t 29), .none⟩])
  .ret)
  .skip))
 (.seq (.seq (.ops [⟨.tmp, .mov (.v 9), .none⟩,
   ⟨.tmp, .len (.t 0), .none⟩,
   ⟨.tmp, .mov (.v 0), .none⟩,
   ⟨.tmp, .bin .neq .arith (.t 1) (.t 2), .none⟩,
   ⟨.tmp, .mov (.t 3), .none⟩,
   ⟨.tmp, .mov (.v 11), (some ((.t 4), false))⟩,
   ⟨.tmp, .len (.t 5), (some ((.t 4), false))⟩,
   ⟨.tmp, .mov (.v 0), (some ((.t 4), false))⟩,
   ⟨.tmp, .bin .neq .arith (.t 6) (.t 7), (some ((.t 4), false))⟩,
   ⟨.tmp, .pick (.t 4) (.c (.bool true)) (.t 8), .none⟩,
   ⟨.tmp, .mov (.t 9), .none⟩,
   ⟨.tmp, .mov (.v 12), (some ((.t 10), false))⟩,
   ⟨.tmp, .bin .neq .arith (.t 11) (.c (.int .i64 0)), (some ((.t 10), false))⟩,
   ⟨.tmp, .pick (.t 10) (.c (.bool true)) (.t 12), .none⟩,
   ⟨.tmp, .mov (.t 13), .none⟩,
   ⟨.tmp, .mov (.v 13), (some ((.t 14), false))⟩,
   ⟨.tmp, .un .not (.t 15), (some ((.t 14), false))⟩,
   ⟨.tmp, .pick (.t 14) (.c (.bool true)) (.t 16), .none⟩,
   ⟨.tmp, .mov (.t 17), .none⟩,
   ⟨.tmp, .mov (.v 2), (some ((.t 18), false))⟩,
   ⟨.tmp, .bin .lss .arith (.t 19) (.c (.int .i64 0)), (some ((.t 18), false))⟩,
   ⟨.tmp, .pick (.t 18) (.c (.bool true)) (.t 20), .none⟩,
   ⟨.tmp, .mov (.t 21), .none⟩,
   ⟨.tmp, .mov (.v 2), (some ((.t 22), false))⟩,
   ⟨.tmp, .mov (.v 0), (some ((.t 22), false))⟩,
   ⟨.tmp, .bin .geq .arith (.t 23) (.t 24), (some ((.t 22), false))⟩,
   ⟨.tmp, .pick (.t 22) (.c (.bool true)) (.t 25), .none⟩,
   ⟨.tmp, .mov (.t 26), .none⟩,
   ⟨.tmp, .mov (.v 3), (some ((.t 27), false))⟩,
   ⟨.tmp, .bin .lss .arith (.t 28) (.c (.int .i64 0)), (some ((.t 27), false))⟩,
   ⟨.tmp, .pick (.t 27) (.c (.bool true)) (.t 29), .none⟩,
   ⟨.tmp, .mov (.t 30), .none⟩,
   ⟨.tmp, .mov (.v 3), (some ((.t 31), false))⟩,
   ⟨.tmp, .bin .gtr .arith (.t 32) (.c (.int .i64 511)), (some ((.t 31), false))⟩,
   ⟨(.var 20), .pick (.t 31) (.c (.bool true)) (.t 33), .none⟩])
 (.cond (.v 20)
  (.seq (.ops [⟨(.var 4), .mov (.c (.bool false)), .none⟩])
  .ret)
  .skip))
 (.seq (.seq (.ops [⟨(.var 14), .mov (.c (.int .i64 0)), .none⟩])
 (.block 2 (.loop (.seq (.seq (.ops [⟨.tmp, .mov (.v 14), .none⟩,
     ⟨.tmp, .mov (.v 0), .none⟩,
     ⟨(.var 21), .bin .lss .arith (.t 0) (.t 1), .none⟩])
   (.cond (.v 21)
    .skip
    (.exit 2)))
   (.seq (.block 3 (.seq (.ops [⟨.tmp, .mov (.v 9), .none⟩,
      ⟨.tmp, .mov (.v 14), .none⟩,
      ⟨.tmp, .iaddr 1 (.t 0) (.t 1), .none⟩,
      ⟨.tmp, .load 1 false (.t 2), .none⟩,
      ⟨.tmp, .mov (.v 11), .none⟩,
      ⟨.tmp, .mov (.v 14), .none⟩,
      ⟨.tmp, .iaddr 1 (.t 4) (.t 5), .none⟩,
      ⟨.tmp, .load 1 false (.t 6), .none⟩,
      ⟨.tmp, .bin .eql .arith (.t 3) (.t 7), .none⟩,
      ⟨.tmp, .mov (.v 14), .none⟩,
      ⟨.tmp, .mov (.v 2), .none⟩,
      ⟨.tmp, .bin .eql .arith (.t 9) (.t 10), .none⟩,
      ⟨.tmp, .bin .eql .bool (.t 8) (.t 11), .none⟩,
      ⟨.tmp, .mov (.t 12), .none⟩,
      ⟨.tmp, .mov (.v 11), (some ((.t 13), false))⟩,
      ⟨.tmp, .mov (.v 14), (some ((.t 13), false))⟩,
      ⟨.tmp, .iaddr 1 (.t 14) (.t 15), (some ((.t 13), false))⟩,
      ⟨.tmp, .load 1 false (.t 16), (some ((.t 13), false))⟩,
      ⟨.tmp, .slen (.t 17), (some ((.t 13), false))⟩,
      ⟨.tmp, .bin .neq .arith (.t 18) (.c (.int .i64 64)), (some ((.t 13), false))⟩,
      ⟨(.var 22), .pick (.t 13) (.c (.bool true)) (.t 19), .none⟩])
    (.cond (.v 22)
     (.seq (.ops [⟨(.var 4), .mov (.c (.bool false)), .none⟩])
     .ret)
     .skip)))
   (.ops [⟨.tmp, .mov (.v 14), .none⟩,
     ⟨.tmp, .bin .add .arith (.t 0) (.c (.int .i64 1)), .none⟩,
     ⟨(.var 14), .mov (.t 1), .none⟩]))))))
 (.seq (.seq (.ops [⟨(.var 15), .mov (.c (.int .i64 0)), .none⟩])
 (.block 4 (.loop (.seq (.seq (.ops [⟨.tmp, .mov (.v 15), .none⟩,
     ⟨(.var 23), .bin .lss .arith (.t 0) (.c (.int .i64 64)), .none⟩])
   (.cond (.v 23)
    .skip
    (.exit 4)))
   (.seq (.block 5 (.seq (.ops [⟨.tmp, .mov (.v 9), .none⟩,
      ⟨.tmp, .mov (.v 2), .none⟩,
      ⟨.tmp, .iaddr 1 (.t 0) (.t 1), .none⟩,
      ⟨.tmp, .load 1 false (.t 2), .none⟩,
      ⟨.tmp, .mov (.v 15), .none⟩,
      ⟨.tmp, .sidx (.t 3) (.t 4), .none⟩,
      ⟨.tmp, .toInt .i64 (.t 5), .none⟩,
      ⟨.tmp, .mov (.v 11), .none⟩,
      ⟨.tmp, .mov (.v 2), .none⟩,
      ⟨.tmp, .iaddr 1 (.t 7) (.t 8), .none⟩,
      ⟨.tmp, .load 1 false (.t 9), .none⟩,
      ⟨.tmp, .mov (.v 15), .none⟩,
      ⟨.tmp, .sidx (.t 10) (.t 11), .none⟩,
      ⟨.tmp, .toInt .i64 (.t 12), .none⟩,
      ⟨.tmp, .bin .xor .arith (.t 6) (.t 13), .none⟩,
      ⟨(.var 16), .mov (.t 14), .none⟩])
    (.seq (.ops [⟨.tmp, .mov (.v 15), .none⟩,
      ⟨.tmp, .mov (.v 3), .none⟩,
      ⟨.tmp, .bin .quo .arith (.t 1) (.c (.int .i64 8)), .none⟩,
      ⟨.tmp, .bin .eql .arith (.t 0) (.t 2), .none⟩,
      ⟨.tmp, .mov (.t 3), .none⟩,
      ⟨.tmp, .mov (.v 16), (some ((.t 4), true))⟩,
      ⟨.tmp, .mov (.v 3), (some ((.t 4), true))⟩,
      ⟨.tmp, .bin .rem .arith (.t 6) (.c (.int .i64 8)), (some ((.t 4), true))⟩,
      ⟨.tmp, .bin .shl .arith (.c (.int .i64 1)) (.t 7), (some ((.t 4), true))⟩,
      ⟨.tmp, .bin .neq .arith (.t 5) (.t 8), (some ((.t 4), true))⟩,
      ⟨.tmp, .pick (.t 4) (.t 9) (.c (.bool false)), .none⟩,
      ⟨.tmp, .mov (.t 10), .none⟩,
      ⟨.tmp, .mov (.v 15), (some ((.t 11), false))⟩,
      ⟨.tmp, .mov (.v 3), (some ((.t 11), false))⟩,
      ⟨.tmp, .bin .quo .arith (.t 13) (.c (.int .i64 8)), (some ((.t 11), false))⟩,
      ⟨.tmp, .bin .neq .arith (.t 12) (.t 14), (some ((.t 11), false))⟩,
      ⟨.tmp, .mov (.t 15), (some ((.t 11), false))⟩,
      ⟨.tmp, .mov (.v 16), (some ((.t 16), true))⟩,
      ⟨.tmp, .bin .neq .arith (.t 17) (.c (.int .i64 0)), (some ((.t 16), true))⟩,
      ⟨.tmp, .pick (.t 16) (.t 18) (.c (.bool false)), (some ((.t 11), false))⟩,
      ⟨(.var 24), .pick (.t 11) (.c (.bool true)) (.t 19), .none⟩])
    (.cond (.v 24)
     (.seq (.ops [⟨(.var 4), .mov (.c (.bool false)), .none⟩])
     .ret)
     .skip))))
   (.ops [⟨.tmp, .mov (.v 15), .none⟩,
     ⟨.tmp, .bin .add .arith (.t 0) (.c (.int .i64 1)), .none⟩,
     ⟨(.var 15), .mov (.t 1), .none⟩]))))))
 (.seq (.ops [⟨.tmp, .mov (.v 5), .none⟩,
   ⟨(.var 4), .mov (.t 0), .none⟩])
 .ret))))))))))))))),
 [4]⟩
def c8 : AFunc := ⟨[0, 1, 2, 3, 8, 9, 10, 11, 12, 13, 14, 15, 16, 17, 41, 57, 83, 87, 105],
 (.seq (.ops [⟨(.var 4), .mov (.c (.bool false)), .none⟩])
 (.seq (.ops [⟨.tmp, .call (.c (.fn 9 [])) [], .none⟩,
   ⟨(.var 5), .mov (.t 0), .none⟩])
 (.seq (.ops [⟨.tmp, .mov (.v 0), .none⟩,
   ⟨.tmp, .call (.c (.fn 10 [])) [(.t 0)], .none⟩,
   ⟨.tmp, .mov (.t 1), .none⟩,
   ⟨.tmp, .ext (.t 2) 0, .none⟩,
   ⟨.tmp, .ext (.t 2) 1, .none⟩,
   ⟨.tmp, .ext (.t 2) 2, .none⟩,
   ⟨(.var 6), .mov (.t 3), .none⟩,
   ⟨(.var 7), .mov (.t 4), .none⟩,
   ⟨(.var 8), .mov (.t 5), .none⟩])
 (.seq (.seq (.ops [⟨.tmp, .mov (.v 8), .none⟩,
   ⟨.tmp, .un .not (.t 0), .none⟩,
   ⟨.tmp, .mov (.t 1), .none⟩,
   ⟨.tmp, .mov (.v 1), (some ((.t 2), false))⟩,
   ⟨.tmp, .len (.t 3), (some ((.t 2), false))⟩,
   ⟨.tmp, .bin .gtr .arith (.t 4) (.c (.int .i64 60)), (some ((.t 2), false))⟩,
   ⟨.tmp, .pick (.t 2) (.c (.bool true)) (.t 5), .none⟩,
   ⟨.tmp, .mov (.t 6), .none⟩,
   ⟨.tmp, .mov (.v 2), (some ((.t 7), false))⟩,
   ⟨.tmp, .len (.t 8), (some ((.t 7), false))⟩,
   ⟨.tmp, .bin .gtr .arith (.t 9) (.c (.int .i64 60)), (some ((.t 7), false))⟩,
   ⟨.tmp, .pick (.t 7) (.c (.bool true)) (.t 10), .none⟩,
   ⟨.tmp, .mov (.t 11), .none⟩,
   ⟨.tmp, .mov (.v 3), (some ((.t 12), false))⟩,
   ⟨.tmp, .len (.t 13), (some ((.t 12), false))⟩,
   ⟨.tmp, .bin .gtr .arith (.t 14) (.c (.int .i64 60)), (some ((.t 12), false))⟩,
   ⟨(.var 14), .pick (.t 12) (.c (.bool true)) (.t 15), .none⟩])
 (.cond (.v 14)
  (.seq (.ops [⟨.tmp, .mov (.v 5), .none⟩,
    ⟨.tmp, .mov (.t 0), .none⟩,
    ⟨.tmp, .mov (.v 8), (some ((.t 1), true))⟩,
    ⟨.tmp, .mov (.t 2), (some ((.t 1), true))⟩,
    ⟨.tmp, .mov (.v 0), (some ((.t 3), false))⟩,
    ⟨.tmp, .bin .lss .arith (.t 4) (.c (.int .i64 1)), (some ((.t 3), false))⟩,
    ⟨.tmp, .pick (.t 3) (.c (.bool true)) (.t 5), (some ((.t 1), true))⟩,
    ⟨.tmp, .mov (.t 6), (some ((.t 1), true))⟩,
    ⟨.tmp, .mov (.v 0), (some ((.t 7), false))⟩,
    ⟨.tmp, .bin .gtr .arith (.t 8) (.c (.int .i64 64)), (some ((.t 7), false))⟩,
    ⟨.tmp, .pick (.t 7) (.c (.bool true)) (.t 9), (some ((.t 1), true))⟩,
    ⟨.tmp, .pick (.t 1) (.t 10) (.c (.bool false)), .none⟩,
    ⟨(.var 4), .mov (.t 11), .none⟩])
  .ret)
  .skip))
 (.seq (.seq (.ops [⟨(.var 9), .mov (.c (.int .i64 0)), .none⟩])
 (.block 0 (.loop (.seq (.seq (.ops [⟨.tmp, .mov (.v 9), .none⟩,
     ⟨.tmp, .mov (.v 1), .none⟩,
     ⟨.tmp, .len (.t 1), .none⟩,
     ⟨(.var 15), .bin .lss .arith (.t 0) (.t 2), .none⟩])
   (.cond (.v 15)
    .skip
    (.exit 0)))
   (.seq (.block 1 (.seq (.ops [⟨.tmp, .mov (.v 6), .none⟩,
      ⟨.tmp, .mov (.v 1), .none⟩,
      ⟨.tmp, .mov (.v 9), .none⟩,
      ⟨.tmp, .iaddr 5 (.t 1) (.t 2), .none⟩,
      ⟨.tmp, .load 5 true (.t 3), .none⟩,
      ⟨.tmp, .call (.c (.fn 11 [])) [(.t 0), (.t 4)], .none⟩])
    (.ops [⟨.tmp, .mov (.v 7), .none⟩,
      ⟨.tmp, .mov (.v 1), .none⟩,
      ⟨.tmp, .mov (.v 9), .none⟩,
      ⟨.tmp, .iaddr 5 (.t 1) (.t 2), .none⟩,
      ⟨.tmp, .load 5 true (.t 3), .none⟩,
      ⟨.tmp, .call (.c (.fn 12 [])) [(.t 0), (.t 4)], .none⟩])))
   (.ops [⟨.tmp, .mov (.v 9), .none⟩,
     ⟨.tmp, .bin .add .arith (.t 0) (.c (.int .i64 1)), .none⟩,
     ⟨(.var 9), .mov (.t 1), .none⟩]))))))
 (.seq (.ops [⟨.tmp, .mov (.v 6), .none⟩,
   ⟨.tmp, .call (.c (.fn 28 [])) [(.t 0)], .none⟩,
   ⟨(.var 10), .mov (.t 1), .none⟩])
 (.seq (.ops [⟨.tmp, .mov (.v 7), .none⟩,
   ⟨.tmp, .call (.c (.fn 29 [])) [(.t 0)], .none⟩,
   ⟨(.var 11), .mov (.t 1), .none⟩])
 (.seq (.seq (.ops [⟨.tmp, .mov (.v 10), .none⟩,
   ⟨.tmp, .bin .eql .ptr (.t 0) (.c .nilptr), .none⟩,
   ⟨.tmp, .mov (.t 1), .none⟩,
   ⟨.tmp, .mov (.v 10), (some ((.t 2), false))⟩,
   ⟨.tmp, .mov (.v 11), (some ((.t 2), false))⟩,
   ⟨.tmp, .call (.c (.fn 13 [])) [(.t 3), (.t 4)], (some ((.t 2), false))⟩,
   ⟨.tmp, .un .not (.t 5), (some ((.t 2), false))⟩,
   ⟨(.var 16), .pick (.t 2) (.c (.bool true)) (.t 6), .none⟩])
 (.cond (.v 16)
  (.seq (.ops [⟨(.var 4), .mov (.c (.bool false)), .none⟩])
  .ret)
  .skip))
 (.seq (.seq (.ops [⟨(.var 12), .mov (.c (.int .i64 0)), .none⟩])
 (.block 2 (.loop (.seq (.seq (.ops [⟨.tmp, .mov (.v 12), .none⟩,
     ⟨.tmp, .mov (.v 2), .none⟩,
     ⟨.tmp, .len (.t 1), .none⟩,
     ⟨(.var 17), .bin .lss .arith (.t 0) (.t 2), .none⟩])
   (.cond (.v 17)
    .skip
    (.exit 2)))
   (.seq (.block 3 (.seq (.ops [⟨.tmp, .mov (.v 6), .none⟩,
      ⟨.tmp, .mov (.v 2), .none⟩,
      ⟨.tmp, .mov (.v 12), .none⟩,
      ⟨.tmp, .iaddr 5 (.t 1) (.t 2), .none⟩,
      ⟨.tmp, .load 5 true (.t 3), .none⟩,
      ⟨.tmp, .call (.c (.fn 11 [])) [(.t 0), (.t 4)], .none⟩])
    (.ops [⟨.tmp, .mov (.v 7), .none⟩,
      ⟨.tmp, .mov (.v 2), .none⟩,
      ⟨.tmp, .mov (.v 12), .none⟩,
      ⟨.tmp, .iaddr 5 (.t 1) (.t 2), .none⟩,
      ⟨.tmp, .load 5 true (.t 3), .none⟩,
      ⟨.tmp, .call (.c (.fn 12 [])) [(.t 0), (.t 4)], .none⟩])))
   (.ops [⟨.tmp, .mov (.v 12), .none⟩,
     ⟨.tmp, .bin .add .arith (.t 0) (.c (.int .i64 1)), .none⟩,
     ⟨(.var 12), .mov (.t 1), .none⟩]))))))
 (.seq (.seq (.ops [⟨(.var 13), .mov (.c (.int .i64 0)), .none⟩])
 (.block 4 (.loop (.seq (.seq (.ops [⟨.tmp, .mov (.v 13), .none⟩,
     ⟨.tmp, .mov (.v 3), .none⟩,
     ⟨.tmp, .len (.t 1), .none⟩,
     ⟨(.var 18), .bin .lss .arith (.t 0) (.t 2), .none⟩])
   (.cond (.v 18)
    .skip
    (.exit 4)))
   (.seq (.block 5 (.seq (.ops [⟨.tmp, .mov (.v 10), .none⟩,
      ⟨.tmp, .mov (.v 3), .none⟩,
      ⟨.tmp, .mov (.v 13), .none⟩,
      ⟨.tmp, .iaddr 5 (.t 1) (.t 2), .none⟩,
      ⟨.tmp, .load 5 true (.t 3), .none⟩,
      ⟨.tmp, .call (.c (.fn 11 [])) [(.t 0), (.t 4)], .none⟩])
    (.ops [⟨.tmp, .mov (.v 11), .none⟩,
      ⟨.tmp, .mov (.v 3), .none⟩,
      ⟨.tmp, .mov (.v 13), .none⟩,
      ⟨.tmp, .iaddr 5 (.t 1) (.t 2), .none⟩,
      ⟨.tmp, .load 5 true (.t 3), .none⟩,
      ⟨.tmp, .call (.c (.fn 12 [])) [(.t 0), (.t 4)], .none⟩])))
   (.ops [⟨.tmp, .mov (.v 13), .none⟩,
     ⟨.tmp, .bin .add .arith (.t 0) (.c (.int .i64 1)), .none⟩,
     ⟨(.var 13), .mov (.t 1), .none⟩]))))))
 (.seq (.ops [⟨.tmp, .mov (.v 5), .none⟩,
   ⟨.tmp, .mov (.t 0), .none⟩,
   ⟨.tmp, .mov (.v 6), (some ((.t 1), true))⟩,
   ⟨.tmp, .mov (.v 7), (some ((.t 1), true))⟩,
   ⟨.tmp, .call (.c (.fn 13 [])) [(.t 2), (.t 3)], (some ((.t 1), true))⟩,
   ⟨.tmp, .pick (.t 1) (.t 4) (.c (.bool false)), .none⟩,
   ⟨.tmp, .mov (.t 5), .none⟩,
   ⟨.tmp, .mov (.v 10), (some ((.t 6), true))⟩,
   ⟨.tmp, .mov (.v 11), (some ((.t 6), true))⟩,
   ⟨.tmp, .call (.c (.fn 13 [])) [(.t 7), (.t 8)], (some ((.t 6), true))⟩,
   ⟨.tmp, .pick (.t 6) (.t 9) (.c (.bool false)), .none⟩,
   ⟨(.var 4), .mov (.t 10), .none⟩])
 .ret))))))))))),
 [4]⟩
def c9 : AFunc := ⟨[0, 1, 2, 3, 4, 5, 6, 7, 8, 9, 10, 11, 12, 13, 14, 15, 16, 17, 19, 21, 22, 23, 24, 25, 35, 104],
 (.seq (.ops [⟨(.var 0), .mov (.c (.bool false)), .none⟩])
 (.seq (.ops [⟨.tmp, .call (.c (.fn 14 [])) [(.c (.int .i64 2))], .none⟩,
   ⟨.tmp, .mov (.t 0), .none⟩,
   ⟨.tmp, .ext (.t 1) 0, .none⟩,
   ⟨.tmp, .ext (.t 1) 1, .none⟩,
   ⟨(.var 1), .mov (.t 2), .none⟩,
   ⟨(.var 2), .mov (.t 3), .none⟩])
 (.seq (.seq (.ops [⟨.tmp, .mov (.v 2), .none⟩,
   ⟨.tmp, .bin .neq .arith (.t 0) (.c (.int .i64 0)), .none⟩,
   ⟨.tmp, .mov (.t 1), .none⟩,
   ⟨.tmp, .mov (.v 1), (some ((.t 2), false))⟩,
   ⟨.tmp, .bin .eql .ptr (.t 3) (.c .nilptr), (some ((.t 2), false))⟩,
   ⟨(.var 24), .pick (.t 2) (.c (.bool true)) (.t 4), .none⟩])
 (.cond (.v 24)
  (.seq (.ops [⟨(.var 0), .mov (.c (.bool false)), .none⟩])
  .ret)
  .skip))
 (.seq (.ops [⟨.tmp, .mov (.v 1), .none⟩,
   ⟨.tmp, .pcall 18 [(.c (.int .u8 97))], .none⟩,
   ⟨.tmp, .call (.c (.fn 17 [])) [(.t 0), (.c (.int .i64 0)), (.t 1)], .none⟩,
   ⟨(.var 3), .mov (.t 2), .none⟩])
 (.seq (.ops [⟨.tmp, .mov (.v 1), .none⟩,
   ⟨.tmp, .call (.c (.fn 16 [])) [(.t 0), (.c (.int .i64 0))], .none⟩,
   ⟨.tmp, .mov (.t 1), .none⟩,
   ⟨.tmp, .ext (.t 2) 0, .none⟩,
   ⟨.tmp, .ext (.t 2) 1, .none⟩,
   ⟨(.var 4), .mov (.t 3), .none⟩,
   ⟨(.var 5), .mov (.t 4), .none⟩])
 (.seq (.ops [⟨.tmp, .mov (.v 1), .none⟩,
   ⟨.tmp, .call (.c (.fn 15 [])) [(.t 0)], .none⟩,
   ⟨(.var 6), .mov (.t 1), .none⟩])
 (.seq (.ops [⟨.tmp, .mov (.v 1), .none⟩,
   ⟨.tmp, .call (.c (.fn 22 [])) [(.t 0)], .none⟩,
   ⟨(.var 7), .mov (.t 1), .none⟩])
 (.seq (.ops [⟨.tmp, .mov (.v 1), .none⟩,
   ⟨.tmp, .call (.c (.fn 28 [])) [(.t 0)], .none⟩,
   ⟨(.var 8), .mov (.t 1), .none⟩])
 (.seq (.ops [⟨.tmp, .mov (.v 1), .none⟩,
   ⟨.tmp, .lit 0 3 1 1 false [(.int .i64 0)] [(0, (.c (.int .i64 3)))], .none⟩,
   ⟨.tmp, .call (.c (.fn 26 [])) [(.t 0), (.t 1)], .none⟩])
 (.seq (.ops [⟨.tmp, .mov (.v 1), .none⟩,
   ⟨.tmp, .call (.c (.fn 16 [])) [(.t 0), (.c (.int .i64 0))], .none⟩,
   ⟨.tmp, .mov (.t 1), .none⟩,
   ⟨.tmp, .ext (.t 2) 0, .none⟩,
   ⟨.tmp, .ext (.t 2) 1, .none⟩,
   ⟨(.var 9), .mov (.t 3), .none⟩,
   ⟨(.var 10), .mov (.t 4), .none⟩])
 (.seq (.ops [⟨.tmp, .mov (.v 1), .none⟩,
   ⟨.tmp, .pcall 18 [(.c (.int .u8 97))], .none⟩,
   ⟨.tmp, .call (.c (.fn 17 [])) [(.t 0), (.c (.int .i64 1)), (.t 1)], .none⟩])
 (.seq (.ops [⟨.tmp, .mov (.v 1), .none⟩,
   ⟨.tmp, .call (.c (.fn 25 [])) [(.t 0)], .none⟩,
   ⟨(.var 11), .mov (.t 1), .none⟩])
 (.seq (.ops [⟨.tmp, .mov (.v 1), .none⟩,
   ⟨.tmp, .call (.c (.fn 19 [])) [(.t 0), (.c (.int .i64 1)), (.c (.int .i64 0))], .none⟩,
   ⟨(.var 12), .mov (.t 1), .none⟩])
 (.seq (.ops [⟨.tmp, .mov (.v 1), .none⟩,
   ⟨.tmp, .call (.c (.fn 16 [])) [(.t 0), (.c (.int .i64 1))], .none⟩,
   ⟨.tmp, .mov (.t 1), .none⟩,
   ⟨.tmp, .ext (.t 2) 0, .none⟩,
   ⟨.tmp, .ext (.t 2) 1, .none⟩,
   ⟨(.var 13), .mov (.t 3), .none⟩,
   ⟨(.var 14), .mov (.t 4), .none⟩])
 (.seq (.ops [⟨.tmp, .mov (.v 1), .none⟩,
   ⟨.tmp, .call (.c (.fn 20 [])) [(.t 0), (.c (.int .i64 0))], .none⟩,
   ⟨(.var 15), .mov (.t 1), .none⟩])
 (.seq (.ops [⟨.tmp, .mov (.v 1), .none⟩,
   ⟨.tmp, .call (.c (.fn 30 [])) [(.t 0), (.c (.int .i64 1))], .none⟩])
 (.seq (.ops [⟨.tmp, .mov (.v 1), .none⟩,
   ⟨.tmp, .pcall 18 [(.c (.int .u8 98))], .none⟩,
   ⟨.tmp, .call (.c (.fn 17 [])) [(.t 0), (.c (.int .i64 0)), (.t 1)], .none⟩,
   ⟨(.var 16), .mov (.t 2), .none⟩])
 (.seq (.ops [⟨.tmp, .mov (.v 1), .none⟩,
   ⟨.tmp, .call (.c (.fn 25 [])) [(.t 0)], .none⟩,
   ⟨(.var 17), .mov (.t 1), .none⟩])
 (.seq (.ops [⟨.tmp, .mov (.v 1), .none⟩,
   ⟨.tmp, .call (.c (.fn 16 [])) [(.t 0), (.c (.int .i64 0))], .none⟩,
   ⟨.tmp, .mov (.t 1), .none⟩,
   ⟨.tmp, .ext (.t 2) 0, .none⟩,
   ⟨.tmp, .ext (.t 2) 1, .none⟩,
   ⟨.tmp, .mov (.t 3), .none⟩,
   ⟨(.var 18), .mov (.t 4), .none⟩])
 (.seq (.ops [⟨.tmp, .call (.c (.fn 14 [])) [(.c (.int .i64 0))], .none⟩,
   ⟨.tmp, .mov (.t 0), .none⟩,
   ⟨.tmp, .ext (.t 1) 0, .none⟩,
   ⟨.tmp, .ext (.t 1) 1, .none⟩,
   ⟨.tmp, .mov (.t 2), .none⟩,
   ⟨(.var 19), .mov (.t 3), .none⟩])
 (.seq (.seq (.ops [⟨.tmp, .mov (.v 8), .none⟩,
   ⟨.tmp, .bin .eql .ptr (.t 0) (.c .nilptr), .none⟩,
   ⟨.tmp, .mov (.t 1), .none⟩,
   ⟨.tmp, .mov (.v 6), (some ((.t 2), false))⟩,
   ⟨.tmp, .len (.t 3), (some ((.t 2), false))⟩,
   ⟨.tmp, .bin .neq .arith (.t 4) (.c (.int .i64 2)), (some ((.t 2), false))⟩,
   ⟨.tmp, .pick (.t 2) (.c (.bool true)) (.t 5), .none⟩,
   ⟨.tmp, .mov (.t 6), .none⟩,
   ⟨.tmp, .mov (.v 7), (some ((.t 7), false))⟩,
   ⟨.tmp, .len (.t 8), (some ((.t 7), false))⟩,
   ⟨.tmp, .bin .neq .arith (.t 9) (.c (.int .i64 1)), (some ((.t 7), false))⟩,
   ⟨.tmp, .pick (.t 7) (.c (.bool true)) (.t 10), .none⟩,
   ⟨.tmp, .mov (.t 11), .none⟩,
   ⟨.tmp, .mov (.v 13), (some ((.t 12), false))⟩,
   ⟨.tmp, .slen (.t 13), (some ((.t 12), false))⟩,
   ⟨.tmp, .bin .neq .arith (.t 14) (.c (.int .i64 64)), (some ((.t 12), false))⟩,
   ⟨(.var 25), .pick (.t 12) (.c (.bool true)) (.t 15), .none⟩])
 (.cond (.v 25)
  (.seq (.ops [⟨(.var 0), .mov (.c (.bool false)), .none⟩])
  .ret)
  .skip))
 (.seq (.ops [⟨.tmp, .mov (.v 8), .none⟩,
   ⟨.tmp, .call (.c (.fn 16 [])) [(.t 0), (.c (.int .i64 0))], .none⟩,
   ⟨.tmp, .mov (.t 1), .none⟩,
   ⟨.tmp, .ext (.t 2) 0, .none⟩,
   ⟨.tmp, .ext (.t 2) 1, .none⟩,
   ⟨(.var 20), .mov (.t 3), .none⟩,
   ⟨(.var 21), .mov (.t 4), .none⟩])
 (.seq (.ops [⟨.tmp, .mov (.v 1), .none⟩,
   ⟨.tmp, .call (.c (.fn 23 [])) [(.t 0)], .none⟩,
   ⟨(.var 22), .mov (.t 1), .none⟩])
 (.seq (.ops [⟨.tmp, .mov (.v 3), .none⟩,
   ⟨.tmp, .bin .eql .arith (.t 0) (.c (.int .i64 0)), .none⟩,
   ⟨.tmp, .mov (.t 1), .none⟩,
   ⟨.tmp, .mov (.v 5), (some ((.t 2), true))⟩,
   ⟨.tmp, .bin .eql .arith (.t 3) (.c (.int .i64 0)), (some ((.t 2), true))⟩,
   ⟨.tmp, .pick (.t 2) (.t 4) (.c (.bool false)), .none⟩,
   ⟨.tmp, .mov (.t 5), .none⟩,
   ⟨.tmp, .mov (.v 10), (some ((.t 6), true))⟩,
   ⟨.tmp, .bin .eql .arith (.t 7) (.c (.int .i64 0)), (some ((.t 6), true))⟩,
   ⟨.tmp, .pick (.t 6) (.t 8) (.c (.bool false)), .none⟩,
   ⟨.tmp, .mov (.t 9), .none⟩,
   ⟨.tmp, .mov (.v 11), (some ((.t 10), true))⟩,
   ⟨.tmp, .bin .eql .arith (.t 11) (.c (.int .i64 0)), (some ((.t 10), true))⟩,
   ⟨.tmp, .pick (.t 10) (.t 12) (.c (.bool false)), .none⟩,
   ⟨.tmp, .mov (.t 13), .none⟩,
   ⟨.tmp, .mov (.v 12), (some ((.t 14), true))⟩,
   ⟨.tmp, .bin .eql .arith (.t 15) (.c (.int .i64 0)), (some ((.t 14), true))⟩,
   ⟨.tmp, .pick (.t 14) (.t 16) (.c (.bool false)), .none⟩,
   ⟨.tmp, .mov (.t 17), .none⟩,
   ⟨.tmp, .mov (.v 14), (some ((.t 18), true))⟩,
   ⟨.tmp, .bin .eql .arith (.t 19) (.c (.int .i64 0)), (some ((.t 18), true))⟩,
   ⟨.tmp, .pick (.t 18) (.t 20) (.c (.bool false)), .none⟩,
   ⟨.tmp, .mov (.t 21), .none⟩,
   ⟨.tmp, .mov (.v 15), (some ((.t 22), true))⟩,
   ⟨.tmp, .bin .eql .arith (.t 23) (.c (.int .i64 0)), (some ((.t 22), true))⟩,
   ⟨.tmp, .pick (.t 22) (.t 24) (.c (.bool false)), .none⟩,
   ⟨.tmp, .mov (.t 25), .none⟩,
   ⟨.tmp, .mov (.v 16), (some ((.t 26), true))⟩,
   ⟨.tmp, .bin .eql .arith (.t 27) (.c (.int .i64 0)), (some ((.t 26), true))⟩,
   ⟨.tmp, .pick (.t 26) (.t 28) (.c (.bool false)), .none⟩,
   ⟨.tmp, .mov (.t 29), .none⟩,
   ⟨.tmp, .mov (.v 21), (some ((.t 30), true))⟩,
   ⟨.tmp, .bin .eql .arith (.t 31) (.c (.int .i64 0)), (some ((.t 30), true))⟩,
   ⟨.tmp, .pick (.t 30) (.t 32) (.c (.bool false)), .none⟩,
   ⟨(.var 23), .mov (.t 33), .none⟩])
 (.seq (.ops [⟨.tmp, .mov (.v 23), .none⟩,
   ⟨.tmp, .mov (.t 0), .none⟩,
   ⟨.tmp, .mov (.v 4), (some ((.t 1), true))⟩,
   ⟨.tmp, .pcall 18 [(.c (.int .u8 97))], (some ((.t 1), true))⟩,
   ⟨.tmp, .bin .eql .arith (.t 2) (.t 3), (some ((.t 1), true))⟩,
   ⟨.tmp, .pick (.t 1) (.t 4) (.c (.bool false)), .none⟩,
   ⟨.tmp, .mov (.t 5), .none⟩,
   ⟨.tmp, .mov (.v 6), (some ((.t 6), true))⟩,
   ⟨.tmp, .iaddr 1 (.t 7) (.c (.int .i64 0)), (some ((.t 6), true))⟩,
   ⟨.tmp, .load 1 false (.t 8), (some ((.t 6), true))⟩,
   ⟨.tmp, .pcall 18 [(.c (.int .u8 0))], (some ((.t 6), true))⟩,
   ⟨.tmp, .bin .eql .arith (.t 9) (.t 10), (some ((.t 6), true))⟩,
   ⟨.tmp, .pick (.t 6) (.t 11) (.c (.bool false)), .none⟩,
   ⟨.tmp, .mov (.t 12), .none⟩,
   ⟨.tmp, .mov (.v 7), (some ((.t 13), true))⟩,
   ⟨.tmp, .iaddr 1 (.t 14) (.c (.int .i64 0)), (some ((.t 13), true))⟩,
   ⟨.tmp, .load 1 false (.t 15), (some ((.t 13), true))⟩,
   ⟨.tmp, .bin .eql .arith (.t 16) (.c (.int .i64 0)), (some ((.t 13), true))⟩,
   ⟨.tmp, .pick (.t 13) (.t 17) (.c (.bool false)), .none⟩,
   ⟨.tmp, .mov (.t 18), .none⟩,
   ⟨.tmp, .mov (.v 9), (some ((.t 19), true))⟩,
   ⟨.tmp, .pcall 18 [(.c (.int .u8 0))], (some ((.t 19), true))⟩,
   ⟨.tmp, .sslice (.t 21) (some (.c (.int .i64 3))) .none, (some ((.t 19), true))⟩,
   ⟨.tmp, .bin .add .arith (.c (.str [97, 97, 97])) (.t 22), (some ((.t 19), true))⟩,
   ⟨.tmp, .bin .eql .arith (.t 20) (.t 23), (some ((.t 19), true))⟩,
   ⟨.tmp, .pick (.t 19) (.t 24) (.c (.bool false)), .none⟩,
   ⟨.tmp, .mov (.t 25), .none⟩,
   ⟨.tmp, .mov (.v 13), (some ((.t 26), true))⟩,
   ⟨.tmp, .sidx (.t 27) (.c (.int .i64 0)), (some ((.t 26), true))⟩,
   ⟨.tmp, .bin .eql .arith (.t 28) (.c (.int .u8 96)), (some ((.t 26), true))⟩,
   ⟨.tmp, .pick (.t 26) (.t 29) (.c (.bool false)), .none⟩,
   ⟨.tmp, .mov (.t 30), .none⟩,
   ⟨.tmp, .mov (.v 17), (some ((.t 31), true))⟩,
   ⟨.tmp, .bin .eql .arith (.t 32) (.c (.int .i64 21)), (some ((.t 31), true))⟩,
   ⟨.tmp, .pick (.t 31) (.t 33) (.c (.bool false)), .none⟩,
   ⟨.tmp, .mov (.t 34), .none⟩,
   ⟨.tmp, .mov (.v 18), (some ((.t 35), true))⟩,
   ⟨.tmp, .bin .eql .arith (.t 36) (.c (.int .i64 21)), (some ((.t 35), true))⟩,
   ⟨.tmp, .pick (.t 35) (.t 37) (.c (.bool false)), .none⟩,
   ⟨.tmp, .mov (.t 38), .none⟩,
   ⟨.tmp, .mov (.v 1), (some ((.t 39), true))⟩,
   ⟨.tmp, .call (.c (.fn 27 [])) [(.t 40)], (some ((.t 39), true))⟩,
   ⟨.tmp, .un .not (.t 41), (some ((.t 39), true))⟩,
   ⟨.tmp, .pick (.t 39) (.t 42) (.c (.bool false)), .none⟩,
   ⟨.tmp, .mov (.t 43), .none⟩,
   ⟨.tmp, .mov (.v 8), (some ((.t 44), true))⟩,
   ⟨.tmp, .call (.c (.fn 27 [])) [(.t 45)], (some ((.t 44), true))⟩,
   ⟨.tmp, .pick (.t 44) (.t 46) (.c (.bool false)), .none⟩,
   ⟨.tmp, .mov (.t 47), .none⟩,
   ⟨.tmp, .mov (.v 19), (some ((.t 48), true))⟩,
   ⟨.tmp, .bin .eql .arith (.t 49) (.c (.int .i64 1)), (some ((.t 48), true))⟩,
   ⟨.tmp, .pick (.t 48) (.t 50) (.c (.bool false)), .none⟩,
   ⟨.tmp, .mov (.t 51), .none⟩,
   ⟨.tmp, .mov (.v 20), (some ((.t 52), true))⟩,
   ⟨.tmp, .pcall 18 [(.c (.int .u8 97))], (some ((.t 52), true))⟩,
   ⟨.tmp, .bin .eql .arith (.t 53) (.t 54), (some ((.t 52), true))⟩,
   ⟨.tmp, .pick (.t 52) (.t 55) (.c (.bool false)), .none⟩,
   ⟨.tmp, .mov (.t 56), .none⟩,
   ⟨.tmp, .mov (.v 22), (some ((.t 57), true))⟩,
   ⟨.tmp, .len (.t 58), (some ((.t 57), true))⟩,
   ⟨.tmp, .bin .eql .arith (.t 59) (.c (.int .i64 1)), (some ((.t 57), true))⟩,
   ⟨.tmp, .pick (.t 57) (.t 60) (.c (.bool false)), .none⟩,
   ⟨.tmp, .mov (.t 61), .none⟩,
   ⟨.tmp, .mov (.v 1), (some ((.t 62), true))⟩,
   ⟨.tmp, .call (.c (.fn 31 [])) [(.t 63)], (some ((.t 62), true))⟩,
   ⟨.tmp, .bin .eql .arith (.t 64) (.c (.int .i64 2)), (some ((.t 62), true))⟩,
   ⟨.tmp, .pick (.t 62) (.t 65) (.c (.bool false)), .none⟩,
   ⟨(.var 0), .mov (.t 66), .none⟩])
 .ret))))))))))))))))))))))))),
 [0]⟩
def c10 : AFunc := ⟨[0, 2, 3, 4, 5, 6, 7, 8, 14],
 (.seq (.ops [⟨(.var 1), .mov (.c .nilptr), .none⟩,
   ⟨(.var 2), .mov (.c .nilptr), .none⟩,
   ⟨(.var 3), .mov (.c (.bool false)), .none⟩])
 (.seq (.seq (.ops [⟨.tmp, .mov (.v 0), .none⟩,
   ⟨.tmp, .bin .lss .arith (.t 0) (.c (.int .i64 1)), .none⟩,
   ⟨.tmp, .mov (.t 1), .none⟩,
   ⟨.tmp, .mov (.v 0), (some ((.t 2), false))⟩,
   ⟨.tmp, .bin .gtr .arith (.t 3) (.c (.int .i64 64)), (some ((.t 2), false))⟩,
   ⟨(.var 8), .pick (.t 2) (.c (.bool true)) (.t 4), .none⟩])
 (.cond (.v 8)
  (.seq (.ops [⟨(.var 1), .mov (.c .nilptr), .none⟩,
    ⟨(.var 2), .mov (.c .nilptr), .none⟩,
    ⟨(.var 3), .mov (.c (.bool false)), .none⟩])
  .ret)
  .skip))
 (.seq (.ops [⟨.tmp, .mov (.v 0), .none⟩,
   ⟨.tmp, .call (.c (.fn 14 [])) [(.t 0)], .none⟩,
   ⟨.tmp, .mov (.t 1), .none⟩,
   ⟨.tmp, .ext (.t 2) 0, .none⟩,
   ⟨.tmp, .ext (.t 2) 1, .none⟩,
   ⟨(.var 4), .mov (.t 3), .none⟩,
   ⟨(.var 5), .mov (.t 4), .none⟩])
 (.seq (.ops [⟨.tmp, .mov (.v 0), .none⟩,
   ⟨.tmp, .call (.c (.fn 32 [])) [(.t 0)], .none⟩,
   ⟨.tmp, .mov (.t 1), .none⟩,
   ⟨.tmp, .ext (.t 2) 0, .none⟩,
   ⟨.tmp, .ext (.t 2) 1, .none⟩,
   ⟨(.var 6), .mov (.t 3), .none⟩,
   ⟨(.var 7), .mov (.t 4), .none⟩])
 (.seq (.ops [⟨.tmp, .mov (.v 4), .none⟩,
   ⟨.tmp, .mov (.v 6), .none⟩,
   ⟨.tmp, .mov (.v 5), .none⟩,
   ⟨.tmp, .bin .eql .arith (.t 2) (.c (.int .i64 0)), .none⟩,
   ⟨.tmp, .mov (.t 3), .none⟩,
   ⟨.tmp, .mov (.v 7), (some ((.t 4), true))⟩,
   ⟨.tmp, .bin .eql .arith (.t 5) (.c (.int .i64 0)), (some ((.t 4), true))⟩,
   ⟨.tmp, .pick (.t 4) (.t 6) (.c (.bool false)), .none⟩,
   ⟨.tmp, .mov (.t 7), .none⟩,
   ⟨.tmp, .mov (.v 4), (some ((.t 8), true))⟩,
   ⟨.tmp, .bin .neq .ptr (.t 9) (.c .nilptr), (some ((.t 8), true))⟩,
   ⟨.tmp, .pick (.t 8) (.t 10) (.c (.bool false)), .none⟩,
   ⟨(.var 1), .mov (.t 0), .none⟩,
   ⟨(.var 2), .mov (.t 1), .none⟩,
   ⟨(.var 3), .mov (.t 11), .none⟩])
 .ret))))),
 [1, 2, 3]⟩
def c11 : AFunc := ⟨[0, 1, 3, 4, 5, 7, 8, 16, 24, 28, 34, 40, 48],
 (.seq (.ops [⟨(.var 2), .box 5 true (.v 1), .none⟩,
   ⟨(.var 3), .mov (.c (.str [])), .none⟩,
   ⟨(.var 4), .mov (.c (.int .i64 0)), .none⟩])
 (.seq (.seq (.ops [⟨.tmp, .faddr 0 (.v 2), .none⟩,
   ⟨(.var 5), .load 1 false (.t 0), .none⟩])
 (.block 0 (.seq (.ops [⟨.tmp, .bin .eql .arith (.v 5) (.c (.int .i64 1)), .none⟩,
    ⟨(.var 6), .mov (.t 0), .none⟩])
  (.cond (.v 6)
   (.seq (.ops [⟨.tmp, .mov (.v 0), .none⟩,
     ⟨.tmp, .faddr 1 (.v 2), .none⟩,
     ⟨.tmp, .load 1 false (.t 1), .none⟩,
     ⟨.tmp, .load 5 true (.v 2), .none⟩,
     ⟨.tmp, .pcall 24 [(.t 3)], .none⟩,
     ⟨.tmp, .call (.c (.fn 17 [])) [(.t 0), (.t 2), (.t 4)], .none⟩,
     ⟨(.var 3), .mov (.c (.str [])), .none⟩,
     ⟨(.var 4), .mov (.t 5), .none⟩])
   .ret)
   (.seq (.ops [⟨.tmp, .bin .eql .arith (.v 5) (.c (.int .i64 2)), .none⟩,
     ⟨(.var 7), .mov (.t 0), .none⟩])
   (.cond (.v 7)
    (.seq (.ops [⟨.tmp, .mov (.v 0), .none⟩,
      ⟨.tmp, .faddr 1 (.v 2), .none⟩,
      ⟨.tmp, .load 1 false (.t 1), .none⟩,
      ⟨.tmp, .call (.c (.fn 16 [])) [(.t 0), (.t 2)], .none⟩,
      ⟨.tmp, .ext (.t 3) 0, .none⟩,
      ⟨.tmp, .ext (.t 3) 1, .none⟩,
      ⟨(.var 3), .mov (.t 4), .none⟩,
      ⟨(.var 4), .mov (.t 5), .none⟩])
    .ret)
    (.seq (.ops [⟨.tmp, .bin .eql .arith (.v 5) (.c (.int .i64 3)), .none⟩,
      ⟨(.var 8), .mov (.t 0), .none⟩])
    (.cond (.v 8)
     (.seq (.ops [⟨.tmp, .mov (.v 0), .none⟩,
       ⟨.tmp, .call (.c (.fn 25 [])) [(.t 0)], .none⟩,
       ⟨(.var 3), .mov (.c (.str [])), .none⟩,
       ⟨(.var 4), .mov (.t 1), .none⟩])
     .ret)
     (.seq (.ops [⟨.tmp, .bin .eql .arith (.v 5) (.c (.int .i64 4)), .none⟩,
       ⟨(.var 9), .mov (.t 0), .none⟩])
     (.cond (.v 9)
      (.ops [⟨.tmp, .mov (.v 0), .none⟩,
        ⟨.tmp, .faddr 1 (.v 2), .none⟩,
        ⟨.tmp, .load 1 false (.t 1), .none⟩,
        ⟨.tmp, .call (.c (.fn 30 [])) [(.t 0), (.t 2)], .none⟩])
      (.seq (.ops [⟨.tmp, .bin .eql .arith (.v 5) (.c (.int .i64 5)), .none⟩,
        ⟨(.var 10), .mov (.t 0), .none⟩])
      (.cond (.v 10)
       (.ops [⟨.tmp, .mov (.v 0), .none⟩,
         ⟨.tmp, .faddr 4 (.v 2), .none⟩,
         ⟨.tmp, .load 1 false (.t 1), .none⟩,
         ⟨.tmp, .call (.c (.fn 26 [])) [(.t 0), (.t 2)], .none⟩])
       (.seq (.ops [⟨.tmp, .bin .eql .arith (.v 5) (.c (.int .i64 6)), .none⟩,
         ⟨(.var 11), .mov (.t 0), .none⟩])
       (.cond (.v 11)
        (.seq (.ops [⟨.tmp, .mov (.v 0), .none⟩,
          ⟨.tmp, .faddr 1 (.v 2), .none⟩,
          ⟨.tmp, .load 1 false (.t 1), .none⟩,
          ⟨.tmp, .faddr 2 (.v 2), .none⟩,
          ⟨.tmp, .load 1 false (.t 3), .none⟩,
          ⟨.tmp, .call (.c (.fn 19 [])) [(.t 0), (.t 2), (.t 4)], .none⟩,
          ⟨(.var 3), .mov (.c (.str [])), .none⟩,
          ⟨(.var 4), .mov (.t 5), .none⟩])
        .ret)
        (.seq (.ops [⟨.tmp, .bin .eql .arith (.v 5) (.c (.int .i64 7)), .none⟩,
          ⟨(.var 12), .mov (.t 0), .none⟩])
        (.cond (.v 12)
         (.seq (.ops [⟨.tmp, .mov (.v 0), .none⟩,
           ⟨.tmp, .faddr 1 (.v 2), .none⟩,
           ⟨.tmp, .load 1 false (.t 1), .none⟩,
           ⟨.tmp, .call (.c (.fn 20 [])) [(.t 0), (.t 2)], .none⟩,
           ⟨(.var 3), .mov (.c (.str [])), .none⟩,
           ⟨(.var 4), .mov (.t 3), .none⟩])
         .ret)
         .skip))))))))))))))))
 (.seq (.ops [⟨(.var 3), .mov (.c (.str [])), .none⟩,
   ⟨(.var 4), .mov (.c (.int .i64 0)), .none⟩])
 .ret))),
 [3, 4]⟩
def c12 : AFunc := ⟨[0, 1, 3, 4, 5, 7, 8, 16, 24, 28, 34, 40, 48],
 (.seq (.ops [⟨(.var 2), .box 5 true (.v 1), .none⟩,
   ⟨(.var 3), .mov (.c (.str [])), .none⟩,
   ⟨(.var 4), .mov (.c (.int .i64 0)), .none⟩])
 (.seq (.seq (.ops [⟨.tmp, .faddr 0 (.v 2), .none⟩,
   ⟨(.var 5), .load 1 false (.t 0), .none⟩])
 (.block 0 (.seq (.ops [⟨.tmp, .bin .eql .arith (.v 5) (.c (.int .i64 1)), .none⟩,
    ⟨(.var 6), .mov (.t 0), .none⟩])
  (.cond (.v 6)
   (.seq (.ops [⟨.tmp, .mov (.v 0), .none⟩,
     ⟨.tmp, .faddr 1 (.v 2), .none⟩,
     ⟨.tmp, .load 1 false (.t 1), .none⟩,
     ⟨.tmp, .load 5 true (.v 2), .none⟩,
     ⟨.tmp, .pcall 24 [(.t 3)], .none⟩,
     ⟨.tmp, .call (.c (.fn 33 [])) [(.t 0), (.t 2), (.t 4)], .none⟩,
     ⟨(.var 3), .mov (.c (.str [])), .none⟩,
     ⟨(.var 4), .mov (.t 5), .none⟩])
   .ret)
   (.seq (.ops [⟨.tmp, .bin .eql .arith (.v 5) (.c (.int .i64 2)), .none⟩,
     ⟨(.var 7), .mov (.t 0), .none⟩])
   (.cond (.v 7)
    (.seq (.ops [⟨.tmp, .mov (.v 0), .none⟩,
      ⟨.tmp, .faddr 1 (.v 2), .none⟩,
      ⟨.tmp, .load 1 false (.t 1), .none⟩,
      ⟨.tmp, .call (.c (.fn 34 [])) [(.t 0), (.t 2)], .none⟩,
      ⟨.tmp, .ext (.t 3) 0, .none⟩,
      ⟨.tmp, .ext (.t 3) 1, .none⟩,
      ⟨(.var 3), .mov (.t 4), .none⟩,
      ⟨(.var 4), .mov (.t 5), .none⟩])
    .ret)
    (.seq (.ops [⟨.tmp, .bin .eql .arith (.v 5) (.c (.int .i64 3)), .none⟩,
      ⟨(.var 8), .mov (.t 0), .none⟩])
    (.cond (.v 8)
     (.seq (.ops [⟨.tmp, .mov (.v 0), .none⟩,
       ⟨.tmp, .call (.c (.fn 35 [])) [(.t 0)], .none⟩,
       ⟨(.var 3), .mov (.c (.str [])), .none⟩,
       ⟨(.var 4), .mov (.t 1), .none⟩])
     .ret)
     (.seq (.ops [⟨.tmp, .bin .eql .arith (.v 5) (.c (.int .i64 4)), .none⟩,
       ⟨(.var 9), .mov (.t 0), .none⟩])
     (.cond (.v 9)
      (.ops [⟨.tmp, .mov (.v 0), .none⟩,
        ⟨.tmp, .faddr 1 (.v 2), .none⟩,
        ⟨.tmp, .load 1 false (.t 1), .none⟩,
        ⟨.tmp, .call (.c (.fn 36 [])) [(.t 0), (.t 2)], .none⟩])
      (.seq (.ops [⟨.tmp, .bin .eql .arith (.v 5) (.c (.int .i64 5)), .none⟩,
        ⟨(.var 10), .mov (.t 0), .none⟩])
      (.cond (.v 10)
       (.ops [⟨.tmp, .mov (.v 0), .none⟩,
         ⟨.tmp, .faddr 4 (.v 2), .none⟩,
         ⟨.tmp, .load 1 false (.t 1), .none⟩,
         ⟨.tmp, .call (.c (.fn 37 [])) [(.t 0), (.t 2)], .none⟩])
       (.seq (.ops [⟨.tmp, .bin .eql .arith (.v 5) (.c (.int .i64 6)), .none⟩,
         ⟨(.var 11), .mov (.t 0), .none⟩])
       (.cond (.v 11)
        (.seq (.ops [⟨.tmp, .mov (.v 0), .none⟩,
          ⟨.tmp, .faddr 1 (.v 2), .none⟩,
          ⟨.tmp, .load 1 false (.t 1), .none⟩,
          ⟨.tmp, .faddr 2 (.v 2), .none⟩,
          ⟨.tmp, .load 1 false (.t 3), .none⟩,
          ⟨.tmp, .call (.c (.fn 38 [])) [(.t 0), (.t 2), (.t 4)], .none⟩,
          ⟨(.var 3), .mov (.c (.str [])), .none⟩,
          ⟨(.var 4), .mov (.t 5), .none⟩])
        .ret)
        (.seq (.ops [⟨.tmp, .bin .eql .arith (.v 5) (.c (.int .i64 7)), .none⟩,
          ⟨(.var 12), .mov (.t 0), .none⟩])
        (.cond (.v 12)
         (.seq (.ops [⟨.tmp, .mov (.v 0), .none⟩,
           ⟨.tmp, .faddr 1 (.v 2), .none⟩,
           ⟨.tmp, .load 1 false (.t 1), .none⟩,
           ⟨.tmp, .call (.c (.fn 39 [])) [(.t 0), (.t 2)], .none⟩,
           ⟨(.var 3), .mov (.c (.str [])), .none⟩,
           ⟨(.var 4), .mov (.t 3), .none⟩])
         .ret)
         .skip))))))))))))))))
 (.seq (.ops [⟨(.var 3), .mov (.c (.str [])), .none⟩,
   ⟨(.var 4), .mov (.c (.int .i64 0)), .none⟩])
 .ret))),
 [3, 4]⟩
def c13 : AFunc := ⟨[0, 1, 4, 5, 6, 7],
 (.seq (.ops [⟨(.var 2), .mov (.c (.bool false)), .none⟩])
 (.seq (.ops [⟨.tmp, .mov (.v 0), .none⟩,
   ⟨.tmp, .call (.c (.fn 15 [])) [(.t 0)], .none⟩,
   ⟨.tmp, .mov (.v 1), .none⟩,
   ⟨.tmp, .call (.c (.fn 40 [])) [(.t 2)], .none⟩,
   ⟨.tmp, .pcall 21 [(.t 1), (.t 3)], .none⟩,
   ⟨(.var 3), .mov (.t 4), .none⟩])
 (.seq (.ops [⟨.tmp, .mov (.v 0), .none⟩,
   ⟨.tmp, .call (.c (.fn 22 [])) [(.t 0)], .none⟩,
   ⟨.tmp, .mov (.v 1), .none⟩,
   ⟨.tmp, .call (.c (.fn 42 [])) [(.t 2)], .none⟩,
   ⟨.tmp, .pcall 41 [(.t 1), (.t 3)], .none⟩,
   ⟨(.var 4), .mov (.t 4), .none⟩])
 (.seq (.ops [⟨.tmp, .mov (.v 0), .none⟩,
   ⟨.tmp, .call (.c (.fn 23 [])) [(.t 0)], .none⟩,
   ⟨.tmp, .mov (.v 1), .none⟩,
   ⟨.tmp, .call (.c (.fn 43 [])) [(.t 2)], .none⟩,
   ⟨.tmp, .pcall 41 [(.t 1), (.t 3)], .none⟩,
   ⟨(.var 5), .mov (.t 4), .none⟩])
 (.seq (.ops [⟨.tmp, .mov (.v 3), .none⟩,
   ⟨.tmp, .mov (.t 0), .none⟩,
   ⟨.tmp, .mov (.v 4), (some ((.t 1), true))⟩,
   ⟨.tmp, .pick (.t 1) (.t 2) (.c (.bool false)), .none⟩,
   ⟨.tmp, .mov (.t 3), .none⟩,
   ⟨.tmp, .mov (.v 5), (some ((.t 4), true))⟩,
   ⟨.tmp, .pick (.t 4) (.t 5) (.c (.bool false)), .none⟩,
   ⟨.tmp, .mov (.t 6), .none⟩,
   ⟨.tmp, .mov (.v 0), (some ((.t 7), true))⟩,
   ⟨.tmp, .call (.c (.fn 31 [])) [(.t 8)], (some ((.t 7), true))⟩,
   ⟨.tmp, .mov (.v 1), (some ((.t 7), true))⟩,
   ⟨.tmp, .call (.c (.fn 44 [])) [(.t 10)], (some ((.t 7), true))⟩,
   ⟨.tmp, .bin .eql .arith (.t 9) (.t 11), (some ((.t 7), true))⟩,
   ⟨.tmp, .pick (.t 7) (.t 12) (.c (.bool false)), .none⟩,
   ⟨.tmp, .mov (.t 13), .none⟩,
   ⟨.tmp, .mov (.v 0), (some ((.t 14), true))⟩,
   ⟨.tmp, .call (.c (.fn 27 [])) [(.t 15)], (some ((.t 14), true))⟩,
   ⟨.tmp, .mov (.v 1), (some ((.t 14), true))⟩,
   ⟨.tmp, .call (.c (.fn 45 [])) [(.t 17)], (some ((.t 14), true))⟩,
   ⟨.tmp, .bin .eql .bool (.t 16) (.t 18), (some ((.t 14), true))⟩,
   ⟨.tmp, .pick (.t 14) (.t 19) (.c (.bool false)), .none⟩,
   ⟨(.var 2), .mov (.t 20), .none⟩])
 .ret))))),
 [2]⟩
def c14 : AFunc := ⟨[0, 2, 3, 9],
 (.seq (.ops [⟨(.var 1), .mov (.c .nilptr), .none⟩,
   ⟨(.var 2), .mov (.c (.int .i64 0)), .none⟩])
 (.seq (.seq (.ops [⟨.tmp, .mov (.v 0), .none⟩,
   ⟨.tmp, .bin .lss .arith (.t 0) (.c (.int .i64 1)), .none⟩,
   ⟨.tmp, .mov (.t 1), .none⟩,
   ⟨.tmp, .mov (.v 0), (some ((.t 2), false))⟩,
   ⟨.tmp, .bin .gtr .arith (.t 3) (.c (.int .i64 4096)), (some ((.t 2), false))⟩,
   ⟨(.var 3), .pick (.t 2) (.c (.bool true)) (.t 4), .none⟩])
 (.cond (.v 3)
  (.seq (.ops [⟨(.var 1), .mov (.c .nilptr), .none⟩,
    ⟨(.var 2), .mov (.c (.int .i64 1)), .none⟩])
  .ret)
  .skip))
 (.seq (.ops [⟨.tmp, .mov (.v 0), .none⟩,
   ⟨.tmp, .mksl 64 64 true [(.int .u8 0), (.int .u8 0), (.int .u8 0), (.int .u8 0), (.int .u8 0), (.int .u8 0), (.int .u8 0), (.int .u8 0), (.int .u8 0), (.int .u8 0), (.int .u8 0), (.int .u8 0), (.int .u8 0), (.int .u8 0), (.int .u8 0), (.int .u8 0), (.int .u8 0), (.int .u8 0), (.int .u8 0), (.int .u8 0), (.int .u8 0), (.int .u8 0), (.int .u8 0), (.int .u8 0), (.int .u8 0), (.int .u8 0), (.int .u8 0), (.int .u8 0), (.int .u8 0), (.int .u8 0), (.int .u8 0), (.int .u8 0), (.int .u8 0), (.int .u8 0), (.int .u8 0), (.int .u8 0), (.int .u8 0), (.int .u8 0), (.int .u8 0), (.int .u8 0), (.int .u8 0), (.int .u8 0), (.int .u8 0), (.int .u8 0), (.int .u8 0), (.int .u8 0), (.int .u8 0), (.int .u8 0), (.int .u8 0), (.int .u8 0), (.int .u8 0), (.int .u8 0), (.int .u8 0), (.int .u8 0), (.int .u8 0), (.int .u8 0), (.int .u8 0), (.int .u8 0), (.int .u8 0), (.int .u8 0), (.int .u8 0), (.int .u8 0), (.int .u8 0), (.int .u8 0)] (.t 0) (.t 0), .none⟩,
   ⟨.tmp, .x (.mkmap (.int .i64)) [], .none⟩,
   ⟨.tmp, .x (.mkmap (.int .i64)) [], .none⟩,
   ⟨.tmp, .build [(.sl [] .nil), .nilmp, .nilmp, (.bool false), (.int .i64 0)] [(0, 1, (.t 1)), (1, 1, (.t 2)), (2, 1, (.t 3)), (4, 1, (.c (.int .i64 (-1))))], .none⟩,
   ⟨.tmp, .box 5 true (.t 4), .none⟩,
   ⟨(.var 1), .mov (.t 5), .none⟩,
   ⟨(.var 2), .mov (.c (.int .i64 0)), .none⟩])
 .ret))),
 [1, 2]⟩
def c15 : AFunc := ⟨[0, 2, 3, 4, 15, 16, 17],
 (.seq (.ops [⟨(.var 1), .mov (.c (.sl [] .nil)), .none⟩])
 (.seq (.ops [⟨.tmp, .mov (.v 0), .none⟩,
   ⟨.tmp, .nilc (.t 0), .none⟩,
   ⟨.tmp, .faddr 0 (.t 1), .none⟩,
   ⟨.tmp, .load 1 false (.t 2), .none⟩,
   ⟨.tmp, .len (.t 3), .none⟩,
   ⟨.tmp, .mksl 16 1 false [(.str [])] (.t 4) (.t 4), .none⟩,
   ⟨(.var 2), .mov (.t 5), .none⟩])
 (.seq (.seq (.ops [⟨.tmp, .mov (.v 0), .none⟩,
   ⟨.tmp, .nilc (.t 0), .none⟩,
   ⟨.tmp, .faddr 0 (.t 1), .none⟩,
   ⟨.tmp, .load 1 false (.t 2), .none⟩,
   ⟨(.var 4), .len (.t 3), .none⟩,
   ⟨(.var 5), .mov (.c (.int .i64 0)), .none⟩])
 (.block 0 (.loop (.seq (.ops [⟨(.var 6), .bin .lss .arith (.v 5) (.v 4), .none⟩])
   (.seq (.cond (.v 6)
    .skip
    (.exit 0))
   (.seq (.block 1 (.seq (.ops [⟨.tmp, .mov (.v 5), .none⟩,
      ⟨(.var 3), .mov (.t 0), .none⟩])
    (.ops [⟨.tmp, .mov (.v 2), .none⟩,
      ⟨.tmp, .mov (.v 3), .none⟩,
      ⟨.tmp, .mov (.v 0), .none⟩,
      ⟨.tmp, .nilc (.t 2), .none⟩,
      ⟨.tmp, .faddr 0 (.t 3), .none⟩,
      ⟨.tmp, .load 1 false (.t 4), .none⟩,
      ⟨.tmp, .mov (.v 3), .none⟩,
      ⟨.tmp, .iaddr 64 (.t 5) (.t 6), .none⟩,
      ⟨.tmp, .x (.aslice 64 1 false false false) [(.t 7)], .none⟩,
      ⟨.tmp, .x .b2s [(.t 8)], .none⟩,
      ⟨.tmp, .iaddr 1 (.t 0) (.t 1), .none⟩,
      ⟨.no, .store 1 (.t 10) (.t 9), .none⟩])))
   (.ops [⟨.tmp, .bin .add .arith (.v 5) (.c (.int .i64 1)), .none⟩,
     ⟨(.var 5), .mov (.t 0), .none⟩])))))))
 (.seq (.ops [⟨.tmp, .mov (.v 2), .none⟩,
   ⟨(.var 1), .mov (.t 0), .none⟩])
 .ret)))),
 [1]⟩
def c16 : AFunc := ⟨[0, 1, 4, 5, 6, 7, 8, 13, 24],
 (.seq (.ops [⟨(.var 2), .mov (.c (.str [])), .none⟩,
   ⟨(.var 3), .mov (.c (.int .i64 0)), .none⟩])
 (.seq (.seq (.ops [⟨.tmp, .mov (.v 0), .none⟩,
   ⟨.tmp, .mov (.v 1), .none⟩,
   ⟨.tmp, .call (.c (.fn 46 [])) [(.t 0), (.t 1)], .none⟩,
   ⟨(.var 4), .mov (.t 2), .none⟩])
 (.seq (.ops [⟨.tmp, .mov (.v 4), .none⟩,
   ⟨(.var 7), .bin .neq .arith (.t 0) (.c (.int .i64 0)), .none⟩])
 (.cond (.v 7)
  (.seq (.ops [⟨.tmp, .mov (.v 4), .none⟩,
    ⟨(.var 2), .mov (.c (.str [])), .none⟩,
    ⟨(.var 3), .mov (.t 0), .none⟩])
  .ret)
  .skip)))
 (.seq (.seq (.ops [⟨.tmp, .mov (.v 0), .none⟩,
   ⟨.tmp, .nilc (.t 0), .none⟩,
   ⟨.tmp, .faddr 1 (.t 1), .none⟩,
   ⟨.tmp, .load 1 false (.t 2), .none⟩,
   ⟨.tmp, .mov (.v 1), .none⟩,
   ⟨.tmp, .x (.mlook (.int .i64) (.agg [(.int .u8 0), (.int .u8 0), (.int .u8 0), (.int .u8 0), (.int .u8 0), (.int .u8 0), (.int .u8 0), (.int .u8 0), (.int .u8 0), (.int .u8 0), (.int .u8 0), (.int .u8 0), (.int .u8 0), (.int .u8 0), (.int .u8 0), (.int .u8 0), (.int .u8 0), (.int .u8 0), (.int .u8 0), (.int .u8 0), (.int .u8 0), (.int .u8 0), (.int .u8 0), (.int .u8 0), (.int .u8 0), (.int .u8 0), (.int .u8 0), (.int .u8 0), (.int .u8 0), (.int .u8 0), (.int .u8 0), (.int .u8 0), (.int .u8 0), (.int .u8 0), (.int .u8 0), (.int .u8 0), (.int .u8 0), (.int .u8 0), (.int .u8 0), (.int .u8 0), (.int .u8 0), (.int .u8 0), (.int .u8 0), (.int .u8 0), (.int .u8 0), (.int .u8 0), (.int .u8 0), (.int .u8 0), (.int .u8 0), (.int .u8 0), (.int .u8 0), (.int .u8 0), (.int .u8 0), (.int .u8 0), (.int .u8 0), (.int .u8 0), (.int .u8 0), (.int .u8 0), (.int .u8 0), (.int .u8 0), (.int .u8 0), (.int .u8 0), (.int .u8 0), (.int .u8 0)]) true) [(.t 3), (.t 4)], .none⟩,
   ⟨.tmp, .mov (.t 5), .none⟩,
   ⟨.tmp, .ext (.t 6) 0, .none⟩,
   ⟨.tmp, .ext (.t 6) 1, .none⟩,
   ⟨(.var 5), .alloc 74 64 true [(.int .u8 0), (.int .u8 0), (.int .u8 0), (.int .u8 0), (.int .u8 0), (.int .u8 0), (.int .u8 0), (.int .u8 0), (.int .u8 0), (.int .u8 0), (.int .u8 0), (.int .u8 0), (.int .u8 0), (.int .u8 0), (.int .u8 0), (.int .u8 0), (.int .u8 0), (.int .u8 0), (.int .u8 0), (.int .u8 0), (.int .u8 0), (.int .u8 0), (.int .u8 0), (.int .u8 0), (.int .u8 0), (.int .u8 0), (.int .u8 0), (.int .u8 0), (.int .u8 0), (.int .u8 0), (.int .u8 0), (.int .u8 0), (.int .u8 0), (.int .u8 0), (.int .u8 0), (.int .u8 0), (.int .u8 0), (.int .u8 0), (.int .u8 0), (.int .u8 0), (.int .u8 0), (.int .u8 0), (.int .u8 0), (.int .u8 0), (.int .u8 0), (.int .u8 0), (.int .u8 0), (.int .u8 0), (.int .u8 0), (.int .u8 0), (.int .u8 0), (.int .u8 0), (.int .u8 0), (.int .u8 0), (.int .u8 0), (.int .u8 0), (.int .u8 0), (.int .u8 0), (.int .u8 0), (.int .u8 0), (.int .u8 0), (.int .u8 0), (.int .u8 0), (.int .u8 0)], .none⟩,
   ⟨.no, .store 64 (.v 5) (.t 7), .none⟩,
   ⟨(.var 6), .mov (.t 8), .none⟩])
 (.seq (.ops [⟨(.var 8), .mov (.v 6), .none⟩])
 (.cond (.v 8)
  (.seq (.ops [⟨.tmp, .x (.aslice 64 1 false false false) [(.v 5)], .none⟩,
    ⟨.tmp, .x .b2s [(.t 0)], .none⟩,
    ⟨(.var 2), .mov (.t 1), .none⟩,
    ⟨(.var 3), .mov (.c (.int .i64 0)), .none⟩])
  .ret)
  .skip)))
 (.seq (.ops [⟨.tmp, .mov (.v 0), .none⟩,
   ⟨.tmp, .nilc (.t 0), .none⟩,
   ⟨.tmp, .faddr 0 (.t 1), .none⟩,
   ⟨.tmp, .load 1 false (.t 2), .none⟩,
   ⟨.tmp, .mov (.v 1), .none⟩,
   ⟨.tmp, .iaddr 64 (.t 3) (.t 4), .none⟩,
   ⟨.tmp, .x (.aslice 64 1 false false false) [(.t 5)], .none⟩,
   ⟨.tmp, .x .b2s [(.t 6)], .none⟩,
   ⟨(.var 2), .mov (.t 7), .none⟩,
   ⟨(.var 3), .mov (.c (.int .i64 0)), .none⟩])
 .ret)))),
 [2, 3]⟩
def c17 : AFunc := ⟨[0, 1, 2, 6, 7, 8, 13, 17, 21],
 (.seq (.ops [⟨(.var 3), .mov (.c (.int .i64 0)), .none⟩])
 (.seq (.seq (.ops [⟨.tmp, .mov (.v 0), .none⟩,
   ⟨.tmp, .mov (.v 1), .none⟩,
   ⟨.tmp, .call (.c (.fn 46 [])) [(.t 0), (.t 1)], .none⟩,
   ⟨(.var 4), .mov (.t 2), .none⟩])
 (.seq (.ops [⟨.tmp, .mov (.v 4), .none⟩,
   ⟨(.var 6), .bin .neq .arith (.t 0) (.c (.int .i64 0)), .none⟩])
 (.cond (.v 6)
  (.seq (.ops [⟨.tmp, .mov (.v 4), .none⟩,
    ⟨(.var 3), .mov (.t 0), .none⟩])
  .ret)
  .skip)))
 (.seq (.seq (.ops [⟨.tmp, .mov (.v 2), .none⟩,
   ⟨.tmp, .slen (.t 0), .none⟩,
   ⟨(.var 7), .bin .neq .arith (.t 1) (.c (.int .i64 64)), .none⟩])
 (.cond (.v 7)
  (.seq (.ops [⟨(.var 3), .mov (.c (.int .i64 1)), .none⟩])
  .ret)
  .skip))
 (.seq (.seq (.ops [⟨.tmp, .mov (.v 0), .none⟩,
   ⟨.tmp, .call (.c (.fn 47 [])) [(.t 0)], .none⟩,
   ⟨(.var 5), .mov (.t 1), .none⟩])
 (.seq (.ops [⟨.tmp, .mov (.v 5), .none⟩,
   ⟨(.var 8), .bin .neq .arith (.t 0) (.c (.int .i64 0)), .none⟩])
 (.cond (.v 8)
  (.seq (.ops [⟨.tmp, .mov (.v 5), .none⟩,
    ⟨(.var 3), .mov (.t 0), .none⟩])
  .ret)
  .skip)))
 (.seq (.ops [⟨.tmp, .mov (.v 0), .none⟩,
   ⟨.tmp, .nilc (.t 0), .none⟩,
   ⟨.tmp, .faddr 1 (.t 1), .none⟩,
   ⟨.tmp, .load 1 false (.t 2), .none⟩,
   ⟨.tmp, .mov (.v 1), .none⟩,
   ⟨.tmp, .mov (.v 2), .none⟩,
   ⟨.tmp, .x (.s2b false) [(.t 5)], .none⟩,
   ⟨.tmp, .x (.s2ap 64 1) [(.t 6)], .none⟩,
   ⟨.tmp, .load 64 true (.t 7), .none⟩,
   ⟨.no, .x (.mput (.int .i64)) [(.t 3), (.t 4), (.t 8)], .none⟩])
 (.seq (.ops [⟨(.var 3), .mov (.c (.int .i64 0)), .none⟩])
 .ret)))))),
 [3]⟩
def c18 : AFunc := ⟨[0, 2, 3, 4, 7],
 (.seq (.ops [⟨(.var 1), .mov (.c (.str [])), .none⟩])
 (.seq (.ops [⟨.tmp, .mksl 1 1 false [(.int .u8 0)] (.c (.int .i64 64)) (.c (.int .i64 64)), .none⟩,
   ⟨(.var 2), .mov (.t 0), .none⟩])
 (.seq (.seq (.ops [⟨(.var 3), .mov (.c (.int .i64 0)), .none⟩])
 (.block 0 (.loop (.seq (.seq (.ops [⟨.tmp, .mov (.v 3), .none⟩,
     ⟨(.var 4), .bin .lss .arith (.t 0) (.c (.int .i64 64)), .none⟩])
   (.cond (.v 4)
    .skip
    (.exit 0)))
   (.seq (.block 1 (.ops [⟨.tmp, .mov (.v 2), .none⟩,
      ⟨.tmp, .mov (.v 3), .none⟩,
      ⟨.tmp, .mov (.v 0), .none⟩,
      ⟨.tmp, .iaddr 1 (.t 0) (.t 1), .none⟩,
      ⟨.no, .store 1 (.t 3) (.t 2), .none⟩]))
   (.ops [⟨.tmp, .mov (.v 3), .none⟩,
     ⟨.tmp, .bin .add .arith (.t 0) (.c (.int .i64 1)), .none⟩,
     ⟨(.var 3), .mov (.t 1), .none⟩]))))))
 (.seq (.ops [⟨.tmp, .mov (.v 2), .none⟩,
   ⟨.tmp, .x .b2s [(.t 0)], .none⟩,
   ⟨(.var 1), .mov (.t 1), .none⟩])
 .ret)))),
 [1]⟩
def c19 : AFunc := ⟨[0, 1, 2, 6, 25],
 (.seq (.ops [⟨(.var 3), .mov (.c (.int .i64 0)), .none⟩])
 (.seq (.seq (.ops [⟨.tmp, .mov (.v 1), .none⟩,
   ⟨.tmp, .bin .lss .arith (.t 0) (.c (.int .i64 0)), .none⟩,
   ⟨.tmp, .mov (.t 1), .none⟩,
   ⟨.tmp, .mov (.v 1), (some ((.t 2), false))⟩,
   ⟨.tmp, .mov (.v 0), (some ((.t 2), false))⟩,
   ⟨.tmp, .nilc (.t 4), (some ((.t 2), false))⟩,
   ⟨.tmp, .faddr 0 (.t 5), (some ((.t 2), false))⟩,
   ⟨.tmp, .load 1 false (.t 6), (some ((.t 2), false))⟩,
   ⟨.tmp, .len (.t 7), (some ((.t 2), false))⟩,
   ⟨.tmp, .bin .geq .arith (.t 3) (.t 8), (some ((.t 2), false))⟩,
   ⟨.tmp, .pick (.t 2) (.c (.bool true)) (.t 9), .none⟩,
   ⟨.tmp, .mov (.t 10), .none⟩,
   ⟨.tmp, .mov (.v 2), (some ((.t 11), false))⟩,
   ⟨.tmp, .bin .lss .arith (.t 12) (.c (.int .i64 0)), (some ((.t 11), false))⟩,
   ⟨.tmp, .pick (.t 11) (.c (.bool true)) (.t 13), .none⟩,
   ⟨.tmp, .mov (.t 14), .none⟩,
   ⟨.tmp, .mov (.v 2), (some ((.t 15), false))⟩,
   ⟨.tmp, .bin .geq .arith (.t 16) (.c (.int .i64 512)), (some ((.t 15), false))⟩,
   ⟨(.var 4), .pick (.t 15) (.c (.bool true)) (.t 17), .none⟩])
 (.cond (.v 4)
  (.seq (.ops [⟨(.var 3), .mov (.c (.int .i64 1)), .none⟩])
  .ret)
  .skip))
 (.seq (.ops [⟨.tmp, .mov (.v 0), .none⟩,
   ⟨.tmp, .nilc (.t 0), .none⟩,
   ⟨.tmp, .faddr 0 (.t 1), .none⟩,
   ⟨.tmp, .load 1 false (.t 2), .none⟩,
   ⟨.tmp, .mov (.v 1), .none⟩,
   ⟨.tmp, .mov (.v 2), .none⟩,
   ⟨.tmp, .bin .quo .arith (.t 5) (.c (.int .i64 8)), .none⟩,
   ⟨.tmp, .iaddr 64 (.t 3) (.t 4), .none⟩,
   ⟨.tmp, .aaddr 64 1 (.t 7) (.t 6), .none⟩,
   ⟨.tmp, .load 1 false (.t 8), .none⟩,
   ⟨.tmp, .mov (.v 2), .none⟩,
   ⟨.tmp, .bin .rem .arith (.t 10) (.c (.int .i64 8)), .none⟩,
   ⟨.tmp, .bin .shl .arith (.c (.int .u8 1)) (.t 11), .none⟩,
   ⟨.tmp, .bin .xor .arith (.t 9) (.t 12), .none⟩,
   ⟨.tmp, .iaddr 64 (.t 3) (.t 4), .none⟩,
   ⟨.tmp, .aaddr 64 1 (.t 14) (.t 6), .none⟩,
   ⟨.no, .store 1 (.t 15) (.t 13), .none⟩])
 (.seq (.ops [⟨(.var 3), .mov (.c (.int .i64 0)), .none⟩])
 .ret)))),
 [3]⟩
def c20 : AFunc := ⟨[0, 1, 4, 15],
 (.seq (.ops [⟨(.var 2), .mov (.c (.int .i64 0)), .none⟩])
 (.seq (.seq (.ops [⟨.tmp, .mov (.v 1), .none⟩,
   ⟨.tmp, .bin .lss .arith (.t 0) (.c (.int .i64 0)), .none⟩,
   ⟨.tmp, .mov (.t 1), .none⟩,
   ⟨.tmp, .mov (.v 1), (some ((.t 2), false))⟩,
   ⟨.tmp, .mov (.v 0), (some ((.t 2), false))⟩,
   ⟨.tmp, .nilc (.t 4), (some ((.t 2), false))⟩,
   ⟨.tmp, .faddr 0 (.t 5), (some ((.t 2), false))⟩,
   ⟨.tmp, .load 1 false (.t 6), (some ((.t 2), false))⟩,
   ⟨.tmp, .len (.t 7), (some ((.t 2), false))⟩,
   ⟨.tmp, .bin .geq .arith (.t 3) (.t 8), (some ((.t 2), false))⟩,
   ⟨(.var 3), .pick (.t 2) (.c (.bool true)) (.t 9), .none⟩])
 (.cond (.v 3)
  (.seq (.ops [⟨(.var 2), .mov (.c (.int .i64 1)), .none⟩])
  .ret)
  .skip))
 (.seq (.ops [⟨.tmp, .mov (.v 0), .none⟩,
   ⟨.tmp, .nilc (.t 0), .none⟩,
   ⟨.tmp, .faddr 2 (.t 1), .none⟩,
   ⟨.tmp, .load 1 false (.t 2), .none⟩,
   ⟨.tmp, .mov (.v 1), .none⟩,
   ⟨.no, .x (.mput (.int .i64)) [(.t 3), (.t 4), (.c (.bool true))], .none⟩])
 (.seq (.ops [⟨(.var 2), .mov (.c (.int .i64 0)), .none⟩])
 .ret)))),
 [2]⟩
def c21 : AFunc := ⟨[0, 1, 4, 5, 10, 14, 25],
 (.seq (.ops [⟨(.var 2), .mov (.c (.bool false)), .none⟩])
 (.seq (.seq (.ops [⟨.tmp, .mov (.v 0), .none⟩,
   ⟨.tmp, .len (.t 0), .none⟩,
   ⟨.tmp, .mov (.v 1), .none⟩,
   ⟨.tmp, .len (.t 2), .none⟩,
   ⟨(.var 4), .bin .neq .arith (.t 1) (.t 3), .none⟩])
 (.cond (.v 4)
  (.seq (.ops [⟨(.var 2), .mov (.c (.bool false)), .none⟩])
  .ret)
  .skip))
 (.seq (.seq (.ops [⟨(.var 3), .mov (.c (.int .i64 0)), .none⟩])
 (.block 0 (.loop (.seq (.seq (.ops [⟨.tmp, .mov (.v 3), .none⟩,
     ⟨.tmp, .mov (.v 0), .none⟩,
     ⟨.tmp, .len (.t 1), .none⟩,
     ⟨(.var 5), .bin .lss .arith (.t 0) (.t 2), .none⟩])
   (.cond (.v 5)
    .skip
    (.exit 0)))
   (.seq (.block 1 (.seq (.ops [⟨.tmp, .mov (.v 0), .none⟩,
      ⟨.tmp, .mov (.v 3), .none⟩,
      ⟨.tmp, .iaddr 1 (.t 0) (.t 1), .none⟩,
      ⟨.tmp, .load 1 false (.t 2), .none⟩,
      ⟨.tmp, .mov (.v 1), .none⟩,
      ⟨.tmp, .mov (.v 3), .none⟩,
      ⟨.tmp, .iaddr 1 (.t 4) (.t 5), .none⟩,
      ⟨.tmp, .load 1 false (.t 6), .none⟩,
      ⟨(.var 6), .bin .neq .arith (.t 3) (.t 7), .none⟩])
    (.cond (.v 6)
     (.seq (.ops [⟨(.var 2), .mov (.c (.bool false)), .none⟩])
     .ret)
     .skip)))
   (.ops [⟨.tmp, .mov (.v 3), .none⟩,
     ⟨.tmp, .bin .add .arith (.t 0) (.c (.int .i64 1)), .none⟩,
     ⟨(.var 3), .mov (.t 1), .none⟩]))))))
 (.seq (.ops [⟨(.var 2), .mov (.c (.bool true)), .none⟩])
 .ret)))),
 [2]⟩
def c22 : AFunc := ⟨[0, 2],
 (.seq (.ops [⟨(.var 1), .mov (.c (.sl [] .nil)), .none⟩])
 (.seq (.ops [⟨.tmp, .mov (.v 0), .none⟩,
   ⟨.tmp, .nilc (.t 0), .none⟩,
   ⟨.tmp, .faddr 1 (.t 1), .none⟩,
   ⟨.tmp, .load 1 false (.t 2), .none⟩,
   ⟨.tmp, .call (.c (.fn 49 [])) [(.t 3)], .none⟩,
   ⟨.tmp, .call (.c (.fn 48 [])) [(.t 4)], .none⟩,
   ⟨(.var 1), .mov (.t 5), .none⟩])
 .ret)),
 [1]⟩
def c23 : AFunc := ⟨[0, 2],
 (.seq (.ops [⟨(.var 1), .mov (.c (.sl [] .nil)), .none⟩])
 (.seq (.ops [⟨.tmp, .mov (.v 0), .none⟩,
   ⟨.tmp, .nilc (.t 0), .none⟩,
   ⟨.tmp, .faddr 2 (.t 1), .none⟩,
   ⟨.tmp, .load 1 false (.t 2), .none⟩,
   ⟨.tmp, .call (.c (.fn 50 [])) [(.t 3)], .none⟩,
   ⟨.tmp, .call (.c (.fn 48 [])) [(.t 4)], .none⟩,
   ⟨(.var 1), .mov (.t 5), .none⟩])
 .ret)),
 [1]⟩
def c24 : AFunc := ⟨[0, 1, 2, 3, 13],
 (.seq (.ops [⟨(.var 1), .box 5 true (.v 0), .none⟩,
   ⟨(.var 2), .mov (.c (.str [])), .none⟩])
 (.seq (.ops [⟨.tmp, .faddr 3 (.v 1), .none⟩,
   ⟨.tmp, .load 1 false (.t 0), .none⟩,
   ⟨(.var 3), .mov (.t 1), .none⟩])
 (.seq (.block 0 (.loop (.seq (.seq (.ops [⟨.tmp, .mov (.v 3), .none⟩,
     ⟨.tmp, .slen (.t 0), .none⟩,
     ⟨.tmp, .bin .gtr .arith (.t 1) (.c (.int .i64 0)), .none⟩,
     ⟨.tmp, .mov (.t 2), .none⟩,
     ⟨.tmp, .mov (.v 3), (some ((.t 3), true))⟩,
     ⟨.tmp, .slen (.t 4), (some ((.t 3), true))⟩,
     ⟨.tmp, .bin .lss .arith (.t 5) (.c (.int .i64 64)), (some ((.t 3), true))⟩,
     ⟨(.var 4), .pick (.t 3) (.t 6) (.c (.bool false)), .none⟩])
   (.cond (.v 4)
    .skip
    (.exit 0)))
   (.block 1 (.ops [⟨.tmp, .mov (.v 3), .none⟩,
      ⟨.tmp, .mov (.v 3), .none⟩,
      ⟨.tmp, .mov (.v 3), .none⟩,
      ⟨.tmp, .slen (.t 2), .none⟩,
      ⟨.tmp, .bin .sub .arith (.t 3) (.c (.int .i64 1)), .none⟩,
      ⟨.tmp, .sslice (.t 1) (some (.t 4)) .none, .none⟩,
      ⟨.tmp, .bin .add .arith (.t 0) (.t 5), .none⟩,
      ⟨(.var 3), .mov (.t 6), .none⟩])))))
 (.seq (.ops [⟨.tmp, .mov (.v 3), .none⟩,
   ⟨(.var 2), .mov (.t 0), .none⟩])
 .ret)))),
 [2]⟩
def c25 : AFunc := ⟨[0, 2, 3, 4, 6, 10, 15, 18, 19, 20, 21],
 (.seq (.ops [⟨(.var 1), .mov (.c (.int .i64 0)), .none⟩])
 (.seq (.seq (.ops [⟨.tmp, .mov (.v 0), .none⟩,
   ⟨.tmp, .call (.c (.fn 46 [])) [(.t 0), (.c (.int .i64 0))], .none⟩,
   ⟨(.var 2), .mov (.t 1), .none⟩])
 (.seq (.ops [⟨.tmp, .mov (.v 2), .none⟩,
   ⟨(.var 5), .bin .neq .arith (.t 0) (.c (.int .i64 0)), .none⟩])
 (.cond (.v 5)
  (.seq (.ops [⟨.tmp, .mov (.v 2), .none⟩,
    ⟨(.var 1), .mov (.t 0), .none⟩])
  .ret)
  .skip)))
 (.seq (.seq (.ops [⟨.tmp, .mov (.v 0), .none⟩,
   ⟨.tmp, .call (.c (.fn 47 [])) [(.t 0)], .none⟩,
   ⟨(.var 3), .mov (.t 1), .none⟩])
 (.seq (.ops [⟨.tmp, .mov (.v 3), .none⟩,
   ⟨(.var 6), .bin .neq .arith (.t 0) (.c (.int .i64 0)), .none⟩])
 (.cond (.v 6)
  (.seq (.ops [⟨.tmp, .mov (.v 3), .none⟩,
    ⟨(.var 1), .mov (.t 0), .none⟩])
  .ret)
  .skip)))
 (.seq (.seq (.ops [⟨.tmp, .mov (.v 0), .none⟩,
   ⟨(.var 7), .call (.c (.fn 22 [])) [(.t 0)], .none⟩,
   ⟨(.var 8), .len (.v 7), .none⟩,
   ⟨(.var 9), .mov (.c (.int .i64 0)), .none⟩])
 (.block 0 (.loop (.seq (.ops [⟨(.var 10), .bin .lss .arith (.v 9) (.v 8), .none⟩])
   (.seq (.cond (.v 10)
    .skip
    (.exit 0))
   (.seq (.block 1 (.seq (.ops [⟨.tmp, .iaddr 1 (.v 7) (.v 9), .none⟩,
      ⟨.tmp, .load 1 false (.t 0), .none⟩,
      ⟨(.var 4), .mov (.t 1), .none⟩])
    (.ops [⟨.tmp, .mov (.v 0), .none⟩,
      ⟨.tmp, .mov (.v 4), .none⟩,
      ⟨.tmp, .call (.c (.fn 51 [])) [(.t 0), (.t 1), (.c (.int .i64 64))], .none⟩])))
   (.ops [⟨.tmp, .bin .add .arith (.v 9) (.c (.int .i64 1)), .none⟩,
     ⟨(.var 9), .mov (.t 0), .none⟩])))))))
 (.seq (.ops [⟨(.var 1), .mov (.c (.int .i64 0)), .none⟩])
 .ret))))),
 [1]⟩
def c26 : AFunc := ⟨[0, 1, 4, 5, 6, 8, 9, 10, 11, 18],
 (.seq (.seq (.ops [⟨.tmp, .mov (.v 0), .none⟩,
   ⟨(.var 5), .call (.c (.fn 22 [])) [(.t 0)], .none⟩,
   ⟨(.var 6), .len (.v 5), .none⟩,
   ⟨(.var 7), .mov (.c (.int .i64 0)), .none⟩])
 (.block 0 (.loop (.seq (.ops [⟨(.var 8), .bin .lss .arith (.v 7) (.v 6), .none⟩])
   (.seq (.cond (.v 8)
    .skip
    (.exit 0))
   (.seq (.block 1 (.seq (.ops [⟨.tmp, .mov (.v 7), .none⟩,
      ⟨.tmp, .iaddr 1 (.v 5) (.v 7), .none⟩,
      ⟨.tmp, .load 1 false (.t 1), .none⟩,
      ⟨(.var 2), .mov (.t 0), .none⟩,
      ⟨(.var 3), .mov (.t 2), .none⟩])
    (.seq (.ops [⟨(.var 4), .mov (.c (.int .i64 64)), .none⟩])
    (.seq (.seq (.ops [⟨.tmp, .mov (.v 2), .none⟩,
      ⟨.tmp, .mov (.v 1), .none⟩,
      ⟨.tmp, .len (.t 1), .none⟩,
      ⟨(.var 9), .bin .lss .arith (.t 0) (.t 2), .none⟩])
    (.cond (.v 9)
     (.ops [⟨.tmp, .mov (.v 1), .none⟩,
       ⟨.tmp, .mov (.v 2), .none⟩,
       ⟨.tmp, .iaddr 1 (.t 0) (.t 1), .none⟩,
       ⟨.tmp, .load 1 false (.t 2), .none⟩,
       ⟨(.var 4), .mov (.t 3), .none⟩])
     .skip))
    (.ops [⟨.tmp, .mov (.v 0), .none⟩,
      ⟨.tmp, .mov (.v 3), .none⟩,
      ⟨.tmp, .mov (.v 4), .none⟩,
      ⟨.tmp, .call (.c (.fn 51 [])) [(.t 0), (.t 1), (.t 2)], .none⟩])))))
   (.ops [⟨.tmp, .bin .add .arith (.v 7) (.c (.int .i64 1)), .none⟩,
     ⟨(.var 7), .mov (.t 0), .none⟩])))))))
 (.ops [⟨.tmp, .mov (.v 0), .none⟩,
   ⟨.tmp, .mov (.v 0), .none⟩,
   ⟨.tmp, .nilc (.t 0), .none⟩,
   ⟨.tmp, .faddr 3 (.t 2), .none⟩,
   ⟨.no, .store 1 (.t 3) (.c (.bool false)), .none⟩,
   ⟨.tmp, .nilc (.t 1), .none⟩,
   ⟨.tmp, .faddr 4 (.t 5), .none⟩,
   ⟨.no, .store 1 (.t 6) (.c (.int .i64 (-1))), .none⟩])),
 []⟩
def c27 : AFunc := ⟨[0, 2],
 (.seq (.ops [⟨(.var 1), .mov (.c (.bool false)), .none⟩])
 (.seq (.ops [⟨.tmp, .mov (.v 0), .none⟩,
   ⟨.tmp, .nilc (.t 0), .none⟩,
   ⟨.tmp, .faddr 3 (.t 1), .none⟩,
   ⟨.tmp, .load 1 false (.t 2), .none⟩,
   ⟨.tmp, .un .not (.t 3), .none⟩,
   ⟨(.var 1), .mov (.t 4), .none⟩])
 .ret)),
 [1]⟩
def c28 : AFunc := ⟨[0, 2],
 (.seq (.ops [⟨(.var 1), .mov (.c .nilptr), .none⟩])
 (.seq (.ops [⟨.tmp, .mov (.v 0), .none⟩,
   ⟨.tmp, .nilc (.t 0), .none⟩,
   ⟨.tmp, .faddr 0 (.t 1), .none⟩,
   ⟨.tmp, .load 1 false (.t 2), .none⟩,
   ⟨.tmp, .mov (.v 0), .none⟩,
   ⟨.tmp, .nilc (.t 4), .none⟩,
   ⟨.tmp, .faddr 1 (.t 5), .none⟩,
   ⟨.tmp, .load 1 false (.t 6), .none⟩,
   ⟨.tmp, .mov (.v 0), .none⟩,
   ⟨.tmp, .nilc (.t 8), .none⟩,
   ⟨.tmp, .faddr 2 (.t 9), .none⟩,
   ⟨.tmp, .load 1 false (.t 10), .none⟩,
   ⟨.tmp, .mov (.v 0), .none⟩,
   ⟨.tmp, .nilc (.t 12), .none⟩,
   ⟨.tmp, .faddr 3 (.t 13), .none⟩,
   ⟨.tmp, .load 1 false (.t 14), .none⟩,
   ⟨.tmp, .mov (.v 0), .none⟩,
   ⟨.tmp, .nilc (.t 16), .none⟩,
   ⟨.tmp, .faddr 4 (.t 17), .none⟩,
   ⟨.tmp, .load 1 false (.t 18), .none⟩,
   ⟨.tmp, .call (.c (.fn 52 [])) [(.t 3)], .none⟩,
   ⟨.tmp, .call (.c (.fn 53 [])) [(.t 7)], .none⟩,
   ⟨.tmp, .call (.c (.fn 54 [])) [(.t 11)], .none⟩,
   ⟨.tmp, .build [(.sl [] .nil), .nilmp, .nilmp, (.bool false), (.int .i64 0)] [(0, 1, (.t 20)), (1, 1, (.t 21)), (2, 1, (.t 22)), (3, 1, (.t 15)), (4, 1, (.t 19))], .none⟩,
   ⟨.tmp, .box 5 true (.t 23), .none⟩,
   ⟨(.var 1), .mov (.t 24), .none⟩])
 .ret)),
 [1]⟩
def c29 : AFunc := ⟨[0, 2],
 (.seq (.ops [⟨(.var 1), .mov (.c .nilptr), .none⟩])
 (.seq (.ops [⟨.tmp, .x .elit [], .none⟩,
   ⟨.tmp, .mov (.v 0), .none⟩,
   ⟨.tmp, .nilc (.t 1), .none⟩,
   ⟨.tmp, .faddr 0 (.t 2), .none⟩,
   ⟨.tmp, .load 1 false (.t 3), .none⟩,
   ⟨.tmp, .mov (.v 0), .none⟩,
   ⟨.tmp, .nilc (.t 5), .none⟩,
   ⟨.tmp, .faddr 1 (.t 6), .none⟩,
   ⟨.tmp, .load 1 false (.t 7), .none⟩,
   ⟨.tmp, .mov (.v 0), .none⟩,
   ⟨.tmp, .nilc (.t 9), .none⟩,
   ⟨.tmp, .faddr 2 (.t 10), .none⟩,
   ⟨.tmp, .load 1 false (.t 11), .none⟩,
   ⟨.tmp, .x (.afresh 54 40 4 true) [(.t 0), (.t 4)], .none⟩,
   ⟨.tmp, .build [(.sl [] .nil), (.bool false), (.int .i64 0)] [(0, 1, (.t 13)), (1, 1, (.t 8)), (2, 1, (.t 12))], .none⟩,
   ⟨.tmp, .box 3 true (.t 14), .none⟩,
   ⟨(.var 1), .mov (.t 15), .none⟩])
 .ret)),
 [1]⟩
def c30 : AFunc := ⟨[0, 1],
 (.ops [⟨.tmp, .mov (.v 0), .none⟩,
   ⟨.tmp, .mov (.v 1), .none⟩,
   ⟨.tmp, .nilc (.t 0), .none⟩,
   ⟨.tmp, .faddr 4 (.t 2), .none⟩,
   ⟨.no, .store 1 (.t 3) (.t 1), .none⟩]),
 []⟩
def c31 : AFunc := ⟨[0, 2],
 (.seq (.ops [⟨(.var 1), .mov (.c (.int .i64 0)), .none⟩])
 (.seq (.ops [⟨.tmp, .mov (.v 0), .none⟩,
   ⟨.tmp, .nilc (.t 0), .none⟩,
   ⟨.tmp, .faddr 0 (.t 1), .none⟩,
   ⟨.tmp, .load 1 false (.t 2), .none⟩,
   ⟨.tmp, .len (.t 3), .none⟩,
   ⟨(.var 1), .mov (.t 4), .none⟩])
 .ret)),
 [1]⟩
def c32 : AFunc := ⟨[0, 2, 3, 4, 5, 11, 16],
 (.seq (.ops [⟨(.var 1), .mov (.c .nilptr), .none⟩,
   ⟨(.var 2), .mov (.c (.int .i64 0)), .none⟩])
 (.seq (.seq (.ops [⟨.tmp, .mov (.v 0), .none⟩,
   ⟨.tmp, .bin .lss .arith (.t 0) (.c (.int .i64 1)), .none⟩,
   ⟨.tmp, .mov (.t 1), .none⟩,
   ⟨.tmp, .mov (.v 0), (some ((.t 2), false))⟩,
   ⟨.tmp, .bin .gtr .arith (.t 3) (.c (.int .i64 4096)), (some ((.t 2), false))⟩,
   ⟨(.var 5), .pick (.t 2) (.c (.bool true)) (.t 4), .none⟩])
 (.cond (.v 5)
  (.seq (.ops [⟨(.var 1), .mov (.c .nilptr), .none⟩,
    ⟨(.var 2), .mov (.c (.int .i64 1)), .none⟩])
  .ret)
  .skip))
 (.seq (.ops [⟨.tmp, .build [(.sl [] .nil), (.bool false), (.int .i64 0)] [(2, 1, (.c (.int .i64 (-1))))], .none⟩,
   ⟨.tmp, .box 3 true (.t 0), .none⟩,
   ⟨(.var 3), .mov (.t 1), .none⟩])
 (.seq (.seq (.ops [⟨(.var 4), .mov (.c (.int .i64 0)), .none⟩])
 (.block 0 (.loop (.seq (.seq (.ops [⟨.tmp, .mov (.v 4), .none⟩,
     ⟨.tmp, .mov (.v 0), .none⟩,
     ⟨(.var 6), .bin .lss .arith (.t 0) (.t 1), .none⟩])
   (.cond (.v 6)
    .skip
    (.exit 0)))
   (.seq (.block 1 (.ops [⟨.tmp, .mov (.v 3), .none⟩,
      ⟨.tmp, .mov (.v 3), .none⟩,
      ⟨.tmp, .nilc (.t 1), .none⟩,
      ⟨.tmp, .faddr 0 (.t 2), .none⟩,
      ⟨.tmp, .load 1 false (.t 3), .none⟩,
      ⟨.tmp, .mksl 1 1 false [(.int .u8 0)] (.c (.int .i64 64)) (.c (.int .i64 64)), .none⟩,
      ⟨.tmp, .x .b2s [(.t 5)], .none⟩,
      ⟨.tmp, .build [(.str []), (.str []), (.bool false), (.bool false)] [(0, 1, (.t 6))], .none⟩,
      ⟨.tmp, .lit 0 54 1 4 true [(.str []), (.str []), (.bool false), (.bool false)] [(0, (.t 7))], .none⟩,
      ⟨.tmp, .append true 54 40 4 true (.t 4) (.t 8), .none⟩,
      ⟨.tmp, .nilc (.t 0), .none⟩,
      ⟨.tmp, .faddr 0 (.t 10), .none⟩,
      ⟨.no, .store 1 (.t 11) (.t 9), .none⟩]))
   (.ops [⟨.tmp, .mov (.v 4), .none⟩,
     ⟨.tmp, .bin .add .arith (.t 0) (.c (.int .i64 1)), .none⟩,
     ⟨(.var 4), .mov (.t 1), .none⟩]))))))
 (.seq (.ops [⟨.tmp, .mov (.v 3), .none⟩,
   ⟨(.var 1), .mov (.t 0), .none⟩,
   ⟨(.var 2), .mov (.c (.int .i64 0)), .none⟩])
 .ret))))),
 [1, 2]⟩
def c33 : AFunc := ⟨[0, 1, 2, 6, 7, 11, 20, 24],
 (.seq (.ops [⟨(.var 3), .mov (.c (.int .i64 0)), .none⟩])
 (.seq (.seq (.ops [⟨.tmp, .mov (.v 0), .none⟩,
   ⟨.tmp, .nilc (.t 0), .none⟩,
   ⟨.tmp, .faddr 1 (.t 1), .none⟩,
   ⟨(.var 5), .load 1 false (.t 2), .none⟩])
 (.cond (.v 5)
  (.seq (.ops [⟨(.var 3), .mov (.c (.int .i64 21)), .none⟩])
  .ret)
  .skip))
 (.seq (.seq (.ops [⟨.tmp, .mov (.v 0), .none⟩,
   ⟨.tmp, .mov (.v 1), .none⟩,
   ⟨.tmp, .call (.c (.fn 55 [])) [(.t 0), (.t 1)], .none⟩,
   ⟨.tmp, .un .not (.t 2), .none⟩,
   ⟨.tmp, .mov (.t 3), .none⟩,
   ⟨.tmp, .mov (.v 2), (some ((.t 4), false))⟩,
   ⟨.tmp, .slen (.t 5), (some ((.t 4), false))⟩,
   ⟨.tmp, .bin .neq .arith (.t 6) (.c (.int .i64 64)), (some ((.t 4), false))⟩,
   ⟨(.var 6), .pick (.t 4) (.c (.bool true)) (.t 7), .none⟩])
 (.cond (.v 6)
  (.seq (.ops [⟨(.var 3), .mov (.c (.int .i64 1)), .none⟩])
  .ret)
  .skip))
 (.seq (.ops [⟨.tmp, .mov (.v 0), .none⟩,
   ⟨.tmp, .call (.c (.fn 56 [])) [(.t 0)], .none⟩,
   ⟨(.var 4), .mov (.t 1), .none⟩])
 (.seq (.seq (.ops [⟨.tmp, .mov (.v 4), .none⟩,
   ⟨(.var 7), .bin .neq .arith (.t 0) (.c (.int .i64 0)), .none⟩])
 (.cond (.v 7)
  (.seq (.ops [⟨.tmp, .mov (.v 4), .none⟩,
    ⟨(.var 3), .mov (.t 0), .none⟩])
  .ret)
  .skip))
 (.seq (.ops [⟨.tmp, .mov (.v 0), .none⟩,
   ⟨.tmp, .nilc (.t 0), .none⟩,
   ⟨.tmp, .faddr 0 (.t 1), .none⟩,
   ⟨.tmp, .load 1 false (.t 2), .none⟩,
   ⟨.tmp, .mov (.v 1), .none⟩,
   ⟨.tmp, .mov (.v 2), .none⟩,
   ⟨.tmp, .iaddr 4 (.t 3) (.t 4), .none⟩,
   ⟨.tmp, .faddr 1 (.t 6), .none⟩,
   ⟨.no, .store 1 (.t 7) (.t 5), .none⟩])
 (.seq (.ops [⟨.tmp, .mov (.v 0), .none⟩,
   ⟨.tmp, .nilc (.t 0), .none⟩,
   ⟨.tmp, .faddr 0 (.t 1), .none⟩,
   ⟨.tmp, .load 1 false (.t 2), .none⟩,
   ⟨.tmp, .mov (.v 1), .none⟩,
   ⟨.tmp, .iaddr 4 (.t 3) (.t 4), .none⟩,
   ⟨.tmp, .faddr 2 (.t 5), .none⟩,
   ⟨.no, .store 1 (.t 6) (.c (.bool true)), .none⟩])
 (.seq (.ops [⟨(.var 3), .mov (.c (.int .i64 0)), .none⟩])
 .ret)))))))),
 [3]⟩
def c34 : AFunc := ⟨[0, 1, 4, 5, 9, 13, 21],
 (.seq (.ops [⟨(.var 2), .mov (.c (.str [])), .none⟩,
   ⟨(.var 3), .mov (.c (.int .i64 0)), .none⟩])
 (.seq (.seq (.ops [⟨.tmp, .mov (.v 0), .none⟩,
   ⟨.tmp, .nilc (.t 0), .none⟩,
   ⟨.tmp, .faddr 1 (.t 1), .none⟩,
   ⟨(.var 4), .load 1 false (.t 2), .none⟩])
 (.cond (.v 4)
  (.seq (.ops [⟨(.var 2), .mov (.c (.str [])), .none⟩,
    ⟨(.var 3), .mov (.c (.int .i64 21)), .none⟩])
  .ret)
  .skip))
 (.seq (.seq (.ops [⟨.tmp, .mov (.v 0), .none⟩,
   ⟨.tmp, .mov (.v 1), .none⟩,
   ⟨.tmp, .call (.c (.fn 55 [])) [(.t 0), (.t 1)], .none⟩,
   ⟨(.var 5), .un .not (.t 2), .none⟩])
 (.cond (.v 5)
  (.seq (.ops [⟨(.var 2), .mov (.c (.str [])), .none⟩,
    ⟨(.var 3), .mov (.c (.int .i64 1)), .none⟩])
  .ret)
  .skip))
 (.seq (.seq (.ops [⟨.tmp, .mov (.v 0), .none⟩,
   ⟨.tmp, .nilc (.t 0), .none⟩,
   ⟨.tmp, .faddr 0 (.t 1), .none⟩,
   ⟨.tmp, .load 1 false (.t 2), .none⟩,
   ⟨.tmp, .mov (.v 1), .none⟩,
   ⟨.tmp, .iaddr 4 (.t 3) (.t 4), .none⟩,
   ⟨.tmp, .faddr 2 (.t 5), .none⟩,
   ⟨(.var 6), .load 1 false (.t 6), .none⟩])
 (.cond (.v 6)
  (.seq (.ops [⟨.tmp, .mov (.v 0), .none⟩,
    ⟨.tmp, .nilc (.t 0), .none⟩,
    ⟨.tmp, .faddr 0 (.t 1), .none⟩,
    ⟨.tmp, .load 1 false (.t 2), .none⟩,
    ⟨.tmp, .mov (.v 1), .none⟩,
    ⟨.tmp, .iaddr 4 (.t 3) (.t 4), .none⟩,
    ⟨.tmp, .faddr 1 (.t 5), .none⟩,
    ⟨.tmp, .load 1 false (.t 6), .none⟩,
    ⟨(.var 2), .mov (.t 7), .none⟩,
    ⟨(.var 3), .mov (.c (.int .i64 0)), .none⟩])
  .ret)
  .skip))
 (.seq (.ops [⟨.tmp, .mov (.v 0), .none⟩,
   ⟨.tmp, .nilc (.t 0), .none⟩,
   ⟨.tmp, .faddr 0 (.t 1), .none⟩,
   ⟨.tmp, .load 1 false (.t 2), .none⟩,
   ⟨.tmp, .mov (.v 1), .none⟩,
   ⟨.tmp, .iaddr 4 (.t 3) (.t 4), .none⟩,
   ⟨.tmp, .faddr 0 (.t 5), .none⟩,
   ⟨.tmp, .load 1 false (.t 6), .none⟩,
   ⟨(.var 2), .mov (.t 7), .none⟩,
   ⟨(.var 3), .mov (.c (.int .i64 0)), .none⟩])
 .ret))))),
 [2, 3]⟩
def c35 : AFunc := ⟨[0, 2, 3, 4, 8, 12, 20, 30],
 (.seq (.ops [⟨(.var 1), .mov (.c (.int .i64 0)), .none⟩])
 (.seq (.seq (.ops [⟨.tmp, .mov (.v 0), .none⟩,
   ⟨.tmp, .nilc (.t 0), .none⟩,
   ⟨.tmp, .faddr 1 (.t 1), .none⟩,
   ⟨(.var 4), .load 1 false (.t 2), .none⟩])
 (.cond (.v 4)
  (.seq (.ops [⟨(.var 1), .mov (.c (.int .i64 21)), .none⟩])
  .ret)
  .skip))
 (.seq (.ops [⟨.tmp, .mov (.v 0), .none⟩,
   ⟨.tmp, .call (.c (.fn 56 [])) [(.t 0)], .none⟩,
   ⟨(.var 2), .mov (.t 1), .none⟩])
 (.seq (.seq (.ops [⟨.tmp, .mov (.v 2), .none⟩,
   ⟨(.var 5), .bin .neq .arith (.t 0) (.c (.int .i64 0)), .none⟩])
 (.cond (.v 5)
  (.seq (.ops [⟨.tmp, .mov (.v 2), .none⟩,
    ⟨(.var 1), .mov (.t 0), .none⟩])
  .ret)
  .skip))
 (.seq (.seq (.ops [⟨(.var 3), .mov (.c (.int .i64 0)), .none⟩])
 (.block 0 (.loop (.seq (.seq (.ops [⟨.tmp, .mov (.v 3), .none⟩,
     ⟨.tmp, .mov (.v 0), .none⟩,
     ⟨.tmp, .nilc (.t 1), .none⟩,
     ⟨.tmp, .faddr 0 (.t 2), .none⟩,
     ⟨.tmp, .load 1 false (.t 3), .none⟩,
     ⟨.tmp, .len (.t 4), .none⟩,
     ⟨(.var 6), .bin .lss .arith (.t 0) (.t 5), .none⟩])
   (.cond (.v 6)
    .skip
    (.exit 0)))
   (.seq (.block 1 (.seq (.ops [⟨.tmp, .mov (.v 0), .none⟩,
      ⟨.tmp, .nilc (.t 0), .none⟩,
      ⟨.tmp, .faddr 0 (.t 1), .none⟩,
      ⟨.tmp, .load 1 false (.t 2), .none⟩,
      ⟨.tmp, .mov (.v 3), .none⟩,
      ⟨.tmp, .iaddr 4 (.t 3) (.t 4), .none⟩,
      ⟨.tmp, .faddr 2 (.t 5), .none⟩,
      ⟨(.var 7), .load 1 false (.t 6), .none⟩])
    (.cond (.v 7)
     (.ops [⟨.tmp, .mov (.v 0), .none⟩,
       ⟨.tmp, .mov (.v 3), .none⟩,
       ⟨.tmp, .call (.c (.fn 57 [])) [(.t 0), (.t 1), (.c (.int .i64 64))], .none⟩])
     .skip)))
   (.ops [⟨.tmp, .mov (.v 3), .none⟩,
     ⟨.tmp, .bin .add .arith (.t 0) (.c (.int .i64 1)), .none⟩,
     ⟨(.var 3), .mov (.t 1), .none⟩]))))))
 (.seq (.ops [⟨(.var 1), .mov (.c (.int .i64 0)), .none⟩])
 .ret)))))),
 [1]⟩
def c36 : AFunc := ⟨[0, 1],
 (.ops [⟨.tmp, .mov (.v 0), .none⟩,
   ⟨.tmp, .mov (.v 1), .none⟩,
   ⟨.tmp, .mnx true (.c (.int .i64 (-1))) (.t 1), .none⟩,
   ⟨.tmp, .nilc (.t 0), .none⟩,
   ⟨.tmp, .faddr 2 (.t 3), .none⟩,
   ⟨.no, .store 1 (.t 4) (.t 2), .none⟩]),
 []⟩
def c37 : AFunc := ⟨[0, 1, 4, 5, 6, 13, 24, 28],
 (.seq (.ops [⟨(.var 2), .mov (.c (.int .i64 0)), .none⟩])
 (.seq (.seq (.ops [⟨(.var 3), .mov (.c (.int .i64 0)), .none⟩])
 (.block 0 (.loop (.seq (.seq (.ops [⟨.tmp, .mov (.v 3), .none⟩,
     ⟨.tmp, .mov (.v 0), .none⟩,
     ⟨.tmp, .nilc (.t 1), .none⟩,
     ⟨.tmp, .faddr 0 (.t 2), .none⟩,
     ⟨.tmp, .load 1 false (.t 3), .none⟩,
     ⟨.tmp, .len (.t 4), .none⟩,
     ⟨(.var 5), .bin .lss .arith (.t 0) (.t 5), .none⟩])
   (.cond (.v 5)
    .skip
    (.exit 0)))
   (.seq (.block 1 (.seq (.seq (.ops [⟨.tmp, .mov (.v 0), .none⟩,
      ⟨.tmp, .nilc (.t 0), .none⟩,
      ⟨.tmp, .faddr 0 (.t 1), .none⟩,
      ⟨.tmp, .load 1 false (.t 2), .none⟩,
      ⟨.tmp, .mov (.v 3), .none⟩,
      ⟨.tmp, .iaddr 4 (.t 3) (.t 4), .none⟩,
      ⟨.tmp, .faddr 2 (.t 5), .none⟩,
      ⟨.tmp, .load 1 false (.t 6), .none⟩,
      ⟨(.var 6), .un .not (.t 7), .none⟩])
    (.cond (.v 6)
     (.exit 1)
     .skip))
    (.seq (.ops [⟨(.var 4), .mov (.c (.int .i64 64)), .none⟩])
    (.seq (.seq (.ops [⟨.tmp, .mov (.v 2), .none⟩,
      ⟨.tmp, .mov (.v 1), .none⟩,
      ⟨.tmp, .len (.t 1), .none⟩,
      ⟨(.var 7), .bin .lss .arith (.t 0) (.t 2), .none⟩])
    (.cond (.v 7)
     (.ops [⟨.tmp, .mov (.v 1), .none⟩,
       ⟨.tmp, .mov (.v 2), .none⟩,
       ⟨.tmp, .iaddr 1 (.t 0) (.t 1), .none⟩,
       ⟨.tmp, .load 1 false (.t 2), .none⟩,
       ⟨(.var 4), .mov (.t 3), .none⟩])
     .skip))
    (.seq (.ops [⟨.tmp, .mov (.v 0), .none⟩,
      ⟨.tmp, .mov (.v 3), .none⟩,
      ⟨.tmp, .mov (.v 4), .none⟩,
      ⟨.tmp, .call (.c (.fn 57 [])) [(.t 0), (.t 1), (.t 2)], .none⟩])
    (.ops [⟨.tmp, .mov (.v 2), .none⟩,
      ⟨.tmp, .bin .add .arith (.t 0) (.c (.int .i64 1)), .none⟩,
      ⟨(.var 2), .mov (.t 1), .none⟩]))))))
   (.ops [⟨.tmp, .mov (.v 3), .none⟩,
     ⟨.tmp, .bin .add .arith (.t 0) (.c (.int .i64 1)), .none⟩,
     ⟨(.var 3), .mov (.t 1), .none⟩]))))))
 (.seq (.ops [⟨.tmp, .mov (.v 0), .none⟩,
   ⟨.tmp, .nilc (.t 0), .none⟩,
   ⟨.tmp, .faddr 1 (.t 1), .none⟩,
   ⟨.no, .store 1 (.t 2) (.c (.bool false)), .none⟩])
 (.ops [⟨.tmp, .mov (.v 0), .none⟩,
   ⟨.tmp, .nilc (.t 0), .none⟩,
   ⟨.tmp, .faddr 2 (.t 1), .none⟩,
   ⟨.no, .store 1 (.t 2) (.c (.int .i64 (-1))), .none⟩])))),
 []⟩
def c38 : AFunc := ⟨[0, 1, 2, 6, 7, 19],
 (.seq (.ops [⟨(.var 3), .mov (.c (.int .i64 0)), .none⟩])
 (.seq (.seq (.ops [⟨.tmp, .mov (.v 0), .none⟩,
   ⟨.tmp, .mov (.v 1), .none⟩,
   ⟨.tmp, .call (.c (.fn 55 [])) [(.t 0), (.t 1)], .none⟩,
   ⟨.tmp, .un .not (.t 2), .none⟩,
   ⟨.tmp, .mov (.t 3), .none⟩,
   ⟨.tmp, .mov (.v 2), (some ((.t 4), false))⟩,
   ⟨.tmp, .bin .lss .arith (.t 5) (.c (.int .i64 0)), (some ((.t 4), false))⟩,
   ⟨.tmp, .pick (.t 4) (.c (.bool true)) (.t 6), .none⟩,
   ⟨.tmp, .mov (.t 7), .none⟩,
   ⟨.tmp, .mov (.v 2), (some ((.t 8), false))⟩,
   ⟨.tmp, .bin .gtr .arith (.t 9) (.c (.int .i64 511)), (some ((.t 8), false))⟩,
   ⟨(.var 5), .pick (.t 8) (.c (.bool true)) (.t 10), .none⟩])
 (.cond (.v 5)
  (.seq (.ops [⟨(.var 3), .mov (.c (.int .i64 1)), .none⟩])
  .ret)
  .skip))
 (.seq (.ops [⟨.tmp, .mov (.v 0), .none⟩,
   ⟨.tmp, .nilc (.t 0), .none⟩,
   ⟨.tmp, .faddr 0 (.t 1), .none⟩,
   ⟨.tmp, .load 1 false (.t 2), .none⟩,
   ⟨.tmp, .mov (.v 1), .none⟩,
   ⟨.tmp, .iaddr 4 (.t 3) (.t 4), .none⟩,
   ⟨.tmp, .faddr 0 (.t 5), .none⟩,
   ⟨.tmp, .load 1 false (.t 6), .none⟩,
   ⟨.tmp, .x (.s2b true) [(.t 7)], .none⟩,
   ⟨(.var 4), .mov (.t 8), .none⟩])
 (.seq (.ops [⟨.tmp, .mov (.v 4), .none⟩,
   ⟨.tmp, .mov (.v 2), .none⟩,
   ⟨.tmp, .bin .quo .arith (.t 1) (.c (.int .i64 8)), .none⟩,
   ⟨.tmp, .mov (.v 4), .none⟩,
   ⟨.tmp, .mov (.v 2), .none⟩,
   ⟨.tmp, .bin .quo .arith (.t 4) (.c (.int .i64 8)), .none⟩,
   ⟨.tmp, .iaddr 1 (.t 3) (.t 5), .none⟩,
   ⟨.tmp, .load 1 false (.t 6), .none⟩,
   ⟨.tmp, .mov (.v 2), .none⟩,
   ⟨.tmp, .bin .rem .arith (.t 8) (.c (.int .i64 8)), .none⟩,
   ⟨.tmp, .bin .shl .arith (.c (.int .u8 1)) (.t 9), .none⟩,
   ⟨.tmp, .bin .xor .arith (.t 7) (.t 10), .none⟩,
   ⟨.tmp, .iaddr 1 (.t 0) (.t 2), .none⟩,
   ⟨.no, .store 1 (.t 12) (.t 11), .none⟩])
 (.seq (.ops [⟨.tmp, .mov (.v 0), .none⟩,
   ⟨.tmp, .nilc (.t 0), .none⟩,
   ⟨.tmp, .faddr 0 (.t 1), .none⟩,
   ⟨.tmp, .load 1 false (.t 2), .none⟩,
   ⟨.tmp, .mov (.v 1), .none⟩,
   ⟨.tmp, .mov (.v 4), .none⟩,
   ⟨.tmp, .x .b2s [(.t 5)], .none⟩,
   ⟨.tmp, .iaddr 4 (.t 3) (.t 4), .none⟩,
   ⟨.tmp, .faddr 0 (.t 7), .none⟩,
   ⟨.no, .store 1 (.t 8) (.t 6), .none⟩])
 (.seq (.ops [⟨(.var 3), .mov (.c (.int .i64 0)), .none⟩])
 .ret)))))),
 [3]⟩
def c39 : AFunc := ⟨[0, 1, 4, 8],
 (.seq (.ops [⟨(.var 2), .mov (.c (.int .i64 0)), .none⟩])
 (.seq (.seq (.ops [⟨.tmp, .mov (.v 0), .none⟩,
   ⟨.tmp, .mov (.v 1), .none⟩,
   ⟨.tmp, .call (.c (.fn 55 [])) [(.t 0), (.t 1)], .none⟩,
   ⟨(.var 3), .un .not (.t 2), .none⟩])
 (.cond (.v 3)
  (.seq (.ops [⟨(.var 2), .mov (.c (.int .i64 1)), .none⟩])
  .ret)
  .skip))
 (.seq (.ops [⟨.tmp, .mov (.v 0), .none⟩,
   ⟨.tmp, .nilc (.t 0), .none⟩,
   ⟨.tmp, .faddr 0 (.t 1), .none⟩,
   ⟨.tmp, .load 1 false (.t 2), .none⟩,
   ⟨.tmp, .mov (.v 1), .none⟩,
   ⟨.tmp, .iaddr 4 (.t 3) (.t 4), .none⟩,
   ⟨.tmp, .faddr 3 (.t 5), .none⟩,
   ⟨.no, .store 1 (.t 6) (.c (.bool true)), .none⟩])
 (.seq (.ops [⟨(.var 2), .mov (.c (.int .i64 0)), .none⟩])
 .ret)))),
 [2]⟩
def c40 : AFunc := ⟨[0, 2, 3, 4, 11],
 (.seq (.ops [⟨(.var 1), .mov (.c (.sl [] .nil)), .none⟩])
 (.seq (.ops [⟨(.var 2), .mov (.c (.sl [] .nil)), .none⟩])
 (.seq (.seq (.ops [⟨(.var 3), .mov (.c (.int .i64 0)), .none⟩])
 (.block 0 (.loop (.seq (.seq (.ops [⟨.tmp, .mov (.v 3), .none⟩,
     ⟨.tmp, .mov (.v 0), .none⟩,
     ⟨.tmp, .nilc (.t 1), .none⟩,
     ⟨.tmp, .faddr 0 (.t 2), .none⟩,
     ⟨.tmp, .load 1 false (.t 3), .none⟩,
     ⟨.tmp, .len (.t 4), .none⟩,
     ⟨(.var 4), .bin .lss .arith (.t 0) (.t 5), .none⟩])
   (.cond (.v 4)
    .skip
    (.exit 0)))
   (.seq (.block 1 (.ops [⟨.tmp, .mov (.v 2), .none⟩,
      ⟨.tmp, .mov (.v 0), .none⟩,
      ⟨.tmp, .nilc (.t 1), .none⟩,
      ⟨.tmp, .faddr 0 (.t 2), .none⟩,
      ⟨.tmp, .load 1 false (.t 3), .none⟩,
      ⟨.tmp, .mov (.v 3), .none⟩,
      ⟨.tmp, .iaddr 4 (.t 4) (.t 5), .none⟩,
      ⟨.tmp, .faddr 0 (.t 6), .none⟩,
      ⟨.tmp, .load 1 false (.t 7), .none⟩,
      ⟨.tmp, .lit 0 9 1 1 false [(.str [])] [(0, (.t 8))], .none⟩,
      ⟨.tmp, .append false 9 16 1 false (.t 0) (.t 9), .none⟩,
      ⟨(.var 2), .mov (.t 10), .none⟩]))
   (.ops [⟨.tmp, .mov (.v 3), .none⟩,
     ⟨.tmp, .bin .add .arith (.t 0) (.c (.int .i64 1)), .none⟩,
     ⟨(.var 3), .mov (.t 1), .none⟩]))))))
 (.seq (.ops [⟨.tmp, .mov (.v 2), .none⟩,
   ⟨(.var 1), .mov (.t 0), .none⟩])
 .ret)))),
 [1]⟩
def c41 : AFunc := ⟨[0, 1, 4, 5, 10, 14, 25],
 (.seq (.ops [⟨(.var 2), .mov (.c (.bool false)), .none⟩])
 (.seq (.seq (.ops [⟨.tmp, .mov (.v 0), .none⟩,
   ⟨.tmp, .len (.t 0), .none⟩,
   ⟨.tmp, .mov (.v 1), .none⟩,
   ⟨.tmp, .len (.t 2), .none⟩,
   ⟨(.var 4), .bin .neq .arith (.t 1) (.t 3), .none⟩])
 (.cond (.v 4)
  (.seq (.ops [⟨(.var 2), .mov (.c (.bool false)), .none⟩])
  .ret)
  .skip))
 (.seq (.seq (.ops [⟨(.var 3), .mov (.c (.int .i64 0)), .none⟩])
 (.block 0 (.loop (.seq (.seq (.ops [⟨.tmp, .mov (.v 3), .none⟩,
     ⟨.tmp, .mov (.v 0), .none⟩,
     ⟨.tmp, .len (.t 1), .none⟩,
     ⟨(.var 5), .bin .lss .arith (.t 0) (.t 2), .none⟩])
   (.cond (.v 5)
    .skip
    (.exit 0)))
   (.seq (.block 1 (.seq (.ops [⟨.tmp, .mov (.v 0), .none⟩,
      ⟨.tmp, .mov (.v 3), .none⟩,
      ⟨.tmp, .iaddr 1 (.t 0) (.t 1), .none⟩,
      ⟨.tmp, .load 1 false (.t 2), .none⟩,
      ⟨.tmp, .mov (.v 1), .none⟩,
      ⟨.tmp, .mov (.v 3), .none⟩,
      ⟨.tmp, .iaddr 1 (.t 4) (.t 5), .none⟩,
      ⟨.tmp, .load 1 false (.t 6), .none⟩,
      ⟨(.var 6), .bin .neq .arith (.t 3) (.t 7), .none⟩])
    (.cond (.v 6)
     (.seq (.ops [⟨(.var 2), .mov (.c (.bool false)), .none⟩])
     .ret)
     .skip)))
   (.ops [⟨.tmp, .mov (.v 3), .none⟩,
     ⟨.tmp, .bin .add .arith (.t 0) (.c (.int .i64 1)), .none⟩,
     ⟨(.var 3), .mov (.t 1), .none⟩]))))))
 (.seq (.ops [⟨(.var 2), .mov (.c (.bool true)), .none⟩])
 .ret)))),
 [2]⟩
def c42 : AFunc := ⟨[0, 2, 3, 4, 11, 21],
 (.seq (.ops [⟨(.var 1), .mov (.c (.sl [] .nil)), .none⟩])
 (.seq (.ops [⟨(.var 2), .mov (.c (.sl [] .nil)), .none⟩])
 (.seq (.seq (.ops [⟨(.var 3), .mov (.c (.int .i64 0)), .none⟩])
 (.block 0 (.loop (.seq (.seq (.ops [⟨.tmp, .mov (.v 3), .none⟩,
     ⟨.tmp, .mov (.v 0), .none⟩,
     ⟨.tmp, .nilc (.t 1), .none⟩,
     ⟨.tmp, .faddr 0 (.t 2), .none⟩,
     ⟨.tmp, .load 1 false (.t 3), .none⟩,
     ⟨.tmp, .len (.t 4), .none⟩,
     ⟨(.var 4), .bin .lss .arith (.t 0) (.t 5), .none⟩])
   (.cond (.v 4)
    .skip
    (.exit 0)))
   (.seq (.block 1 (.seq (.ops [⟨.tmp, .mov (.v 0), .none⟩,
      ⟨.tmp, .nilc (.t 0), .none⟩,
      ⟨.tmp, .faddr 0 (.t 1), .none⟩,
      ⟨.tmp, .load 1 false (.t 2), .none⟩,
      ⟨.tmp, .mov (.v 3), .none⟩,
      ⟨.tmp, .iaddr 4 (.t 3) (.t 4), .none⟩,
      ⟨.tmp, .faddr 2 (.t 5), .none⟩,
      ⟨(.var 5), .load 1 false (.t 6), .none⟩])
    (.cond (.v 5)
     (.ops [⟨.tmp, .mov (.v 2), .none⟩,
       ⟨.tmp, .mov (.v 3), .none⟩,
       ⟨.tmp, .lit 0 3 1 1 false [(.int .i64 0)] [(0, (.t 1))], .none⟩,
       ⟨.tmp, .append false 3 8 1 false (.t 0) (.t 2), .none⟩,
       ⟨(.var 2), .mov (.t 3), .none⟩])
     .skip)))
   (.ops [⟨.tmp, .mov (.v 3), .none⟩,
     ⟨.tmp, .bin .add .arith (.t 0) (.c (.int .i64 1)), .none⟩,
     ⟨(.var 3), .mov (.t 1), .none⟩]))))))
 (.seq (.ops [⟨.tmp, .mov (.v 2), .none⟩,
   ⟨(.var 1), .mov (.t 0), .none⟩])
 .ret)))),
 [1]⟩
def c43 : AFunc := ⟨[0, 2, 3, 4, 11, 21],
 (.seq (.ops [⟨(.var 1), .mov (.c (.sl [] .nil)), .none⟩])
 (.seq (.ops [⟨(.var 2), .mov (.c (.sl [] .nil)), .none⟩])
 (.seq (.seq (.ops [⟨(.var 3), .mov (.c (.int .i64 0)), .none⟩])
 (.block 0 (.loop (.seq (.seq (.ops [⟨.tmp, .mov (.v 3), .none⟩,
     ⟨.tmp, .mov (.v 0), .none⟩,
     ⟨.tmp, .nilc (.t 1), .none⟩,
     ⟨.tmp, .faddr 0 (.t 2), .none⟩,
     ⟨.tmp, .load 1 false (.t 3), .none⟩,
     ⟨.tmp, .len (.t 4), .none⟩,
     ⟨(.var 4), .bin .lss .arith (.t 0) (.t 5), .none⟩])
   (.cond (.v 4)
    .skip
    (.exit 0)))
   (.seq (.block 1 (.seq (.ops [⟨.tmp, .mov (.v 0), .none⟩,
      ⟨.tmp, .nilc (.t 0), .none⟩,
      ⟨.tmp, .faddr 0 (.t 1), .none⟩,
      ⟨.tmp, .load 1 false (.t 2), .none⟩,
      ⟨.tmp, .mov (.v 3), .none⟩,
      ⟨.tmp, .iaddr 4 (.t 3) (.t 4), .none⟩,
      ⟨.tmp, .faddr 3 (.t 5), .none⟩,
      ⟨(.var 5), .load 1 false (.t 6), .none⟩])
    (.cond (.v 5)
     (.ops [⟨.tmp, .mov (.v 2), .none⟩,
       ⟨.tmp, .mov (.v 3), .none⟩,
       ⟨.tmp, .lit 0 3 1 1 false [(.int .i64 0)] [(0, (.t 1))], .none⟩,
       ⟨.tmp, .append false 3 8 1 false (.t 0) (.t 2), .none⟩,
       ⟨(.var 2), .mov (.t 3), .none⟩])
     .skip)))
   (.ops [⟨.tmp, .mov (.v 3), .none⟩,
     ⟨.tmp, .bin .add .arith (.t 0) (.c (.int .i64 1)), .none⟩,
     ⟨(.var 3), .mov (.t 1), .none⟩]))))))
 (.seq (.ops [⟨.tmp, .mov (.v 2), .none⟩,
   ⟨(.var 1), .mov (.t 0), .none⟩])
 .ret)))),
 [1]⟩
def c44 : AFunc := ⟨[0, 2],
 (.seq (.ops [⟨(.var 1), .mov (.c (.int .i64 0)), .none⟩])
 (.seq (.ops [⟨.tmp, .mov (.v 0), .none⟩,
   ⟨.tmp, .nilc (.t 0), .none⟩,
   ⟨.tmp, .faddr 0 (.t 1), .none⟩,
   ⟨.tmp, .load 1 false (.t 2), .none⟩,
   ⟨.tmp, .len (.t 3), .none⟩,
   ⟨(.var 1), .mov (.t 4), .none⟩])
 .ret)),
 [1]⟩
def c45 : AFunc := ⟨[0, 2],
 (.seq (.ops [⟨(.var 1), .mov (.c (.bool false)), .none⟩])
 (.seq (.ops [⟨.tmp, .mov (.v 0), .none⟩,
   ⟨.tmp, .nilc (.t 0), .none⟩,
   ⟨.tmp, .faddr 1 (.t 1), .none⟩,
   ⟨.tmp, .load 1 false (.t 2), .none⟩,
   ⟨.tmp, .un .not (.t 3), .none⟩,
   ⟨(.var 1), .mov (.t 4), .none⟩])
 .ret)),
 [1]⟩
def c46 : AFunc := ⟨[0, 1, 4, 5, 10],
 (.seq (.ops [⟨(.var 2), .mov (.c (.int .i64 0)), .none⟩])
 (.seq (.block 0 (.seq (.ops [⟨.tmp, .mov (.v 0), .none⟩,
    ⟨.tmp, .nilc (.t 0), .none⟩,
    ⟨.tmp, .faddr 3 (.t 1), .none⟩,
    ⟨.tmp, .load 1 false (.t 2), .none⟩,
    ⟨(.var 3), .mov (.t 3), .none⟩])
  (.cond (.v 3)
   (.seq (.ops [⟨(.var 2), .mov (.c (.int .i64 21)), .none⟩])
   .ret)
   (.seq (.ops [⟨.tmp, .mov (.v 1), .none⟩,
     ⟨.tmp, .bin .lss .arith (.t 0) (.c (.int .i64 0)), .none⟩,
     ⟨.tmp, .mov (.t 1), .none⟩,
     ⟨.tmp, .mov (.v 1), (some ((.t 2), false))⟩,
     ⟨.tmp, .mov (.v 0), (some ((.t 2), false))⟩,
     ⟨.tmp, .nilc (.t 4), (some ((.t 2), false))⟩,
     ⟨.tmp, .faddr 0 (.t 5), (some ((.t 2), false))⟩,
     ⟨.tmp, .load 1 false (.t 6), (some ((.t 2), false))⟩,
     ⟨.tmp, .len (.t 7), (some ((.t 2), false))⟩,
     ⟨.tmp, .bin .geq .arith (.t 3) (.t 8), (some ((.t 2), false))⟩,
     ⟨.tmp, .pick (.t 2) (.c (.bool true)) (.t 9), .none⟩,
     ⟨(.var 4), .mov (.t 10), .none⟩])
   (.cond (.v 4)
    (.seq (.ops [⟨(.var 2), .mov (.c (.int .i64 1)), .none⟩])
    .ret)
    .skip)))))
 (.seq (.ops [⟨(.var 2), .mov (.c (.int .i64 0)), .none⟩])
 .ret))),
 [2]⟩
def c47 : AFunc := ⟨[0, 2, 3, 12],
 (.seq (.ops [⟨(.var 1), .mov (.c (.int .i64 0)), .none⟩])
 (.seq (.block 0 (.seq (.ops [⟨.tmp, .mov (.v 0), .none⟩,
    ⟨.tmp, .nilc (.t 0), .none⟩,
    ⟨.tmp, .faddr 4 (.t 1), .none⟩,
    ⟨.tmp, .load 1 false (.t 2), .none⟩,
    ⟨.tmp, .bin .eql .arith (.t 3) (.c (.int .i64 0)), .none⟩,
    ⟨(.var 2), .mov (.t 4), .none⟩])
  (.cond (.v 2)
   (.seq (.ops [⟨.tmp, .mov (.v 0), .none⟩,
     ⟨.tmp, .nilc (.t 0), .none⟩,
     ⟨.tmp, .faddr 3 (.t 1), .none⟩,
     ⟨.no, .store 1 (.t 2) (.c (.bool true)), .none⟩])
   (.seq (.ops [⟨(.var 1), .mov (.c (.int .i64 21)), .none⟩])
   .ret))
   (.seq (.ops [⟨.tmp, .mov (.v 0), .none⟩,
     ⟨.tmp, .nilc (.t 0), .none⟩,
     ⟨.tmp, .faddr 4 (.t 1), .none⟩,
     ⟨.tmp, .load 1 false (.t 2), .none⟩,
     ⟨.tmp, .bin .gtr .arith (.t 3) (.c (.int .i64 0)), .none⟩,
     ⟨(.var 3), .mov (.t 4), .none⟩])
   (.cond (.v 3)
    (.ops [⟨.tmp, .mov (.v 0), .none⟩,
      ⟨.tmp, .nilc (.t 0), .none⟩,
      ⟨.tmp, .faddr 4 (.t 1), .none⟩,
      ⟨.tmp, .load 1 false (.t 2), .none⟩,
      ⟨.tmp, .bin .sub .arith (.t 3) (.c (.int .i64 1)), .none⟩,
      ⟨.tmp, .nilc (.t 0), .none⟩,
      ⟨.tmp, .faddr 4 (.t 5), .none⟩,
      ⟨.no, .store 1 (.t 6) (.t 4), .none⟩])
    .skip)))))
 (.seq (.ops [⟨(.var 1), .mov (.c (.int .i64 0)), .none⟩])
 .ret))),
 [1]⟩
def c49 : AFunc := ⟨[0, 1, 2],
 (.seq (.ops [⟨(.var 1), .box 1 false (.v 0), .none⟩,
   ⟨(.var 2), .mov (.c .nilfn), .none⟩])
 (.seq (.ops [⟨.tmp, .clo 60 [(.v 1)], .none⟩,
   ⟨(.var 2), .mov (.t 0), .none⟩])
 .ret)),
 [2]⟩
def c50 : AFunc := ⟨[0, 1, 2],
 (.seq (.ops [⟨(.var 1), .box 1 false (.v 0), .none⟩,
   ⟨(.var 2), .mov (.c .nilfn), .none⟩])
 (.seq (.ops [⟨.tmp, .clo 61 [(.v 1)], .none⟩,
   ⟨(.var 2), .mov (.t 0), .none⟩])
 .ret)),
 [2]⟩
def c51 : AFunc := ⟨[0, 1, 2, 6, 35],
 (.seq (.ops [⟨.tmp, .mov (.v 0), .none⟩,
   ⟨.tmp, .nilc (.t 0), .none⟩,
   ⟨.tmp, .faddr 1 (.t 1), .none⟩,
   ⟨.tmp, .load 1 false (.t 2), .none⟩,
   ⟨.tmp, .mov (.v 1), .none⟩,
   ⟨.tmp, .x (.mlook (.int .i64) (.agg [(.int .u8 0), (.int .u8 0), (.int .u8 0), (.int .u8 0), (.int .u8 0), (.int .u8 0), (.int .u8 0), (.int .u8 0), (.int .u8 0), (.int .u8 0), (.int .u8 0), (.int .u8 0), (.int .u8 0), (.int .u8 0), (.int .u8 0), (.int .u8 0), (.int .u8 0), (.int .u8 0), (.int .u8 0), (.int .u8 0), (.int .u8 0), (.int .u8 0), (.int .u8 0), (.int .u8 0), (.int .u8 0), (.int .u8 0), (.int .u8 0), (.int .u8 0), (.int .u8 0), (.int .u8 0), (.int .u8 0), (.int .u8 0), (.int .u8 0), (.int .u8 0), (.int .u8 0), (.int .u8 0), (.int .u8 0), (.int .u8 0), (.int .u8 0), (.int .u8 0), (.int .u8 0), (.int .u8 0), (.int .u8 0), (.int .u8 0), (.int .u8 0), (.int .u8 0), (.int .u8 0), (.int .u8 0), (.int .u8 0), (.int .u8 0), (.int .u8 0), (.int .u8 0), (.int .u8 0), (.int .u8 0), (.int .u8 0), (.int .u8 0), (.int .u8 0), (.int .u8 0), (.int .u8 0), (.int .u8 0), (.int .u8 0), (.int .u8 0), (.int .u8 0), (.int .u8 0)]) false) [(.t 3), (.t 4)], .none⟩,
   ⟨(.var 3), .alloc 74 64 true [(.int .u8 0), (.int .u8 0), (.int .u8 0), (.int .u8 0), (.int .u8 0), (.int .u8 0), (.int .u8 0), (.int .u8 0), (.int .u8 0), (.int .u8 0), (.int .u8 0), (.int .u8 0), (.int .u8 0), (.int .u8 0), (.int .u8 0), (.int .u8 0), (.int .u8 0), (.int .u8 0), (.int .u8 0), (.int .u8 0), (.int .u8 0), (.int .u8 0), (.int .u8 0), (.int .u8 0), (.int .u8 0), (.int .u8 0), (.int .u8 0), (.int .u8 0), (.int .u8 0), (.int .u8 0), (.int .u8 0), (.int .u8 0), (.int .u8 0), (.int .u8 0), (.int .u8 0), (.int .u8 0), (.int .u8 0), (.int .u8 0), (.int .u8 0), (.int .u8 0), (.int .u8 0), (.int .u8 0), (.int .u8 0), (.int .u8 0), (.int .u8 0), (.int .u8 0), (.int .u8 0), (.int .u8 0), (.int .u8 0), (.int .u8 0), (.int .u8 0), (.int .u8 0), (.int .u8 0), (.int .u8 0), (.int .u8 0), (.int .u8 0), (.int .u8 0), (.int .u8 0), (.int .u8 0), (.int .u8 0), (.int .u8 0), (.int .u8 0), (.int .u8 0), (.int .u8 0)], .none⟩,
   ⟨.no, .store 64 (.v 3) (.t 5), .none⟩])
 (.seq (.ops [⟨.tmp, .mov (.v 0), .none⟩,
   ⟨.tmp, .nilc (.t 0), .none⟩,
   ⟨.tmp, .faddr 1 (.t 1), .none⟩,
   ⟨.tmp, .load 1 false (.t 2), .none⟩,
   ⟨.tmp, .mov (.v 1), .none⟩,
   ⟨.no, .x (.mdel (.int .i64)) [(.t 3), (.t 4)], .none⟩])
 (.seq (.ops [⟨.tmp, .mov (.v 0), .none⟩,
   ⟨.tmp, .nilc (.t 0), .none⟩,
   ⟨.tmp, .faddr 2 (.t 1), .none⟩,
   ⟨.tmp, .load 1 false (.t 2), .none⟩,
   ⟨.tmp, .mov (.v 1), .none⟩,
   ⟨.tmp, .x (.mlook (.int .i64) (.bool false) false) [(.t 3), (.t 4)], .none⟩,
   ⟨.tmp, .un .not (.t 5), .none⟩,
   ⟨.tmp, .mov (.t 6), .none⟩,
   ⟨.tmp, .load 64 true (.v 3), (some ((.t 7), true))⟩,
   ⟨.tmp, .mov (.v 0), (some ((.t 7), true))⟩,
   ⟨.tmp, .nilc (.t 9), (some ((.t 7), true))⟩,
   ⟨.tmp, .faddr 0 (.t 10), (some ((.t 7), true))⟩,
   ⟨.tmp, .load 1 false (.t 11), (some ((.t 7), true))⟩,
   ⟨.tmp, .mov (.v 1), (some ((.t 7), true))⟩,
   ⟨.tmp, .iaddr 64 (.t 12) (.t 13), (some ((.t 7), true))⟩,
   ⟨.tmp, .load 64 true (.t 14), (some ((.t 7), true))⟩,
   ⟨.tmp, .bin .neq (.struct [.int, .int, .int, .int, .int, .int, .int, .int, .int, .int, .int, .int, .int, .int, .int, .int, .int, .int, .int, .int, .int, .int, .int, .int, .int, .int, .int, .int, .int, .int, .int, .int, .int, .int, .int, .int, .int, .int, .int, .int, .int, .int, .int, .int, .int, .int, .int, .int, .int, .int, .int, .int, .int, .int, .int, .int, .int, .int, .int, .int, .int, .int, .int, .int]) (.t 8) (.t 15), (some ((.t 7), true))⟩,
   ⟨(.var 4), .pick (.t 7) (.t 16) (.c (.bool false)), .none⟩])
 (.cond (.v 4)
  (.ops [⟨.tmp, .mov (.v 0), .none⟩,
    ⟨.tmp, .nilc (.t 0), .none⟩,
    ⟨.tmp, .faddr 0 (.t 1), .none⟩,
    ⟨.tmp, .load 1 false (.t 2), .none⟩,
    ⟨.tmp, .mov (.v 1), .none⟩,
    ⟨.tmp, .iaddr 64 (.t 3) (.t 4), .none⟩,
    ⟨.tmp, .mov (.v 2), .none⟩,
    ⟨.tmp, .mnx false (.t 6) (.c (.int .i64 64)), .none⟩,
    ⟨.tmp, .mnx true (.c (.int .i64 0)) (.t 7), .none⟩,
    ⟨.tmp, .x (.aslice 64 1 false false true) [(.t 5), (.t 8)], .none⟩,
    ⟨.tmp, .x (.aslice 64 1 false false false) [(.v 3)], .none⟩,
    ⟨.tmp, .copy 1 (.t 9) (.t 10), .none⟩])
  .skip)))),
 []⟩
def c52 : AFunc := ⟨[0, 2, 4],
 (.seq (.ops [⟨(.var 1), .mov (.c (.sl [] .nil)), .none⟩])
 (.seq (.seq (.ops [⟨.tmp, .mov (.v 0), .none⟩,
   ⟨(.var 2), .bin .eql .sl (.t 0) (.c (.sl [] .nil)), .none⟩])
 (.cond (.v 2)
  (.seq (.ops [⟨(.var 1), .mov (.c (.sl [] .nil)), .none⟩])
  .ret)
  .skip))
 (.seq (.ops [⟨.tmp, .x .elit [], .none⟩,
   ⟨.tmp, .mov (.v 0), .none⟩,
   ⟨.tmp, .x (.afresh 74 64 64 true) [(.t 0), (.t 1)], .none⟩,
   ⟨(.var 1), .mov (.t 2), .none⟩])
 .ret))),
 [1]⟩
def c55 : AFunc := ⟨[0, 1, 4],
 (.seq (.ops [⟨(.var 2), .mov (.c (.bool false)), .none⟩])
 (.seq (.ops [⟨.tmp, .mov (.v 1), .none⟩,
   ⟨.tmp, .bin .geq .arith (.t 0) (.c (.int .i64 0)), .none⟩,
   ⟨.tmp, .mov (.t 1), .none⟩,
   ⟨.tmp, .mov (.v 1), (some ((.t 2), true))⟩,
   ⟨.tmp, .mov (.v 0), (some ((.t 2), true))⟩,
   ⟨.tmp, .nilc (.t 4), (some ((.t 2), true))⟩,
   ⟨.tmp, .faddr 0 (.t 5), (some ((.t 2), true))⟩,
   ⟨.tmp, .load 1 false (.t 6), (some ((.t 2), true))⟩,
   ⟨.tmp, .len (.t 7), (some ((.t 2), true))⟩,
   ⟨.tmp, .bin .lss .arith (.t 3) (.t 8), (some ((.t 2), true))⟩,
   ⟨.tmp, .pick (.t 2) (.t 9) (.c (.bool false)), .none⟩,
   ⟨(.var 2), .mov (.t 10), .none⟩])
 .ret)),
 [2]⟩
def c56 : AFunc := ⟨[0, 2, 7, 15],
 (.seq (.ops [⟨(.var 1), .mov (.c (.int .i64 0)), .none⟩])
 (.seq (.seq (.ops [⟨.tmp, .mov (.v 0), .none⟩,
   ⟨.tmp, .nilc (.t 0), .none⟩,
   ⟨.tmp, .faddr 2 (.t 1), .none⟩,
   ⟨.tmp, .load 1 false (.t 2), .none⟩,
   ⟨(.var 2), .bin .eql .arith (.t 3) (.c (.int .i64 0)), .none⟩])
 (.cond (.v 2)
  (.seq (.ops [⟨.tmp, .mov (.v 0), .none⟩,
    ⟨.tmp, .nilc (.t 0), .none⟩,
    ⟨.tmp, .faddr 1 (.t 1), .none⟩,
    ⟨.no, .store 1 (.t 2) (.c (.bool true)), .none⟩])
  (.seq (.ops [⟨(.var 1), .mov (.c (.int .i64 21)), .none⟩])
  .ret))
  .skip))
 (.seq (.seq (.ops [⟨.tmp, .mov (.v 0), .none⟩,
   ⟨.tmp, .nilc (.t 0), .none⟩,
   ⟨.tmp, .faddr 2 (.t 1), .none⟩,
   ⟨.tmp, .load 1 false (.t 2), .none⟩,
   ⟨(.var 3), .bin .gtr .arith (.t 3) (.c (.int .i64 0)), .none⟩])
 (.cond (.v 3)
  (.ops [⟨.tmp, .mov (.v 0), .none⟩,
    ⟨.tmp, .nilc (.t 0), .none⟩,
    ⟨.tmp, .faddr 2 (.t 1), .none⟩,
    ⟨.tmp, .load 1 false (.t 2), .none⟩,
    ⟨.tmp, .bin .sub .arith (.t 3) (.c (.int .i64 1)), .none⟩,
    ⟨.tmp, .nilc (.t 0), .none⟩,
    ⟨.tmp, .faddr 2 (.t 5), .none⟩,
    ⟨.no, .store 1 (.t 6) (.t 4), .none⟩])
  .skip))
 (.seq (.ops [⟨(.var 1), .mov (.c (.int .i64 0)), .none⟩])
 .ret)))),
 [1]⟩
def c57 : AFunc := ⟨[0, 1, 2, 6, 19],
 (.seq (.ops [⟨.tmp, .mov (.v 0), .none⟩,
   ⟨.tmp, .nilc (.t 0), .none⟩,
   ⟨.tmp, .faddr 0 (.t 1), .none⟩,
   ⟨.tmp, .load 1 false (.t 2), .none⟩,
   ⟨.tmp, .mov (.v 1), .none⟩,
   ⟨.tmp, .iaddr 4 (.t 3) (.t 4), .none⟩,
   ⟨.tmp, .load 4 true (.t 5), .none⟩,
   ⟨(.var 3), .alloc 54 4 true [(.str []), (.str []), (.bool false), (.bool false)], .none⟩,
   ⟨.no, .store 4 (.v 3) (.t 6), .none⟩])
 (.seq (.ops [⟨.tmp, .mov (.v 2), .none⟩,
   ⟨.tmp, .mnx false (.t 0) (.c (.int .i64 64)), .none⟩,
   ⟨.tmp, .mnx true (.c (.int .i64 0)) (.t 1), .none⟩,
   ⟨(.var 2), .mov (.t 2), .none⟩])
 (.seq (.seq (.ops [⟨.tmp, .faddr 3 (.v 3), .none⟩,
   ⟨.tmp, .load 1 false (.t 0), .none⟩,
   ⟨(.var 4), .un .not (.t 1), .none⟩])
 (.cond (.v 4)
  (.ops [⟨.tmp, .faddr 1 (.v 3), .none⟩,
    ⟨.tmp, .load 1 false (.t 0), .none⟩,
    ⟨.tmp, .mov (.v 2), .none⟩,
    ⟨.tmp, .sslice (.t 1) .none (some (.t 2)), .none⟩,
    ⟨.tmp, .faddr 0 (.v 3), .none⟩,
    ⟨.tmp, .load 1 false (.t 4), .none⟩,
    ⟨.tmp, .mov (.v 2), .none⟩,
    ⟨.tmp, .sslice (.t 5) (some (.t 6)) .none, .none⟩,
    ⟨.tmp, .bin .add .arith (.t 3) (.t 7), .none⟩,
    ⟨.tmp, .faddr 0 (.v 3), .none⟩,
    ⟨.no, .store 1 (.t 9) (.t 8), .none⟩])
  .skip))
 (.seq (.ops [⟨.tmp, .faddr 1 (.v 3), .none⟩,
   ⟨.no, .store 1 (.t 0) (.c (.str [])), .none⟩])
 (.seq (.ops [⟨.tmp, .faddr 2 (.v 3), .none⟩,
   ⟨.no, .store 1 (.t 0) (.c (.bool false)), .none⟩])
 (.ops [⟨.tmp, .mov (.v 0), .none⟩,
   ⟨.tmp, .nilc (.t 0), .none⟩,
   ⟨.tmp, .faddr 0 (.t 1), .none⟩,
   ⟨.tmp, .load 1 false (.t 2), .none⟩,
   ⟨.tmp, .mov (.v 1), .none⟩,
   ⟨.tmp, .load 4 true (.v 3), .none⟩,
   ⟨.tmp, .iaddr 4 (.t 3) (.t 4), .none⟩,
   ⟨.no, .store 4 (.t 6) (.t 5), .none⟩])))))),
 []⟩
set_option maxRecDepth 100000 in
theorem c3_ok : compFunc Try.prog hints 3 = some c3 := by kernel_rfl
set_option maxRecDepth 100000 in
theorem c4_ok : compFunc Try.prog hints 4 = some c4 := by kernel_rfl
set_option maxRecDepth 100000 in
theorem c5_ok : compFunc Try.prog hints 5 = some c5 := by kernel_rfl
set_option maxRecDepth 100000 in
theorem c6_ok : compFunc Try.prog hints 6 = some c6 := by kernel_rfl
set_option maxRecDepth 100000 in
theorem c7_ok : compFunc Try.prog hints 7 = some c7 := by kernel_rfl
set_option maxRecDepth 100000 in
theorem c8_ok : compFunc Try.prog hints 8 = some c8 := by kernel_rfl
set_option maxRecDepth 100000 in
theorem c9_ok : compFunc Try.prog hints 9 = some c9 := by kernel_rfl
set_option maxRecDepth 100000 in
theorem c10_ok : compFunc Try.prog hints 10 = some c10 := by kernel_rfl
set_option maxRecDepth 100000 in
theorem c11_ok : compFunc Try.prog hints 11 = some c11 := by kernel_rfl
set_option maxRecDepth 100000 in
theorem c12_ok : compFunc Try.prog hints 12 = some c12 := by kernel_rfl
set_option maxRecDepth 100000 in
theorem c13_ok : compFunc Try.prog hints 13 = some c13 := by kernel_rfl
set_option maxRecDepth 100000 in
theorem c14_ok : compFunc Try.prog hints 14 = some c14 := by kernel_rfl
set_option maxRecDepth 100000 in
theorem c15_ok : compFunc Try.prog hints 15 = some c15 := by kernel_rfl
set_option maxRecDepth 100000 in
theorem c16_ok : compFunc Try.prog hints 16 = some c16 := by kernel_rfl
set_option maxRecDepth 100000 in
theorem c17_ok : compFunc Try.prog hints 17 = some c17 := by kernel_rfl
set_option maxRecDepth 100000 in
theorem c18_ok : compFunc Try.prog hints 18 = some c18 := by kernel_rfl
set_option maxRecDepth 100000 in
theorem c19_ok : compFunc Try.prog hints 19 = some c19 := by kernel_rfl
set_option maxRecDepth 100000 in
theorem c20_ok : compFunc Try.prog hints 20 = some c20 := by kernel_rfl
set_option maxRecDepth 100000 in
theorem c21_ok : compFunc Try.prog hints 21 = some c21 := by kernel_rfl
set_option maxRecDepth 100000 in
theorem c22_ok : compFunc Try.prog hints 22 = some c22 := by kernel_rfl
set_option maxRecDepth 100000 in
theorem c23_ok : compFunc Try.prog hints 23 = some c23 := by kernel_rfl
set_option maxRecDepth 100000 in
theorem c24_ok : compFunc Try.prog hints 24 = some c24 := by kernel_rfl
set_option maxRecDepth 100000 in
theorem c25_ok : compFunc Try.prog hints 25 = some c25 := by kernel_rfl
set_option maxRecDepth 100000 in
theorem c26_ok : compFunc Try.prog hints 26 = some c26 := by kernel_rfl
set_option maxRecDepth 100000 in
theorem c27_ok : compFunc Try.prog hints 27 = some c27 := by kernel_rfl
set_option maxRecDepth 100000 in
theorem c28_ok : compFunc Try.prog hints 28 = some c28 := by kernel_rfl
set_option maxRecDepth 100000 in
theorem c29_ok : compFunc Try.prog hints 29 = some c29 := by kernel_rfl
set_option maxRecDepth 100000 in
theorem c30_ok : compFunc Try.prog hints 30 = some c30 := by kernel_rfl
set_option maxRecDepth 100000 in
theorem c31_ok : compFunc Try.prog hints 31 = some c31 := by kernel_rfl
set_option maxRecDepth 100000 in
theorem c32_ok : compFunc Try.prog hints 32 = some c32 := by kernel_rfl
set_option maxRecDepth 100000 in
theorem c33_ok : compFunc Try.prog hints 33 = some c33 := by kernel_rfl
set_option maxRecDepth 100000 in
theorem c34_ok : compFunc Try.prog hints 34 = some c34 := by kernel_rfl
set_option maxRecDepth 100000 in
theorem c35_ok : compFunc Try.prog hints 35 = some c35 := by kernel_rfl
set_option maxRecDepth 100000 in
theorem c36_ok : compFunc Try.prog hints 36 = some c36 := by kernel_rfl
set_option maxRecDepth 100000 in
theorem c37_ok : compFunc Try.prog hints 37 = some c37 := by kernel_rfl
set_option maxRecDepth 100000 in
theorem c38_ok : compFunc Try.prog hints 38 = some c38 := by kernel_rfl
set_option maxRecDepth 100000 in
theorem c39_ok : compFunc Try.prog hints 39 = some c39 := by kernel_rfl
set_option maxRecDepth 100000 in
theorem c40_ok : compFunc Try.prog hints 40 = some c40 := by kernel_rfl
set_option maxRecDepth 100000 in
theorem c41_ok : compFunc Try.prog hints 41 = some c41 := by kernel_rfl
set_option maxRecDepth 100000 in
theorem c42_ok : compFunc Try.prog hints 42 = some c42 := by kernel_rfl
set_option maxRecDepth 100000 in
theorem c43_ok : compFunc Try.prog hints 43 = some c43 := by kernel_rfl
set_option maxRecDepth 100000 in
theorem c44_ok : compFunc Try.prog hints 44 = some c44 := by kernel_rfl
set_option maxRecDepth 100000 in
theorem c45_ok : compFunc Try.prog hints 45 = some c45 := by kernel_rfl
set_option maxRecDepth 100000 in
theorem c46_ok : compFunc Try.prog hints 46 = some c46 := by kernel_rfl
set_option maxRecDepth 100000 in
theorem c47_ok : compFunc Try.prog hints 47 = some c47 := by kernel_rfl
set_option maxRecDepth 100000 in
theorem c49_ok : compFunc Try.prog hints 49 = some c49 := by kernel_rfl
set_option maxRecDepth 100000 in
theorem c50_ok : compFunc Try.prog hints 50 = some c50 := by kernel_rfl
set_option maxRecDepth 100000 in
theorem c51_ok : compFunc Try.prog hints 51 = some c51 := by kernel_rfl
set_option maxRecDepth 100000 in
theorem c52_ok : compFunc Try.prog hints 52 = some c52 := by kernel_rfl
set_option maxRecDepth 100000 in
theorem c55_ok : compFunc Try.prog hints 55 = some c55 := by kernel_rfl
set_option maxRecDepth 100000 in
theorem c56_ok : compFunc Try.prog hints 56 = some c56 := by kernel_rfl
set_option maxRecDepth 100000 in
theorem c57_ok : compFunc Try.prog hints 57 = some c57 := by kernel_rfl
end Go.Proofs.Ytjofjgflcogklaa
