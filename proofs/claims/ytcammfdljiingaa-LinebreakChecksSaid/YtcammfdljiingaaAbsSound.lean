/-
  The abstract machine is sound: what it computes, the model's run gives, in every world and on every tape.
-/
import Derived.Test.YtcammfdljiingaaAbsPerm
import Derived.Scope
namespace Go.Abs
set_option linter.unusedSimpArgs false
set_option linter.unusedVariables false

theorem look_go : ∀ {l : List Nat} {t i k : Nat}, look.go l t k = some i → k ≤ i ∧ l[i - k]? = some t
  | [], t, i, k, h => by simp [look.go] at h
  | x :: l, t, i, k, h => by
    simp only [look.go] at h
    split at h
    · rename_i e; obtain rfl := Option.some.inj h; subst e; simp
    · obtain ⟨h1, h2⟩ := look_go h
      refine ⟨by omega, ?_⟩
      rw [show i - k = (i - (k + 1)) + 1 by omega, List.getElem?_cons_succ]; exact h2

theorem look_some {l : List Nat} {t i : Nat} (h : look l t = some i) : l[i]? = some t := by
  have := look_go h; simpa using this.2

theorem look_go_none : ∀ {l : List Nat} {t k : Nat}, look.go l t k = none → t ∉ l
  | [], t, k, _ => by simp
  | x :: l, t, k, h => by
    simp only [look.go] at h
    split at h
    · simp at h
    · rename_i e
      have := look_go_none h
      simp only [List.mem_cons, not_or]; exact ⟨fun q => e q.symm, this⟩

theorem lookT_go : ∀ {l : List Oper} {k t j i : Nat} {r : Option Nat}, lookT.go k t l i r = some j → (r = some j) ∨ (i ≤ j ∧ j < k ∧ ∃ o, l[j - i]? = some o ∧ o.dst = some t)
  | [], k, t, j, i, r, h => by simp [lookT.go] at h; exact .inl h
  | o :: l, k, t, j, i, r, h => by
    simp only [lookT.go] at h
    split at h
    · rename_i hik
      rcases lookT_go h with h' | ⟨h1, h2, o', h3, h4⟩
      · split at h'
        · rename_i hd
          obtain rfl := Option.some.inj h'
          exact .inr ⟨Nat.le_refl _, hik, o, by simp, hd⟩
        · exact .inl h'
      · refine .inr ⟨by omega, h2, o', ?_, h4⟩
        rw [show j - i = (j - (i + 1)) + 1 by omega, List.getElem?_cons_succ]; exact h3
    · exact .inl h

theorem lookT_some {ops : List Oper} {k t j : Nat} (h : lookT ops k t = some j) : j < k ∧ ∃ o, ops[j]? = some o ∧ o.dst = some t := by
  rcases lookT_go h with h' | ⟨_, h2, o, h3, h4⟩
  · simp at h'
  · exact ⟨h2, o, by simpa using h3, h4⟩

/-! ### frames -/

structure FRel (w : World) (G : Ghost) (tmps : Array Value) (slots : List Nat) (vs : List AVal) : Prop where
  len : vs.length = slots.length
  rel : ∀ (i s : Nat) (x : AVal), slots[i]? = some s → vs[i]? = some x → VRel w G (tmps.getD s undef) x

structure TRel (w : World) (G : Ghost) (tmps : Array Value) (slots : List Nat) (ops : List Oper) (ts : List AVal) : Prop where
  len : ts.length = ops.length
  rel : ∀ (k t : Nat) (o : Oper) (x : AVal), ops[k]? = some o → o.dst = some t → look slots t = none → ts[k]? = some x → VRel w G (tmps.getD t undef) x

theorem FRel.mono {w G h w' G' h'} (x : Ext w G h w' G' h') {tmps : Array Value} {slots : List Nat} {vs : List AVal} (r : FRel w G tmps slots vs) : FRel w' G' tmps slots vs := ⟨r.len, fun i s y h1 h2 => (r.rel i s y h1 h2).mono x⟩
theorem TRel.mono {w G h w' G' h'} (x : Ext w G h w' G' h') {tmps : Array Value} {slots : List Nat} {ops : List Oper} {ts : List AVal} (r : TRel w G tmps slots ops ts) : TRel w' G' tmps slots ops ts := ⟨r.len, fun i s o y h1 h2 h3 h4 => (r.rel i s o y h1 h2 h3 h4).mono x⟩

theorem operand_ok {w : World} {G : Ghost} {a : Act} {slots : List Nat} {ops : List Oper} {k : Nat} {vs ts : List AVal} (F : FRel w G a.tmps slots vs) (T : TRel w G a.tmps slots ops ts) : Ops a w G (compOpd slots ops k) (evOpd vs ts) := by
  intro x y e
  cases x with
  | tmp t =>
    simp only [compOpd] at e
    split at e
    · rename_i i hi
      obtain rfl := Option.some.inj e
      have hs := look_some hi
      obtain ⟨v, hv⟩ : ∃ v, vs[i]? = some v := ⟨_, List.getElem?_eq_getElem (by rw [F.len]; exact (List.getElem?_eq_some_iff.1 hs).1)⟩
      simp only [evOpd, hv, Option.getD_some]
      exact F.rel i t v hs hv
    · rename_i hn
      simp only [Option.map_eq_some_iff] at e
      obtain ⟨j, hj, rfl⟩ := e
      obtain ⟨_, o, ho, hd⟩ := lookT_some hj
      obtain ⟨v, hv⟩ : ∃ v, ts[j]? = some v := ⟨_, List.getElem?_eq_getElem (by rw [T.len]; exact (List.getElem?_eq_some_iff.1 ho).1)⟩
      simp only [evOpd, hv, Option.getD_some]
      exact T.rel j t o v ho hd hn hv
  | const v =>
    simp only [compOpd, Option.map_eq_some_iff] at e
    obtain ⟨z, hz, rfl⟩ := e
    exact constA_ok hz
  | func f =>
    simp only [compOpd, Option.some.injEq] at e
    subst e
    exact .fn f #[] [] rfl (by simp)
  | global g => simp [compOpd] at e

theorem fm_inj {α β : Type} {f : α → Option β} : ∀ {l : List α}, (l.filterMap f).Nodup → ∀ (i j : Nat) (x y : α) (b : β), l[i]? = some x → l[j]? = some y → f x = some b → f y = some b → i = j
  | [], _, i, j, x, y, b, hi, _, _, _ => by simp at hi
  | z :: l, hn, i, j, x, y, b, hi, hj, hx, hy => by
    cases i with
    | zero =>
      cases j with
      | zero => rfl
      | succ j =>
        simp at hi; subst hi
        simp only [List.filterMap_cons, hx, List.nodup_cons] at hn
        exact absurd (List.mem_filterMap.2 ⟨y, List.mem_of_getElem? (by simpa using hj), hy⟩) hn.1
    | succ i =>
      have hn' : (l.filterMap f).Nodup := by
        simp only [List.filterMap_cons] at hn
        split at hn
        · exact hn
        · exact (List.nodup_cons.1 hn).2
      cases j with
      | zero =>
        simp at hj; subst hj
        simp only [List.filterMap_cons, hy, List.nodup_cons] at hn
        exact absurd (List.mem_filterMap.2 ⟨x, List.mem_of_getElem? (by simpa using hi), hx⟩) hn.1
      | succ j => rw [fm_inj hn' i j x y b (by simpa using hi) (by simpa using hj) hx hy]

/-- The state of a region. -/
structure SRel (w : World) (G : Ghost) (a : Act) (nt : Nat) (slots : List Nat) (ops : List Oper) (s : St) : Prop where
  H : HRel w G s.h
  F : FRel w G a.tmps slots s.vs
  T : TRel w G a.tmps slots ops s.ts
  size : nt ≤ a.tmps.size

theorem getD_set {tmps : Array Value} {d t : Nat} {v : Value} (h : d < tmps.size) : (tmps.setIfInBounds d v).getD t undef = if d = t then v else tmps.getD t undef := by
  rw [Array.getD_eq_getD_getElem?, Array.getElem?_setIfInBounds, Array.getD_eq_getD_getElem?]
  split
  · rename_i e; subst e; simp [h]
  · rfl

theorem put_rel {w w' : World} {G G' : Ghost} {a : Act} {nt : Nat} {slots : List Nat} {ops : List Oper} {s : St} {h' : Heap} {k : Nat} {o : Oper} {v : Value} {r : AVal} (hnd : slots.Nodup) (hd : dstsOk nt slots ops = true) (ho : ops[k]? = some o)
    (S : SRel w G a nt slots ops s) (x : Ext w G s.h w' G' h') (H' : HRel w' G' h') (hv : VRel w' G' v r) : SRel w' G' (a.put o.dst v) nt slots ops (s.put k (compDst slots o.dst) r h') := by
  simp only [dstsOk, Bool.and_eq_true, List.all_eq_true, decide_eq_true_eq] at hd
  obtain ⟨hd1, hd2⟩ := hd
  have F' := S.F.mono x
  have T' := S.T.mono x
  cases hdst : o.dst with
  | none =>
    simp only [Act.put, compDst, St.put]
    exact ⟨H', F', T', S.size⟩
  | some t =>
    have hlt : t < nt := by have := hd1 o (List.mem_of_getElem? ho); rw [hdst] at this; simpa using this
    have hltS : t < a.tmps.size := Nat.lt_of_lt_of_le hlt S.size
    simp only [Act.put, compDst]
    cases hlk : look slots t with
    | some i =>
      have hs := look_some hlk
      simp only [St.put]
      refine ⟨H', ⟨by simp [F'.len], fun j s' y h1 h2 => ?_⟩, ⟨T'.len, fun j t' o' y h1 h2 h3 h4 => ?_⟩, by simp [S.size]⟩
      · rw [getD_set hltS]
        rw [List.getElem?_set] at h2
        by_cases hji : i = j
        · subst hji
          rw [hs] at h1; obtain rfl := Option.some.inj h1
          split at h2
          · split at h2
            · obtain rfl := Option.some.inj h2
              simpa using hv
            · simp at h2
          · rename_i hc; exact absurd rfl hc
        · rw [if_neg hji] at h2
          have hne : t ≠ s' := fun e => by
            subst e
            have h1' := (List.getElem?_eq_some_iff.1 hs)
            have h2' := (List.getElem?_eq_some_iff.1 h1)
            exact hji ((List.getElem_inj hnd).1 (h1'.2.trans h2'.2.symm))
          rw [if_neg hne]
          exact F'.rel j s' y h1 h2
      · rw [getD_set hltS]
        have hne : t ≠ t' := fun e => by subst e; rw [hlk] at h3; simp at h3
        rw [if_neg hne]
        exact T'.rel j t' o' y h1 h2 h3 h4
    | none =>
      simp only [St.put]
      refine ⟨H', ⟨F'.len, fun j s' y h1 h2 => ?_⟩, ⟨by simp [T'.len], fun j t' o' y h1 h2 h3 h4 => ?_⟩, by simp [S.size]⟩
      · rw [getD_set hltS]
        have hne : t ≠ s' := fun e => by
          subst e
          exact look_go_none hlk (List.mem_of_getElem? h1)
        rw [if_neg hne]
        exact F'.rel j s' y h1 h2
      · rw [getD_set hltS]
        rw [List.getElem?_set] at h4
        by_cases hjk : k = j
        · subst hjk
          rw [ho] at h1; obtain rfl := Option.some.inj h1
          rw [hdst] at h2; obtain rfl := Option.some.inj h2
          split at h4
          · split at h4
            · obtain rfl := Option.some.inj h4
              simpa using hv
            · simp at h4
          · rename_i hc; exact absurd rfl hc
        · rw [if_neg hjk] at h4
          have hne : t ≠ t' := fun e => by
            subst e
            exact hjk (fm_inj hd2 k j o o' t ho h1 (by simp [hdst, hlk]) (by simp [h2, hlk]))
          rw [if_neg hne]
          exact T'.rel j t' o' y h1 h2 h3 h4

/-! ### calls -/

/-- What a call of the model does, told by the abstract machine. -/
def CallRel (P : Program) (f : Nat) (args : List AVal) (h : Heap) (r : AVal) (h' : Heap) : Prop :=
  ∀ (w : World) (G : Ghost) (cargs : Array Value), HRel w G h → Pts w G cargs args → Calls P f cargs w (fun e w' => ∃ v G', e = .returned v ∧ Ext w G h w' G' h' ∧ HRel w' G' h' ∧ VRel w' G' v r)

variable {P : Program} {Hh : Hints} {F : Nat → Option AEnt}

/-- What is given by hand tells of the model's function. -/
def HandOk (P : Program) (g : Nat) (s : List AVal → Heap → Option (AVal × Heap)) : Prop :=
  (∀ args h r h', s args h = some (r, h') → CallRel P g args h r h') ∧ ∀ (args : Array Value) (w : World), (callFunc g args).run P w = .ok (.enter g args) w

/-- The table of functions is what the translation gives, or what is proved. -/
def EntOk (P : Program) (Hh : Hints) (g : Nat) : Option AEnt → Prop
  | none => True
  | some (.comp af) => compFunc P Hh g = some af
  | some (.hand s) => HandOk P g s

def Table (P : Program) (Hh : Hints) (F : Nat → Option AEnt) : Prop := ∀ g, EntOk P Hh g (F g)

theorem Table.comp (hT : Table P Hh F) {g : Nat} {af : AFunc} (h : F g = some (.comp af)) : compFunc P Hh g = some af := by have := hT g; rw [h] at this; exact this
theorem Table.hand (hT : Table P Hh F) {g : Nat} {s} (h : F g = some (.hand s)) : HandOk P g s := by have := hT g; rw [h] at this; exact this

theorem compFunc_some {g : Nat} {af : AFunc} (h : compFunc P Hh g = some af) : ∃ fn c rs, P.funcs[g]? = some fn ∧ fn.body = some c ∧ (fn.name == "runtime.NumGoroutine") = false ∧ resTmps fn.results.toList = some rs ∧ optL (look af.slots) rs = some af.results ∧
    af.slots.Nodup ∧ (∀ s ∈ af.slots, s < fn.ntmps) ∧ af.body = compCode P Hh g fn.ntmps af.slots c := by
  unfold compFunc at h
  split at h
  · simp at h
  · rename_i fn hf
    split at h
    · rename_i c rs hb hr
      simp only at h
      split at h
      · rename_i ris hi
        split at h
        · rename_i hcond
          simp only [Bool.and_eq_true, Bool.not_eq_true', decide_eq_true_eq, List.all_eq_true] at hcond
          obtain rfl := Option.some.inj h
          exact ⟨fn, c, rs, hf, hb, hcond.1.1, hr, hi, hcond.1.2, hcond.2, rfl⟩
        · simp at h
      · simp at h
    · simp at h

theorem callFunc_enter {g : Nat} {af : AFunc} (h : compFunc P Hh g = some af) (args : Array Value) (w : World) : (callFunc g args).run P w = .ok (.enter g args) w := by
  obtain ⟨fn, c, rs, hf, hb, hn, _⟩ := compFunc_some h
  have hn' : fn.name ≠ "runtime.NumGoroutine" := by simpa using hn
  simp [callFunc, hf, hb, hn']

theorem scal_to {w : World} {G G2 : Ghost} {v : Value} {x : AVal} (r : VRel w G v x) : scal x = true → VRel w G2 v x := by
  have key : ∀ {as : List AVal}, scalL as = true → ∀ (k : Nat) (a : AVal), as[k]? = some a → scal a = true := by
    intro as
    induction as with
    | nil => intro _ k a h; simp at h
    | cons x xs ih =>
      intro h k a hk
      simp only [scalL, Bool.and_eq_true] at h
      cases k with
      | zero => simp at hk; subst hk; exact h.1
      | succ k => exact ih h.2 k a (by simpa using hk)
  induction r with
  | bool b => intro _; exact .bool b
  | int k n => intro _; exact .int k n
  | str s => intro _; exact .str s
  | nilptr => intro _; exact .nilptr
  | ptr => intro h; simp [scal] at h
  | rp => intro h; simp [scal] at h
  | nilsl t ht => intro _; exact .nilsl t ht
  | sl b off cap sz xs t u h0 h1 h2 h3 h4 h5 hc hn ho ih => intro h; simp [scal] at h; exact absurd h.2 hn
  | ref => intro h; simp [scal] at h
  | ref0 => intro h; simp [scal] at h
  | fn => intro h; simp [scal] at h
  | nilfn => intro _; exact .nilfn
  | nilif => intro _; exact .nilif
  | agg cs as hl _ h4 ih => intro h; simp only [scal] at h; exact .agg cs as hl (fun k c a hc ha => ih k c a hc ha (key h k a ha)) h4
  | tup cs as hl _ ih => intro h; simp only [scal] at h; exact .tup cs as hl (fun k c a hc ha => ih k c a hc ha (key h k a ha))
  | bad v => intro h; simp [scal] at h

mutual
theorem refs_live (h : Heap) : ∀ (x : AVal) {y : AVal}, purify h x = some y → ∀ id ∈ refIds x, ∃ o, h.get id = some o
  | .bool _, _, _, id, hid => by simp [refIds] at hid
  | .int _ _, _, _, id, hid => by simp [refIds] at hid
  | .str _, _, _, id, hid => by simp [refIds] at hid
  | .sl _ _, _, _, id, hid => by simp [refIds] at hid
  | .nilptr, _, _, id, hid => by simp [refIds] at hid
  | .ptr _ _, _, _, id, hid => by simp [refIds] at hid
  | .rp _, _, _, id, hid => by simp [refIds] at hid
  | .ref j off len sz, y, e, id, hid => by
    simp only [refIds, List.mem_singleton] at hid
    subst hid
    simp only [purify, Option.map_eq_some_iff] at e
    obtain ⟨xs, hx, _⟩ := e
    unfold readRef at hx
    split at hx
    · rename_i hg; exact ⟨_, hg⟩
    · simp at hx
  | .fn f cap, y, e, id, hid => by
    simp only [purify, Option.map_eq_some_iff] at e
    obtain ⟨c, hc, _⟩ := e
    exact refsL_live h cap hc id (by simpa [refIds] using hid)
  | .nilfn, _, _, id, hid => by simp [refIds] at hid
  | .nilif, _, _, id, hid => by simp [refIds] at hid
  | .agg cs, y, e, id, hid => by
    simp only [purify, Option.map_eq_some_iff] at e
    obtain ⟨c, hc, _⟩ := e
    exact refsL_live h cs hc id (by simpa [refIds] using hid)
  | .tup cs, y, e, id, hid => by
    simp only [purify, Option.map_eq_some_iff] at e
    obtain ⟨c, hc, _⟩ := e
    exact refsL_live h cs hc id (by simpa [refIds] using hid)
  | .bad, _, _, id, hid => by simp [refIds] at hid
theorem refsL_live (h : Heap) : ∀ (xs : List AVal) {ys : List AVal}, purifyL h xs = some ys → ∀ id ∈ refIdsL xs, ∃ o, h.get id = some o
  | [], _, _, id, hid => by simp [refIdsL] at hid
  | x :: xs, ys, e, id, hid => by
    simp only [purifyL] at e
    split at e
    · rename_i y ys' h1 h2
      simp only [refIdsL, List.mem_append] at hid
      exact hid.elim (refs_live h x h1 id) (refsL_live h xs h2 id)
    · simp at e
end

/-- A call on a heap of its own, seen from the caller. -/
theorem iso_call {g : Nat} {as as0 : List AVal} {r r' : AVal} {h0 h : Heap} {w : World} {G : Ghost} {cargs : Array Value} (C : CallRel P g as Heap.empty r h0) (H : HRel w G h) (hp : Pts w G cargs as0)
    (hcase : (stripL as0 = some as ∧ purify h0 r = some r') ∨ (purifyL h as0 = some as ∧ scal r = true ∧ r' = r)) :
    Calls P g cargs w (fun e w' => ∃ v G', e = .returned v ∧ Ext w G h w' G' h ∧ HRel w' G' h ∧ VRel w' G' v r') := by
  have hempty : ∀ id o, Heap.empty.get id = some o → False := fun id o e => by rw [Heap.get_empty] at e; simp at e
  have hno : ∀ (G0 : Ghost) b, ¬ owned G0 Heap.empty b := fun G0 b ⟨id, o, e, _⟩ => hempty id o e
  have hH0 : ∀ G0 : Ghost, G0.n = 0 → HRel w G0 Heap.empty := fun G0 hn => ⟨hn, fun id o e => (hempty id o e).elim, fun id o e => (hempty id o e).elim, fun i j oi oj e => (hempty i oi e).elim⟩
  have out : ∀ {w' : World} {G0 G1 : Ghost}, Ext w G0 Heap.empty w' G1 h0 → ∃ G' : Ghost, G' = { G with lim := fun b => if b < w.heap.size then G.lim b else none } ∧ Ext w G h w' G' h ∧ HRel w' G' h := by
    intro w' G0 G1 hX
    have hkeep : ∀ b, b < w.heap.size → w'.heap[b]? = w.heap[b]? := fun b hb => (hX.keep b hb (hno G0 b)).1
    have hE : Ext w G h w' { G with lim := fun b => if b < w.heap.size then G.lim b else none } h := ⟨hX.os, hX.tape, hX.out, hX.size, fun b hb _ => ⟨hkeep b hb, by simp [hb]⟩, fun b k hb hst => ⟨by simp [World.cell?, hkeep b hb], fun m hm => by simp [hb] at hm; exact hst m hm⟩, fun b hb => by simp [World.shape?, hkeep b hb], Nat.le_refl _, fun _ _ => ⟨rfl, rfl⟩, fun b hb ho => ho⟩
    exact ⟨_, rfl, hE, ⟨H.n_eq, fun id o e => Nat.lt_of_lt_of_le (H.lt id o e) hX.size, fun id o e => OkObj.mono hE (by rw [H.n_eq]; exact Heap.get_lt e) (H.lt id o e) (hkeep _ (H.lt id o e)) (by simp [H.lt id o e]) (H.obj id o e), H.inj⟩⟩
  rcases hcase with ⟨hs, hpur⟩ | ⟨hs, hsc, rfl⟩
  · have hk := stripL_ok hs
    have hp0 : Pts w { G with n := 0 } cargs as := ⟨by rw [hp.len, hk.1], fun k c a hc ha => by
      obtain ⟨x, hx, hx'⟩ := back_get hk ha
      exact VRel.strip_to (G := G) (G2 := { G with n := 0 }) (fun _ _ h => h) (hp.rel k c x hc hx) hx'⟩
    refine (C w { G with n := 0 } cargs (hH0 _ rfl) hp0).mono fun e w' ⟨v, G1, he, hX, H1, hv⟩ => ?_
    obtain ⟨G', hG', hE, hH⟩ := out hX
    refine ⟨v, G', he, hE, hH, hv.purify_to H1 (fun b k hst => ?_) (fun id hid k => ?_) hpur⟩
    · subst hG'
      by_cases hb : b < w.heap.size
      · have hl := (hX.keep b hb (hno _ b)).2
        intro m hm
        simp [hb] at hm
        exact hst m (by rw [hl]; exact hm)
      · intro m hm; simp [hb] at hm
    · subst hG'
      by_cases hb : G1.loc id < w.heap.size
      · obtain ⟨o, ho⟩ := refs_live h0 r hpur id hid
        exact absurd (hX.fresh _ hb ⟨id, o, ho, rfl⟩) (hno _ _)
      · intro m hm; simp [hb] at hm
  · have hk := purifyL_ok hs
    have hp0 : Pts w { G with n := 0, lim := fun _ => none } cargs as := ⟨by rw [hp.len, hk.1], fun k c a hc ha => by
      obtain ⟨x, hx, hx'⟩ := back_get hk ha
      exact VRel.purify_to (G := G) (G2 := { G with n := 0, lim := fun _ => none }) H (fun _ _ _ m hm => by simp at hm) (hp.rel k c x hc hx) (fun _ _ _ m hm => by simp at hm) hx'⟩
    refine (C w _ cargs (hH0 _ rfl) hp0).mono fun e w' ⟨v, G1, he, hX, H1, hv⟩ => ?_
    obtain ⟨G', hG', hE, hH⟩ := out hX
    exact ⟨v, G', he, hE, hH, scal_to hv hsc⟩

/-- The translation's operations, place by place. -/
theorem compOpers_get {slots : List Nat} {ops : List Oper} {fid : Nat} : ∀ {l : List Oper} {k : Nat} {as : List AOper}, compOpers P Hh fid slots ops l k = some as → as.length = l.length ∧ ∀ j o, l[j]? = some o → ∃ a, as[j]? = some a ∧ compOper P Hh fid slots ops (k + j) o = some a
  | [], k, as, h => by simp [compOpers] at h; subst h; simp
  | o :: l, k, as, h => by
    simp only [compOpers] at h
    split at h
    · rename_i a as' h1 h2
      obtain rfl := Option.some.inj h
      obtain ⟨e1, e2⟩ := compOpers_get h2
      refine ⟨by simp [e1], fun j o' hj => ?_⟩
      cases j with
      | zero => simp at hj; subst hj; exact ⟨a, by simp, by simpa using h1⟩
      | succ j =>
        obtain ⟨a', q1, q2⟩ := e2 j o' (by simpa using hj)
        exact ⟨a', by simpa using q1, by rw [show k + (j + 1) = k + 1 + j by omega]; exact q2⟩
    · simp at h

/-- The function that runs the calls of a region is sound. -/
def CfOk (P : Program) (Hh : Hints) (cf : CallF) : Prop := ∀ g args h r h', cf g args h = some (r, h') → CallRel P g args h r h' ∧ ∀ (cargs : Array Value) (w : World), (callFunc g cargs).run P w = .ok (.enter g cargs) w

theorem pts_append {w : World} {G : Ghost} {a b : Array Value} {x y : List AVal} (h1 : Pts w G a x) (h2 : Pts w G b y) : Pts w G (a ++ b) (x ++ y) := by
  refine ⟨by simp [h1.len, h2.len], fun k c z hc hz => ?_⟩
  by_cases hk : k < a.size
  · rw [Array.getElem?_append_left hk] at hc
    rw [List.getElem?_append_left (by rw [← h1.len]; exact hk)] at hz
    exact h1.rel k c z hc hz
  · rw [Array.getElem?_append_right (by omega)] at hc
    rw [List.getElem?_append_right (by rw [← h1.len]; omega), ← h1.len] at hz
    exact h2.rel _ c z hc hz

/-- One step of a region. -/
theorem step_ok {cf : CallF} (hcf : CfOk P Hh cf) {fid nt : Nat} {slots : List Nat} {ops : Array Oper} {k : Nat} {o : Oper} {ao : AOper} (hnd : slots.Nodup) (hd : dstsOk nt slots ops.toList = true) (ho : ops[k]? = some o) (hcomp : compOper P Hh fid slots ops.toList k o = some ao)
    {a : Act} {w : World} {G : Ghost} {s s' : St} (S : SRel w G a nt slots ops.toList s) (e : stepA cf ao k s = some s') {next : Act → World → Prop} {Q : Exit → Act → World → Prop}
    (hK : ∀ a' w' G', Ext w G s.h w' G' s'.h → SRel w' G' a' nt slots ops.toList s' → a'.defers = a.defers → next a' w') :
    if Region.wanted o (yielded ops a.tmps) then o.wp P a w next Q ∨ (o.asks P a w ∧ LetsOut Q) else next (a.put o.dst undef) w := by
  have hops : Ops a w G (compOpd slots ops.toList k) (evOpd s.vs s.ts) := operand_ok S.F S.T
  have hol : ops.toList[k]? = some o := by simpa using ho
  unfold compOper at hcomp
  split at hcomp
  · rename_i aop g hop hg
    obtain rfl := Option.some.inj hcomp
    -- the guard
    have hwant : ∀ b, wantA (evOpd s.vs s.ts) g = some b → Region.wanted o (yielded ops a.tmps) = b := by
      intro b hb
      cases hgd : o.guard with
      | none =>
        rw [hgd] at hg
        simp [compGuard] at hg; subst hg
        simp [wantA] at hb; subst hb
        simp [Region.wanted, hgd]
      | some p =>
        obtain ⟨j, want⟩ := p
        rw [hgd] at hg
        simp only [compGuard] at hg
        split at hg
        · rename_i oj hoj
          split at hg
          · rename_i t ht
            split at hg
            · rename_i hjk
              have hoj' : ops[j]? = some oj := by simpa using hoj
              have hlt : t < a.tmps.size := by
                simp only [dstsOk, Bool.and_eq_true, List.all_eq_true] at hd
                have := hd.1 oj (List.mem_of_getElem? hoj)
                rw [ht] at this; exact Nat.lt_of_lt_of_le (by simpa using this) S.size
              have hy : yielded ops a.tmps j = match (a.tmps.getD t undef) with | .bool b => some b | _ => none := by
                simp only [yielded, hoj', Option.bind_some, ht]
                rw [Array.getD_eq_getD_getElem?, Array.getElem?_eq_getElem hlt]
                simp only [Option.getD_some]
                cases a.tmps[t] <;> rfl
              have hval : ∃ x, g = some (x, want) ∧ VRel w G (a.tmps.getD t undef) (evOpd s.vs s.ts x) := by
                split at hg
                · rename_i i hi
                  simp at hg; subst hg
                  refine ⟨.v i, rfl, ?_⟩
                  have hs := look_some hi
                  obtain ⟨v, hv⟩ : ∃ v, s.vs[i]? = some v := ⟨_, List.getElem?_eq_getElem (by rw [S.F.len]; exact (List.getElem?_eq_some_iff.1 hs).1)⟩
                  simp only [evOpd, hv, Option.getD_some]
                  exact S.F.rel i t v hs hv
                · rename_i hn
                  simp at hg; subst hg
                  refine ⟨.t j, rfl, ?_⟩
                  obtain ⟨v, hv⟩ : ∃ v, s.ts[j]? = some v := ⟨_, List.getElem?_eq_getElem (by rw [S.T.len]; exact (List.getElem?_eq_some_iff.1 hoj).1)⟩
                  simp only [evOpd, hv, Option.getD_some]
                  exact S.T.rel j t oj v hoj ht hn hv
              obtain ⟨x, rfl, hx⟩ := hval
              simp only [wantA] at hb
              simp only [Region.wanted, hgd, hy]
              split at hb
              · rename_i c hc
                rw [hc] at hx
                obtain rfl := Option.some.inj hb
                generalize a.tmps.getD t undef = vv at hx
                cases hx
                simp
              · rename_i hc
                rw [hc] at hx
                obtain rfl := Option.some.inj hb
                generalize a.tmps.getD t undef = vv at hx
                cases hx
                simp
              · simp at hb
            · simp at hg
          · simp at hg
        · simp at hg
    unfold stepA at e
    simp only at e
    split at e
    · simp at e
    · rename_i hw
      rw [hwant _ hw]
      obtain rfl := Option.some.inj e
      simp only [Bool.false_eq_true, if_false]
      exact hK _ w G (by cases compDst slots o.dst <;> exact Ext.refl _ _ _) (put_rel hnd hd hol S (Ext.refl _ _ _) S.H (.tup #[] [] rfl (by simp))) (by cases o.dst <;> rfl)
    · rename_i hw
      rw [hwant _ hw]
      simp only [if_true]
      left
      split at e
      · rename_i r h' hex
        obtain rfl := Option.some.inj e
        have fin : ∀ {v : Value} {w' : World} {G' : Ghost}, Ext w G s.h w' G' h' → HRel w' G' h' → VRel w' G' v r → next (a.put o.dst v) w' := fun hX hH hv =>
          hK _ _ _ (by cases compDst slots o.dst <;> exact hX) (put_rel hnd hd hol S hX hH hv) (by cases o.dst <;> rfl)
        cases hic : isCall aop with
        | false =>
          have hev : evalA aop (evOpd s.vs s.ts) s.h = some (r, h') := by
            cases aop <;> first
              | exact hex
              | (simp [isCall] at hic)
          obtain ⟨v, w', G', hr, hX, hH, hv⟩ := op_ok S.H hops hop hic hev
          unfold Oper.wp
          rcases hr with hr | ⟨hr, rfl⟩
          · rw [hr, Oper.upon_value]; exact fin hX hH hv
          · rw [hr, Oper.upon_skip]; exact fin hX hH hv
        | true =>
          obtain ⟨f, args, as, ts, hcall, has, hkind⟩ := call_of_comp hop hic
          obtain ⟨p1, p2⟩ := opds_ok hops has
          have hpts : Pts w G (args.map a.eval) (as.map (evOpd s.vs s.ts)) := ⟨by simpa using p1, fun k c x hc hx => p2 k c x (by simpa using hc) hx⟩
          have done : ∀ {g : Nat} {cargs : Array Value}, (execOp a.eval o).run P w = .ok (.enter g cargs) w → Calls P g cargs w (fun e w' => ∃ v G', e = .returned v ∧ Ext w G s.h w' G' h' ∧ HRel w' G' h' ∧ VRel w' G' v r) → o.wp P a w next Q := by
            intro g cargs hr hC
            unfold Oper.wp
            rw [hr, Oper.upon_enter]
            refine hC.mono fun e w' ⟨v, G', he, hX, hH, hv⟩ => ?_
            subst he
            exact fin hX hH hv
          rcases hkind with ⟨g, rfl, rfl⟩ | ⟨f', hf', rfl⟩
          · simp only [execA] at hex
            have hrun : ∀ {as' r0 h0}, cf g as' Heap.empty = some (r0, h0) → (execOp a.eval o).run P w = .ok (.enter g (args.map a.eval)) w := fun hc => by
              have := (hcf g _ _ _ _ hc).2 (args.map a.eval) w
              simp [execOp, hcall, resolve, Act.eval, Deferred.ofValue, invoke, this]
            split at hex
            · rename_i as' hs
              split at hex
              · rename_i r0 h0 hc
                simp only [Option.map_eq_some_iff, Prod.mk.injEq] at hex
                obtain ⟨x, hpur, rfl, rfl⟩ := hex
                exact done (hrun hc) (iso_call (hcf g _ _ _ _ hc).1 S.H hpts (.inl ⟨hs, hpur⟩))
              · simp at hex
            · split at hex
              · rename_i as' hs
                split at hex
                · rename_i r0 h0 hc
                  split at hex
                  · rename_i hsc
                    simp at hex; obtain ⟨rfl, rfl⟩ := hex
                    exact done (hrun hc) (iso_call (hcf g _ _ _ _ hc).1 S.H hpts (.inr ⟨hs, hsc, rfl⟩))
                  · simp at hex
                · simp at hex
              · simp at hex
          · simp only [execA] at hex
            split at hex
            · rename_i g cap hfn
              have hfv : VRel w G (a.eval f) (evOpd s.vs s.ts f') := by
                rcases hf' with hf' | ⟨g', rfl, rfl⟩
                · exact hops _ _ hf'
                · exact .fn g' #[] [] rfl (by simp)
              rw [hfn] at hfv
              generalize hfe : a.eval f = fv at hfv
              cases hfv with
              | fn _ cs _ hl hr =>
                have hrun := (hcf g _ _ _ _ hex).2 (args.map a.eval ++ cs) w
                refine done (g := g) (cargs := args.map a.eval ++ cs) ?_ ((hcf g _ _ _ _ hex).1 w G _ S.H (pts_append hpts ⟨hl, hr⟩))
                simp [execOp, hcall, resolve, hfe, Deferred.ofValue, invoke, hrun]
            · simp at hex
      · simp at e
  · simp at hcomp

/-- A list of steps. -/
theorem fold_ok {cf : CallF} (hcf : CfOk P Hh cf) {fid nt : Nat} {slots : List Nat} {ops : Array Oper} {as : List AOper} (hnd : slots.Nodup) (hd : dstsOk nt slots ops.toList = true) (hcomp : compOpers P Hh fid slots ops.toList ops.toList 0 = some as) {Q : Exit → Act → World → Prop} :
    ∀ (l : List Nat) {a : Act} {w : World} {G : Ghost} {s s' : St}, SRel w G a nt slots ops.toList s → foldI cf as l s = some s' →
      (∀ a' w' G', Ext w G s.h w' G' s'.h → SRel w' G' a' nt slots ops.toList s' → a'.defers = a.defers → Q .normal a' w') → wpOps P ops Q l a w
  | [], a, w, G, s, s', S, e, hQ => by
    simp only [foldI, Option.some.injEq] at e; subst e
    exact hQ a w G (Ext.refl _ _ _) S rfl
  | k :: l, a, w, G, s, s', S, e, hQ => by
    simp only [foldI] at e
    split at e
    · rename_i ao hao
      split at e
      · rename_i s1 hs1
        obtain ⟨e1, e2⟩ := compOpers_get hcomp
        obtain ⟨o, ho⟩ : ∃ o, ops.toList[k]? = some o := ⟨_, List.getElem?_eq_getElem (by rw [← e1]; exact (List.getElem?_eq_some_iff.1 hao).1)⟩
        obtain ⟨ao', h1, h2⟩ := e2 k o ho
        rw [hao] at h1; obtain rfl := Option.some.inj h1
        rw [Nat.zero_add] at h2
        have ho' : ops[k]? = some o := by simpa using ho
        simp only [wpOps, ho']
        exact step_ok hcf hnd hd ho' h2 S hs1 fun a' w' G' hX S' hdf =>
          fold_ok hcf hnd hd hcomp l S' e fun a2 w2 G2 hX2 S2 hdf2 => hQ a2 w2 G2 (hX.trans hX2) S2 (hdf2.trans hdf)
      · simp at e
    · simp at e

/-! ### code and calls -/

def exitOf : AExit → Exit
  | .normal => .normal
  | .exit id => .exit id
  | .ret => .ret

/-- The state between regions. -/
structure CRel (w : World) (G : Ghost) (a : Act) (nt : Nat) (slots : List Nat) (vs : List AVal) (h : Heap) : Prop where
  H : HRel w G h
  F : FRel w G a.tmps slots vs
  size : nt ≤ a.tmps.size

theorem compCode_region {fid nt : Nat} {slots : List Nat} {id : Nat} {ops : Array Oper} {draw : Bool} {l : List AOper} (h : compCode P Hh fid nt slots (.region id ops draw) = .ops l) :
    compOpers P Hh fid slots ops.toList ops.toList 0 = some l ∧ dstsOk nt slots ops.toList = true ∧ (draw = true → drawOk ops.toList l = true) := by
  simp only [compCode] at h
  split at h
  · rename_i l' hl
    split at h
    · rename_i hc
      simp only [ACode.ops.injEq] at h
      subst h
      simp only [Bool.and_eq_true, Bool.or_eq_true, Bool.not_eq_true'] at hc
      exact ⟨hl, hc.1, fun hd => by rcases hc.2 with h | h; · rw [hd] at h; simp at h
                                    · exact h⟩
    · simp at h
  · simp at h

theorem results_ok {w : World} {G : Ghost} {slots : List Nat} {vs : List AVal} {tmps : Array Value} (Fr : FRel w G tmps slots vs) {fn : Func} {rs ris : List Nat} (h1 : resTmps fn.results.toList = some rs) (h2 : optL (look slots) rs = some ris) :
    ∃ v, (results fn tmps).run P w = .ok v w ∧ VRel w G v (resultsA ris vs) := by
  have key : ∀ {f : ResultVar → Sem Value}, (∀ t, f (.tmp t) = pure (tmps.getD t undef)) → ∀ {l : List ResultVar} {rs ris : List Nat}, resTmps l = some rs → optL (look slots) rs = some ris → ∃ vals : List Value, (l.mapM (m := Sem) f).run P w = .ok vals w ∧ vals.length = ris.length ∧ ∀ (k : Nat) (v : Value) (i : Nat), vals[k]? = some v → ris[k]? = some i → VRel w G v ((vs[i]?).getD .bad) := by
    intro f hf l
    induction l with
    | nil => intro rs ris h1 h2; simp [resTmps] at h1; subst h1; simp [optL] at h2; subst h2; exact ⟨[], by simp, rfl, by simp⟩
    | cons x l ih =>
      intro rs ris h1 h2
      cases x with
      | cell a t => simp [resTmps] at h1
      | tmp t =>
        simp only [resTmps, Option.map_eq_some_iff] at h1
        obtain ⟨rs', h1, rfl⟩ := h1
        simp only [optL] at h2
        split at h2
        · rename_i i is hi his
          obtain rfl := Option.some.inj h2
          obtain ⟨vals, q1, q2, q3⟩ := ih h1 his
          refine ⟨tmps.getD t undef :: vals, by simp [List.mapM_cons, hf, q1], by simp [q2], fun k v j hv hj => ?_⟩
          cases k with
          | zero =>
            simp at hv hj; subst hv; subst hj
            have hs := look_some hi
            obtain ⟨x, hx⟩ : ∃ x, vs[i]? = some x := ⟨_, List.getElem?_eq_getElem (by rw [Fr.len]; exact (List.getElem?_eq_some_iff.1 hs).1)⟩
            simp only [hx, Option.getD_some]
            have := Fr.rel i t x hs hx
            rwa [Array.getD_eq_getD_getElem?] at this
          | succ k => exact q3 k v j (by simpa using hv) (by simpa using hj)
        · simp at h2
  have hres : ∃ vals : List Value, (results fn tmps).run P w = .ok (if h : vals.toArray.size = 1 then vals.toArray[0] else .tuple vals.toArray) w ∧ vals.length = ris.length ∧ ∀ (k : Nat) (v : Value) (i : Nat), vals[k]? = some v → ris[k]? = some i → VRel w G v ((vs[i]?).getD .bad) := by
    unfold results
    simp only [Sem.run_bind]
    rw [Array.mapM_eq_mapM_toList]
    obtain ⟨vals, q1, q2, q3⟩ := key (f := fun x => match x with
      | .tmp t => pure (tmps.getD t undef)
      | .cell a t => do loadVar t (← asAddr (tmps.getD a undef))) (fun t => rfl) h1 h2
    refine ⟨vals, ?_, q2, q3⟩
    simp only [Sem.run_map]
    have q1' := q1
    erw [q1']
    simp only [Result.andThen_ok, Sem.run_pure]
  obtain ⟨vals, hrun, q2, q3⟩ := hres
  refine ⟨_, hrun, ?_⟩
  cases hr : ris with
  | nil =>
    rw [hr] at q2
    have : vals = [] := List.eq_nil_of_length_eq_zero q2
    subst this
    simp [resultsA]
    exact .tup #[] [] rfl (by simp)
  | cons i is =>
    cases his : is with
    | nil =>
      rw [hr, his] at q2 q3
      obtain ⟨v, rfl⟩ : ∃ v, vals = [v] := by
        match vals, q2 with
        | [v], _ => exact ⟨v, rfl⟩
      simp only [resultsA]
      simpa using q3 0 v i rfl rfl
    | cons j js =>
      rw [hr, his] at q2 q3
      have hne : ¬ (vals.toArray.size = 1) := by simp [q2]
      rw [dif_neg hne]
      simp only [resultsA]
      refine .tup _ _ (by simp [q2]) (fun k c x hc hx => ?_)
      simp only [List.getElem?_map, Option.map_eq_some_iff] at hx
      obtain ⟨i', hi', rfl⟩ := hx
      exact q3 k c i' (by simpa using hc) hi'

def CodeOk (P : Program) (Hh : Hints) (F : Nat → Option AEnt) (n : Nat) : Prop :=
  ∀ (fid nt : Nat) (slots : List Nat) (c : Code) (vs : List AVal) (h : Heap) (e : AExit) (vs' : List AVal) (h' : Heap) (a : Act) (w : World) (G : Ghost) (Q : Exit → Act → World → Prop), slots.Nodup →
    run F n (.code (compCode P Hh fid nt slots c) vs h) = some (.code e vs' h') → CRel w G a nt slots vs h →
    (∀ a' w' G', Ext w G h w' G' h' → CRel w' G' a' nt slots vs' h' → a'.defers = a.defers → Q (exitOf e) a' w') → c.wp P Q a w

def CallOk (P : Program) (F : Nat → Option AEnt) (n : Nat) : Prop := ∀ g args h r h', run F n (.call g args h) = some (.val r h') → CallRel P g args h r h'

theorem call_step (hT : Table P Hh F) {n : Nat} (ih : CodeOk P Hh F n) : CallOk P F (n + 1) := by
  intro g args h r h' e w G cargs H hp
  simp only [run] at e
  split at e
  · simp at e
  · rename_i s hs
    simp only [Option.map_eq_some_iff, Res.val.injEq] at e
    obtain ⟨p, hp', rfl, rfl⟩ := e
    exact (hT.hand hs).1 args h p.1 p.2 hp' w G cargs H hp
  · rename_i af haf
    obtain ⟨fn, c, rs, hf, hb, hn, hres, hris, hnd, hlt, hbody⟩ := compFunc_some (hT.comp haf)
    rw [hbody] at e
    refine calls_of_wp hf hb ?_
    have hget : ∀ s, (cargs ++ Array.replicate (fn.ntmps - cargs.size) undef).getD s undef = (cargs[s]?).getD undef := by
      intro s
      rw [Array.getD_eq_getD_getElem?]
      by_cases hs : s < cargs.size
      · rw [Array.getElem?_append_left hs]
      · rw [Array.getElem?_append_right (by omega : cargs.size ≤ s), Array.getElem?_replicate, Array.getElem?_eq_none (by omega : cargs.size ≤ s)]
        split <;> rfl
    have S0 : CRel w G { tmps := cargs ++ Array.replicate (fn.ntmps - cargs.size) undef, defers := [] } fn.ntmps af.slots (af.slots.map fun s => (args[s]?).getD (.tup [])) h := by
      refine ⟨H, ⟨by simp, fun i s x h1 h2 => ?_⟩, by simp; omega⟩
      simp only [List.getElem?_map, h1, Option.map_some, Option.some.injEq] at h2
      subst h2
      rw [hget]
      by_cases hs : s < cargs.size
      · obtain ⟨x, hx⟩ : ∃ x, args[s]? = some x := ⟨_, List.getElem?_eq_getElem (by rw [← hp.len]; exact hs)⟩
        rw [hx, Array.getElem?_eq_getElem hs]
        exact hp.rel s _ x (Array.getElem?_eq_getElem hs) hx
      · rw [Array.getElem?_eq_none (by omega), List.getElem?_eq_none (by rw [← hp.len]; omega)]
        exact .tup #[] [] rfl (by simp)
    have fin : ∀ {vs : List AVal} {a' : Act} {w' : World} {G' : Ghost}, Ext w G h w' G' h' → CRel w' G' a' fn.ntmps af.slots vs h' → a'.defers = [] → r = resultsA af.results vs →
        a'.defers = [] ∧ ∃ v, (results fn a'.tmps).run P w' = .ok v w' ∧ (∃ v0 G', Ending.returned v = .returned v0 ∧ Ext w G h w' G' h' ∧ HRel w' G' h' ∧ VRel w' G' v0 r) := by
      intro vs a' w' G' hX hS hd hr
      obtain ⟨v, h1, h2⟩ := results_ok (P := P) hS.F hres hris
      exact ⟨hd, v, h1, v, G', rfl, hX, hS.H, by rw [hr]; exact h2⟩
    split at e
    · rename_i vs h1 hrun
      simp only [Option.some.injEq, Res.val.injEq] at e
      obtain ⟨rfl, rfl⟩ := e
      exact ih g fn.ntmps af.slots c _ h .normal vs h1 _ w G _ hnd hrun S0 (fun a' w' G' hX hS hd => fin hX hS hd rfl)
    · rename_i vs h1 hrun
      simp only [Option.some.injEq, Res.val.injEq] at e
      obtain ⟨rfl, rfl⟩ := e
      exact ih g fn.ntmps af.slots c _ h .ret vs h1 _ w G _ hnd hrun S0 (fun a' w' G' hX hS hd => fin hX hS hd rfl)
    · simp at e

theorem wp_loop_ind {c : Code} {Q : Exit → Act → World → Prop} {a : Act} {w : World} (J : Nat → Act → World → Prop) {m : Nat} (h0 : J m a w)
    (round : ∀ m a w, J m a w → c.wp P (Exit.then (fun a' w' => ∃ m', m' < m ∧ J m' a' w') Q) a w) : (Code.loop c).wp P Q a w := by
  intro b k cs
  have key : ∀ m a w, J m a w → ∃ e a' w', Q e a' w' ∧ Arrives P (lone (b.at a (.code c :: .inLoop c :: k)) cs w) b k cs e a' w' := by
    intro m
    induction m using Nat.strongRecOn with
    | _ m ih =>
      intro a w hJ
      obtain ⟨e, a1, w1, hq, harr⟩ := round m a w hJ b (.inLoop c :: k) cs
      cases e with
      | normal =>
        obtain ⟨m', hlt, hJ'⟩ := hq
        obtain ⟨e2, a2, w2, hq2, harr2⟩ := ih m' hlt a1 w1 hJ'
        exact ⟨e2, a2, w2, hq2, .of_steps (Steps.trans harr (.one step_inLoop)) harr2⟩
      | exit id => exact ⟨_, a1, w1, hq, .pass (x := .inLoop c) rfl (fun _ _ => .inl (by simp)) harr⟩
      | goto l => exact ⟨_, a1, w1, hq, .pass (x := .inLoop c) rfl (fun _ _ => .inl (by simp)) harr⟩
      | ret => exact ⟨_, a1, w1, hq, .pass (x := .inLoop c) rfl (fun _ _ => .inl (by simp)) harr⟩
      | panic ch => exact ⟨_, a1, w1, hq, .pass (x := .inLoop c) rfl (fun _ _ => .inl (by simp)) harr⟩
      | outgrown => exact ⟨_, a1, w1, hq, .pass (x := .inLoop c) rfl (fun _ _ => .inl (by simp)) harr⟩
  obtain ⟨e, a', w', hq, harr⟩ := key m a w h0
  exact ⟨e, a', w', hq, .of_steps (.one step_loop) harr⟩

theorem CRel.mono_refl {w : World} {G : Ghost} {a : Act} {nt : Nat} {slots : List Nat} {vs : List AVal} {h : Heap} (S : CRel w G a nt slots vs h) : CRel w.drew G a nt slots vs h :=
  ⟨HRel.of_heap (w := w) ⟨rfl, rfl, rfl, rfl⟩ S.H, S.F.mono (Ext.of_heap (w := w) (w' := w.drew) (h := h) ⟨rfl, rfl, rfl, rfl⟩), S.size⟩

theorem region_ok (hmix : P.follows .mixedOrders = true) {cf : CallF} (hcf : CfOk P Hh cf) {fid nt : Nat} {slots : List Nat} (hnd : slots.Nodup) {id : Nat} {ops : Array Oper} {draw : Bool} {l : List AOper} (hc : compCode P Hh fid nt slots (.region id ops draw) = .ops l)
    {vs : List AVal} {h : Heap} {s' : St} {a : Act} {w : World} {G : Ghost} {Q : Exit → Act → World → Prop} (S : CRel w G a nt slots vs h) (e : foldA cf l 0 ⟨vs, List.replicate l.length .bad, h⟩ = some s')
    (hQ : ∀ a' w' G', Ext w G h w' G' s'.h → CRel w' G' a' nt slots s'.vs s'.h → a'.defers = a.defers → Q .normal a' w') : (Code.region id ops draw).wp P Q a w := by
  obtain ⟨c1, c2, c3⟩ := compCode_region hc
  have hl : l.length = ops.size := by have := (compOpers_get c1).1; simpa using this
  rw [foldA_eq cf l l 0 _ (fun j => by simp)] at e
  have mkS : ∀ {w0 : World}, CRel w0 G a nt slots vs h → SRel w0 G a nt slots ops.toList ⟨vs, List.replicate l.length .bad, h⟩ := fun S => ⟨S.H, S.F, ⟨by simp [hl], fun k t o x h1 h2 h3 h4 => by
    simp only [List.getElem?_replicate] at h4
    split at h4
    · simp at h4; subst h4; exact .bad _
    · simp at h4⟩, S.size⟩
  cases draw with
  | false =>
    refine wp_region ?_
    rw [List.range_eq_range']
    rw [hl] at e
    exact fold_ok hcf hnd c2 c1 _ (mkS S) (by rw [hl]; exact e) fun a' w' G' hX S' hd => hQ a' w' G' hX ⟨S'.H, S'.F, S'.size⟩ hd
  | true =>
    refine wp_region_draw fun t => ?_
    rw [hmix]
    exact fold_ok hcf hnd c2 c1 _ (mkS S.mono_refl) (draw_ok hl (c3 rfl) e t) fun a' w' G' hX S' hd => hQ a' w' G' hX.drew ⟨S'.H, S'.F, S'.size⟩ hd

theorem code_step (hmix : P.follows .mixedOrders = true) (hT : Table P Hh F) {n : Nat} (ih : ∀ m, m ≤ n → CodeOk P Hh F m) (ihc : CallOk P F n) : CodeOk P Hh F (n + 1) := by
  intro fid nt slots c vs h e vs' h' a w G Q hnd hr S hQ
  have ihn := ih n (Nat.le_refl _)
  cases c with
  | skip =>
    simp only [compCode, run, Option.some.injEq, Res.code.injEq] at hr
    obtain ⟨rfl, rfl, rfl⟩ := hr
    exact wp_skip (hQ a w G (Ext.refl _ _ _) S rfl)
  | label l =>
    simp only [compCode, run, Option.some.injEq, Res.code.injEq] at hr
    obtain ⟨rfl, rfl, rfl⟩ := hr
    exact wp_label (hQ a w G (Ext.refl _ _ _) S rfl)
  | exit id =>
    simp only [compCode, run, Option.some.injEq, Res.code.injEq] at hr
    obtain ⟨rfl, rfl, rfl⟩ := hr
    exact wp_exit (hQ a w G (Ext.refl _ _ _) S rfl)
  | ret =>
    simp only [compCode, run, Option.some.injEq, Res.code.injEq] at hr
    obtain ⟨rfl, rfl, rfl⟩ := hr
    exact wp_ret (hQ a w G (Ext.refl _ _ _) S rfl)
  | refuse why => simp [compCode, run] at hr
  | goto l => simp [compCode, run] at hr
  | rangeFunc f ps as b => simp [compCode, run] at hr
  | region id ops draw =>
    cases hcc : compCode P Hh fid nt slots (.region id ops draw) with
    | ops l =>
      rw [hcc] at hr
      simp only [run] at hr
      split at hr
      · rename_i s' hs'
        simp only [Option.some.injEq, Res.code.injEq] at hr
        obtain ⟨rfl, rfl, rfl⟩ := hr
        refine region_ok hmix (cf := fun f args h => (run F n (.call f args h)).bind Res.asVal) (fun g args h0 r h1 hc => ?_) hnd hcc S hs' hQ
        simp only at hc
        cases hrun : run F n (.call g args h0) with
        | none => rw [hrun] at hc; simp at hc
        | some res =>
          rw [hrun] at hc
          cases res with
          | code _ _ _ => simp [Res.asVal] at hc
          | val r1 h2 =>
            simp only [Option.bind_some, Res.asVal, Option.some.injEq, Prod.mk.injEq] at hc
            obtain ⟨rfl, rfl⟩ := hc
            refine ⟨ihc g args h0 _ _ hrun, fun cargs w => ?_⟩
            cases n with
            | zero => simp [run] at hrun
            | succ n =>
              simp only [run] at hrun
              split at hrun
              · simp at hrun
              · rename_i s hs; exact (hT.hand hs).2 cargs w
              · rename_i af haf; exact callFunc_enter (hT.comp haf) cargs w
      · simp at hr
    | refuse => rw [hcc] at hr; simp [run] at hr
    | _ =>
      exfalso
      simp only [compCode] at hcc
      split at hcc
      · split at hcc <;> simp at hcc
      · simp at hcc
  | seq x y =>
    simp only [compCode, run] at hr
    refine wp_seq ?_
    split at hr
    · rename_i vs1 h1 h1r
      exact ihn fid nt slots x vs h .normal vs1 h1 a w G _ hnd h1r S fun a1 w1 G1 hX1 S1 hd1 =>
        ihn fid nt slots y vs1 h1 e vs' h' a1 w1 G1 _ hnd hr S1 fun a2 w2 G2 hX2 S2 hd2 => hQ a2 w2 G2 (hX1.trans hX2) S2 (hd2.trans hd1)
    · rename_i hnn
      refine ihn fid nt slots x vs h e vs' h' a w G _ hnd hr S fun a1 w1 G1 hX1 S1 hd1 => ?_
      cases e with
      | normal => exact absurd hr (hnn vs' h')
      | exit id => exact hQ a1 w1 G1 hX1 S1 hd1
      | ret => exact hQ a1 w1 G1 hX1 S1 hd1
  | cond x c1 c2 =>
    simp only [compCode] at hr
    split at hr
    · rename_i x' hx
      simp only [run] at hr
      have hT0 : TRel w G a.tmps slots [] [] := ⟨rfl, by simp⟩
      have hv := operand_ok (k := 0) S.F hT0 x x' hx
      split at hr
      · rename_i hb
        rw [hb] at hv
        generalize hev : a.eval x = v at hv
        cases hv
        exact wp_cond_true hev (ihn fid nt slots c1 vs h e vs' h' a w G Q hnd hr S hQ)
      · rename_i hb
        rw [hb] at hv
        generalize hev : a.eval x = v at hv
        cases hv
        exact wp_cond_false hev (ihn fid nt slots c2 vs h e vs' h' a w G Q hnd hr S hQ)
      · simp at hr
    · simp [run] at hr
  | block id c1 =>
    simp only [compCode, run] at hr
    refine wp_block ?_
    split at hr
    · rename_i i vs1 h1 h1r
      refine ihn fid nt slots c1 vs h (.exit i) vs1 h1 a w G _ hnd h1r S fun a1 w1 G1 hX1 S1 hd1 => ?_
      split at hr
      · rename_i hi
        simp only [Option.some.injEq, Res.code.injEq] at hr
        obtain ⟨rfl, rfl, rfl⟩ := hr
        simp only [exitOf, Exit.inBlock, hi, if_true]
        exact hQ a1 w1 G1 hX1 S1 hd1
      · rename_i hi
        simp only [Option.some.injEq, Res.code.injEq] at hr
        obtain ⟨rfl, rfl, rfl⟩ := hr
        simp only [exitOf, Exit.inBlock, hi, if_false]
        exact hQ a1 w1 G1 hX1 S1 hd1
    · rename_i hnn
      refine ihn fid nt slots c1 vs h e vs' h' a w G _ hnd hr S fun a1 w1 G1 hX1 S1 hd1 => ?_
      cases e with
      | normal => exact hQ a1 w1 G1 hX1 S1 hd1
      | exit id' => exact absurd hr (hnn id' vs' h')
      | ret => exact hQ a1 w1 G1 hX1 S1 hd1
  | scope c1 =>
    simp only [compCode, run] at hr
    refine wp_scope_straight ?_
    have hskip : ∀ m, run F m (.code .skip vs h) = none ∨ run F m (.code .skip vs h) = some (.code .normal vs h) := fun m => by cases m <;> simp [run]
    rcases hskip n with h0 | h0
    · rw [h0] at hr; simp at hr
    · rw [h0] at hr
      simp only at hr
      refine ihn fid nt slots c1 vs h e vs' h' a w G _ hnd hr S fun a1 w1 G1 hX1 S1 hd1 => ?_
      cases e <;> exact hQ a1 w1 G1 hX1 S1 hd1
  | loop c1 =>
    refine wp_loop_ind (fun m a1 w1 => m ≤ n + 1 ∧ ∃ vs1 h1 G1, run F m (.code (compCode P Hh fid nt slots (.loop c1)) vs1 h1) = some (.code e vs' h') ∧ CRel w1 G1 a1 nt slots vs1 h1 ∧ Ext w G h w1 G1 h1 ∧ a1.defers = a.defers) (m := n + 1) ⟨Nat.le_refl _, vs, h, G, hr, S, Ext.refl _ _ _, rfl⟩ ?_
    rintro m a1 w1 ⟨hm, vs1, h1, G1, hr1, S1, hX1, hd1⟩
    cases m with
    | zero => simp [run] at hr1
    | succ m =>
      simp only [compCode, run] at hr1
      split at hr1
      · rename_i vs2 h2 h2r
        exact ih m (by omega) fid nt slots c1 vs1 h1 .normal vs2 h2 a1 w1 G1 _ hnd h2r S1 fun a2 w2 G2 hX2 S2 hd2 =>
          ⟨m, Nat.lt_succ_self _, by omega, vs2, h2, G2, by simp only [compCode]; exact hr1, S2, hX1.trans hX2, hd2.trans hd1⟩
      · rename_i hnn
        refine ih m (by omega) fid nt slots c1 vs1 h1 e vs' h' a1 w1 G1 _ hnd hr1 S1 fun a2 w2 G2 hX2 S2 hd2 => ?_
        cases e with
        | normal => exact absurd hr1 (hnn vs' h')
        | exit id' => exact hQ a2 w2 G2 (hX1.trans hX2) S2 (hd2.trans hd1)
        | ret => exact hQ a2 w2 G2 (hX1.trans hX2) S2 (hd2.trans hd1)

theorem all_ok (hmix : P.follows .mixedOrders = true) (hT : Table P Hh F) : ∀ n, CodeOk P Hh F n ∧ CallOk P F n := by
  intro n
  induction n using Nat.strongRecOn with
  | _ n ih =>
    cases n with
    | zero => exact ⟨fun fid nt slots c vs h e vs' h' a w G Q hnd hr => by simp [run] at hr, fun g args h r h' hr => by simp [run] at hr⟩
    | succ n => exact ⟨code_step hmix hT (fun m hm => (ih m (by omega)).1) (ih n (by omega)).2, call_step hT (ih n (by omega)).1⟩

/-- SOUNDNESS: what a call of the abstract machine computes, the call of the model gives. -/
theorem sound (hmix : P.follows .mixedOrders = true) (hT : Table P Hh F) {n g : Nat} {args : List AVal} {h h' : Heap} {r : AVal} (e : run F n (.call g args h) = some (.val r h')) : CallRel P g args h r h' := (all_ok hmix hT n).2 g args h r h' e
end Go.Abs
