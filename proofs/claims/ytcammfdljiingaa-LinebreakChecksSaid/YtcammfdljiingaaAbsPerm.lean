/-
  Independent steps of a region may be exchanged, and so every drawn order gives what the text's order gives.
-/
import Derived.Test.YtcammfdljiingaaAbsDraw
namespace Go.Abs
set_option linter.unusedSimpArgs false
set_option linter.unusedVariables false

theorem readsV_false {o : AOper} {i : Nat} (h : readsV o i = false) : ∀ x ∈ readsOf o, x ≠ .v i := by
  intro x hx he
  subst he
  have : readsV o i = true := List.any_eq_true.2 ⟨.v i, hx, by simp⟩
  rw [h] at this; simp at this

theorem readsT_false {o : AOper} {k : Nat} (h : readsT o k = false) : ∀ x ∈ readsOf o, x ≠ .t k := by
  intro x hx he
  subst he
  have : readsT o k = true := List.any_eq_true.2 ⟨.t k, hx, by simp⟩
  rw [h] at this; simp at this

theorem ev_put {s : St} {k : Nat} {d : ADst} {r : AVal} {h : Heap} {x : Opd} (hv : ∀ i, d = .var i → x ≠ .v i) (ht : x ≠ .t k) : evOpd (s.put k d r h).vs (s.put k d r h).ts x = evOpd s.vs s.ts x := by
  cases x with
  | c y => rfl
  | v i =>
    cases d with
    | no => rfl
    | tmp => rfl
    | var j =>
      have : j ≠ i := fun e => hv j rfl (by rw [e])
      simp [evOpd, St.put, List.getElem?_set_ne this]
  | t j =>
    cases d with
    | no => rfl
    | tmp =>
      have : k ≠ j := fun e => ht (by rw [e])
      simp [evOpd, St.put, List.getElem?_set_ne this]
    | var i => rfl

/-- A step, told: whether it runs, its result, the heap behind it. -/
structure Told (cf : CallF) (o : AOper) (s : St) (g : Bool) (r : AVal) (h' : Heap) : Prop where
  want : wantA (evOpd s.vs s.ts) o.guard = some g
  run : if g then execA cf o.op (evOpd s.vs s.ts) s.h = some (r, h') else r = .tup [] ∧ h' = s.h

theorem step_told {cf : CallF} {o : AOper} {k : Nat} {s s' : St} (e : stepA cf o k s = some s') : ∃ g r h', Told cf o s g r h' ∧ s' = s.put k o.dst r h' := by
  unfold stepA at e
  split at e
  · simp at e
  · rename_i hw
    obtain rfl := Option.some.inj e
    exact ⟨false, _, _, ⟨hw, by simp⟩, rfl⟩
  · rename_i hw
    split at e
    · rename_i r h' he
      obtain rfl := Option.some.inj e
      exact ⟨true, r, h', ⟨hw, by simpa using he⟩, rfl⟩
    · simp at e

theorem told_step {cf : CallF} {o : AOper} {k : Nat} {s : St} {g : Bool} {r : AVal} {h' : Heap} (t : Told cf o s g r h') : stepA cf o k s = some (s.put k o.dst r h') := by
  unfold stepA
  rw [t.want]
  have hr := t.run
  cases g
  · simp at hr; simp [hr.1, hr.2]
  · simp at hr; simp [hr]

theorem told_congr {cf : CallF} {o : AOper} {s s' : St} {g : Bool} {r : AVal} {h' : Heap} (t : Told cf o s g r h') (hx : ∀ x ∈ readsOf o, evOpd s.vs s.ts x = evOpd s'.vs s'.ts x) (hh : s'.h = s.h) : Told cf o s' g r h' := by
  refine ⟨?_, ?_⟩
  · rw [← t.want]
    cases hg : o.guard with
    | none => rfl
    | some p =>
      simp only [wantA]
      rw [hx p.1 (by simp [readsOf, hg])]
  · have hr := t.run
    rw [hh, ← execA_congr (cf := cf) (ev := evOpd s.vs s.ts) (fun x hx' => hx x (by simp [readsOf, hx']))]
    exact hr

/-- The heap's part of an exchange. -/
theorem told_heap {cf : CallF} {a b : AOper} {s : St} {g g' : Bool} {r r' : AVal} {h1 h2 : Heap} (hcl : heapConf (clsOf a.op) (clsOf b.op) = false) (ta : Told cf a s g r h1) (tb : Told cf b { s with h := h1 } g' r' h2) :
    ∃ h1', Told cf b s g' r' h1' ∧ Told cf a { s with h := h1' } g r h2 := by
  have wa := ta.want
  have wb := tb.want
  have ra := ta.run
  have rb := tb.run
  cases g with
  | false =>
    simp at ra
    obtain ⟨rfl, rfl⟩ := ra
    exact ⟨h2, ⟨wb, rb⟩, ⟨wa, by simp⟩⟩
  | true =>
    simp at ra
    cases g' with
    | false =>
      simp at rb
      obtain ⟨rfl, rfl⟩ := rb
      exact ⟨s.h, ⟨wb, by simp⟩, ⟨wa, by simpa using ra⟩⟩
    | true =>
      simp at rb
      cases ca : clsOf a.op <;> cases cb : clsOf b.op <;> rw [ca, cb] at hcl <;> simp [heapConf] at hcl <;> first
        | (obtain ⟨rfl, q⟩ := cls_n ca ra; exact ⟨h2, ⟨wb, by simpa using rb⟩, ⟨wa, by simpa using q h2⟩⟩)
        | (obtain ⟨rfl, q⟩ := cls_n cb rb; exact ⟨s.h, ⟨wb, by simpa using q s.h⟩, ⟨wa, by simpa using ra⟩⟩)
        | (obtain ⟨rfl, _⟩ := cls_r ca ra; obtain ⟨rfl, _⟩ := cls_r cb rb; exact ⟨s.h, ⟨wb, by simpa using rb⟩, ⟨wa, by simpa using ra⟩⟩)
        | (obtain ⟨rfl, q⟩ := cls_r ca ra
           obtain ⟨ob, rfl, q'⟩ := cls_a cb rb
           exact ⟨s.h.push ob, ⟨wb, by simpa using q' s.h rfl⟩, ⟨wa, by simpa using q ob⟩⟩)

theorem put_comm {s : St} {i j : Nat} {a b : ADst} {r r' : AVal} {h1 h2 h3 : Heap} (hij : i ≠ j) (hv : ∀ x y, a = .var x → b = .var y → x ≠ y) : (s.put i a r h1).put j b r' h2 = (s.put j b r' h3).put i a r h2 := by
  cases a with
  | no => cases b <;> rfl
  | tmp => cases b with
    | no => rfl
    | tmp => simp only [St.put, St.mk.injEq, and_true, true_and]; exact List.set_comm _ _ hij
    | var y => rfl
  | var x => cases b with
    | no => rfl
    | tmp => rfl
    | var y => simp only [St.put, St.mk.injEq, and_true]; exact List.set_comm _ _ (hv x y rfl rfl)

/-- Two steps that are independent, i before j in the text, may be exchanged. -/
theorem step_comm {cf : CallF} {a b : AOper} {i j : Nat} {s s1 s2 : St} (hij : i ≠ j) (hc : conf i a j b = false) (e1 : stepA cf a i s = some s1) (e2 : stepA cf b j s1 = some s2) : ∃ s1', stepA cf b j s = some s1' ∧ stepA cf a i s1' = some s2 := by
  simp only [conf, Bool.or_eq_false_iff] at hc
  obtain ⟨⟨⟨⟨⟨c1, c2⟩, c3⟩, c4⟩, c5⟩, c6⟩ := hc
  obtain ⟨g, r, h1, ta, rfl⟩ := step_told e1
  obtain ⟨g', r', h2, tb, rfl⟩ := step_told e2
  have hb : ∀ x ∈ readsOf b, evOpd (s.put i a.dst r h1).vs (s.put i a.dst r h1).ts x = evOpd s.vs s.ts x := fun x hx =>
    ev_put (fun k hk => by rw [hk] at c4; exact readsV_false c4 x hx) (readsT_false c1 x hx)
  have tb' : Told cf b { s with h := h1 } g' r' h2 := told_congr tb hb (by cases a.dst <;> rfl)
  obtain ⟨h1', q1, q2⟩ := told_heap c3 ta tb'
  have ha : ∀ x ∈ readsOf a, evOpd s.vs s.ts x = evOpd (s.put j b.dst r' h1').vs (s.put j b.dst r' h1').ts x := fun x hx =>
    (ev_put (fun k hk => by rw [hk] at c5; exact readsV_false c5 x hx) (readsT_false c2 x hx)).symm
  have q2' : Told cf a (s.put j b.dst r' h1') g r h2 := told_congr q2 ha (by cases b.dst <;> rfl)
  refine ⟨_, told_step q1, ?_⟩
  rw [told_step q2', put_comm hij (fun x y hx hy => by rw [hx, hy] at c6; simpa using c6)]

/-! ### lists of steps -/

def foldI (cf : CallF) (as : List AOper) : List Nat → St → Option St
  | [], s => some s
  | k :: l, s => match as[k]? with
    | some o => match stepA cf o k s with
      | some s' => foldI cf as l s'
      | none => none
    | none => none

theorem foldA_eq (cf : CallF) (as : List AOper) : ∀ (l : List AOper) (k : Nat) (s : St), (∀ j, l[j]? = as[k + j]?) → foldA cf l k s = foldI cf as (List.range' k l.length) s
  | [], k, s, _ => rfl
  | o :: l, k, s, h => by
    have h0 : as[k]? = some o := by simpa using (h 0).symm
    simp only [foldA, List.length_cons, List.range'_succ, foldI, h0]
    cases stepA cf o k s with
    | none => rfl
    | some s' => exact foldA_eq cf as l (k + 1) s' (fun j => by have := h (j + 1); rw [List.getElem?_cons_succ] at this; rw [this]; congr 1; omega)

theorem foldI_move {cf : CallF} {as : List AOper} {i : Nat} {a : AOper} (ha : as[i]? = some a) : ∀ (l1 : List Nat) {l2 : List Nat} {s s1 τ : St}, (∀ j ∈ l1, i ≠ j ∧ ∀ b, as[j]? = some b → conf i a j b = false) → stepA cf a i s = some s1 → foldI cf as (l1 ++ l2) s1 = some τ →
    foldI cf as (l1 ++ i :: l2) s = some τ
  | [], l2, s, s1, τ, _, e1, e2 => by simp only [List.nil_append] at e2 ⊢; simp only [foldI, ha, e1]; exact e2
  | j :: l1, l2, s, s1, τ, h, e1, e2 => by
    simp only [List.cons_append, foldI] at e2 ⊢
    split at e2
    · rename_i b hb
      split at e2
      · rename_i s2 hs2
        obtain ⟨h1, h2⟩ := h j (by simp)
        obtain ⟨s1', q1, q2⟩ := step_comm h1 (h2 b hb) e1 hs2
        simp only [q1]
        exact foldI_move ha l1 (fun k hk => h k (by simp [hk])) q2 e2
      · simp at e2
    · simp at e2

/-- The pairs of a list that may not stand so. -/
def okPair (as : List AOper) (x y : Nat) : Prop := y < x → ∀ a b, as[y]? = some a → as[x]? = some b → conf y a x b = false

theorem foldI_perm {cf : CallF} {as : List AOper} : ∀ {m n : Nat} {l : List Nat} {s τ : St}, l.Perm (List.range' m n) → l.Pairwise (okPair as) → foldI cf as (List.range' m n) s = some τ → foldI cf as l s = some τ
  | m, 0, l, s, τ, hp, _, e => by
    have : l = [] := by simpa using hp
    subst this; exact e
  | m, n + 1, l, s, τ, hp, hw, e => by
    rw [List.range'_succ] at hp e
    have hm : m ∈ l := hp.symm.subset (by simp)
    obtain ⟨l1, l2, rfl⟩ := List.append_of_mem hm
    have hp' : (l1 ++ l2).Perm (List.range' (m + 1) n) := by
      have := (List.perm_middle (a := m) (l₁ := l1) (l₂ := l2)).symm.trans hp
      exact (List.perm_cons m).1 this
    simp only [foldI] at e
    split at e
    · rename_i a ha
      split at e
      · rename_i s1 hs1
        have hw' : (l1 ++ l2).Pairwise (okPair as) := hw.sublist (by simp)
        have ih := foldI_perm hp' hw' e
        refine foldI_move ha l1 (fun j hj => ?_) hs1 ih
        have hjr : j ∈ List.range' (m + 1) n := hp'.subset (by simp [hj])
        have hjm : m < j := by rw [List.mem_range'_1] at hjr; omega
        refine ⟨by omega, fun b hb => ?_⟩
        have := (List.pairwise_append.1 hw).2.2 j hj m (by simp)
        exact this hjm a b ha hb
      · simp at e
    · simp at e

/-! ### the drawn orders -/

/-- A list of operations, the last first, in which whatever comes before an operation has been taken. -/
def Ord (ops : List Oper) : List Nat → Prop
  | [] => True
  | x :: tl => (∀ o, ops[x]? = some o → ∀ e ∈ o.after.toList, Region.binds .any e = true → e.on ∈ tl) ∧ Ord ops tl

theorem edgesOk_get : ∀ {l : List Oper} {k j : Nat} {o : Oper}, edgesOk l k = true → l[j]? = some o → ∀ e ∈ o.after.toList, Region.binds .any e = true → e.on < k + j
  | [], k, j, o, _, h => by simp at h
  | o' :: l, k, j, o, h, hj => by
    simp only [edgesOk, Bool.and_eq_true] at h
    cases j with
    | zero =>
      simp at hj; subst hj
      intro e he hb
      have := List.all_eq_true.1 h.1 e he
      simp [hb] at this; omega
    | succ j =>
      intro e he hb
      have := edgesOk_get h.2 (by simpa using hj) e he hb
      omega

theorem lin_go {ops : Array Oper} (hE : edgesOk ops.toList 0 = true) : ∀ (fuel t : Nat) (listed : Array Bool) (acc : List Nat), acc.length + fuel = ops.size → acc.Nodup → (∀ x ∈ acc, x < ops.size) → listed.size = ops.size → (∀ i, i < ops.size → (listed.getD i true = true ↔ i ∈ acc)) → Ord ops.toList acc →
    ∃ acc', Region.linearise.go .any ops fuel t listed acc = acc'.reverse ∧ acc'.length = ops.size ∧ acc'.Nodup ∧ (∀ x ∈ acc', x < ops.size) ∧ Ord ops.toList acc'
  | 0, t, listed, acc, hl, hn, hlt, hs, hli, ho => ⟨acc, rfl, by omega, hn, hlt, ho⟩
  | fuel + 1, t, listed, acc, hl, hn, hlt, hs, hli, ho => by
    unfold Region.linearise.go
    simp only
    generalize hrs : (List.range ops.size).filter (fun i => !listed.getD i true && ((ops[i]?).map (fun o => o.after.all fun e => !Region.binds .any e || listed.getD e.on false)).getD false) = rs
    have hmem : ∀ i, i ∈ rs ↔ (i < ops.size ∧ i ∉ acc ∧ ∀ o, ops[i]? = some o → ∀ e ∈ o.after.toList, Region.binds .any e = true → listed.getD e.on false = true) := by
      intro i
      rw [← hrs, List.mem_filter, List.mem_range]
      constructor
      · rintro ⟨h1, h2⟩
        simp only [Bool.and_eq_true, Bool.not_eq_true'] at h2
        refine ⟨h1, fun hm => ?_, fun o hoo e he hb => ?_⟩
        · rw [(hli i h1).2 hm] at h2; simp at h2
        · rw [hoo] at h2
          simp only [Option.map_some, Option.getD_some, Array.all_eq_true_iff_forall_mem] at h2
          have := h2.2 e (by simpa using he)
          simpa [hb] using this
      · rintro ⟨h1, h2, h3⟩
        refine ⟨h1, ?_⟩
        simp only [Bool.and_eq_true, Bool.not_eq_true']
        refine ⟨?_, ?_⟩
        · cases hq : listed.getD i true with
          | false => rfl
          | true => exact absurd ((hli i h1).1 hq) h2
        · obtain ⟨o, hoo⟩ : ∃ o, ops[i]? = some o := ⟨_, Array.getElem?_eq_getElem h1⟩
          rw [hoo]
          simp only [Option.map_some, Option.getD_some, Array.all_eq_true_iff_forall_mem]
          intro e he
          cases hb : Region.binds .any e with
          | false => rfl
          | true => simp [h3 o hoo e (by simpa using he) hb]
    have hne : rs ≠ [] := by
      -- the smallest that is not listed
      have hex : ∃ i, i < ops.size ∧ i ∉ acc := by
        apply Classical.byContradiction
        intro hno
        have hall : ∀ i, i < ops.size → i ∈ acc := fun i hi => Classical.byContradiction fun hc => hno ⟨i, hi, hc⟩
        have hsub : (List.range ops.size) ⊆ acc := fun i hi => hall i (by simpa using hi)
        have := (List.nodup_range (n := ops.size)).length_le_of_subset hsub
        simp at this; omega
      have hmin : ∃ i, (i < ops.size ∧ i ∉ acc) ∧ ∀ j, j < i → ¬ (j < ops.size ∧ j ∉ acc) := by
        obtain ⟨i, hi⟩ := hex
        induction i using Nat.strongRecOn with
        | _ i ih =>
          by_cases h : ∃ j, j < i ∧ (j < ops.size ∧ j ∉ acc)
          · obtain ⟨j, hj, hj'⟩ := h; exact ih j hj hj'
          · exact ⟨i, hi, fun j hj hc => h ⟨j, hj, hc⟩⟩
      obtain ⟨i, ⟨h1, h2⟩, h3⟩ := hmin
      have : i ∈ rs := (hmem i).2 ⟨h1, h2, fun o hoo e he hb => by
        have hlt' := edgesOk_get hE (j := i) (by simpa using hoo) e he hb
        rw [Nat.zero_add] at hlt'
        have hin : e.on ∈ acc := Classical.byContradiction fun hc => h3 e.on hlt' ⟨by omega, hc⟩
        have := (hli e.on (by omega)).2 hin
        rw [Array.getD_eq_getD_getElem?] at this ⊢
        rw [Array.getElem?_eq_getElem (by omega)] at this ⊢
        simpa using this⟩
      intro he; rw [he] at this; simp at this
    have hpos : 0 < rs.length := List.length_pos_iff.2 hne
    have hlt2 : t % rs.length < rs.length := Nat.mod_lt _ hpos
    rw [List.getElem?_eq_getElem hlt2]
    simp only
    generalize hi : rs[t % rs.length] = i
    have him : i ∈ rs := by rw [← hi]; exact List.getElem_mem _
    obtain ⟨h1, h2, h3⟩ := (hmem i).1 him
    refine lin_go hE fuel (t / rs.length) (listed.setIfInBounds i true) (i :: acc) (by simp; omega) (List.nodup_cons.2 ⟨h2, hn⟩) (fun x hx => ?_) (by simp [hs]) (fun j hj => ?_) ⟨fun o hoo e he hb => ?_, ho⟩
    · rcases List.mem_cons.1 hx with rfl | hx
      · exact h1
      · exact hlt x hx
    · rw [Array.getD_eq_getD_getElem?, Array.getElem?_setIfInBounds]
      by_cases hij : i = j
      · subst hij; simp [hs, h1]
      · have := hli j hj
        rw [Array.getD_eq_getD_getElem?] at this
        simp [hij, this, List.mem_cons, Ne.symm hij]
    · have hb2 := h3 o (by simpa using hoo) e he hb
      have hlt' := edgesOk_get hE (j := i) (by simpa using hoo) e he hb
      rw [Nat.zero_add] at hlt'
      refine (hli e.on (by omega)).1 ?_
      rw [Array.getD_eq_getD_getElem?] at hb2 ⊢
      rw [Array.getElem?_eq_getElem (by omega)] at hb2 ⊢
      simpa using hb2

theorem befs_get : ∀ {l : List Oper} {acc : List (List Nat)} {j : Nat}, (∀ k, acc.length ≤ k → acc[k]? = none) → 
    (befs l acc).length = acc.length + l.length ∧ (∀ k, k < acc.length → (befs l acc)[k]? = acc[k]?) ∧
    (∀ k o, l[k]? = some o → (befs l acc)[acc.length + k]? = some (o.after.toList.flatMap fun e => if Region.binds .any e then e.on :: (((befs l acc).take (acc.length + k))[e.on]?).getD [] else []))
  | [], acc, j, _ => by simp [befs]
  | o :: l, acc, j, h => by
    simp only [befs]
    generalize hx : (o.after.toList.flatMap fun e => if Region.binds .any e then e.on :: ((acc[e.on]?).getD []) else []) = x
    obtain ⟨e1, e2, e3⟩ := befs_get (l := l) (acc := acc ++ [x]) (j := j) (fun k hk => List.getElem?_eq_none hk)
    have htake : (befs l (acc ++ [x])).take acc.length = acc := by
      apply List.ext_getElem?
      intro k
      rw [List.getElem?_take]
      split
      · rename_i hk
        rw [e2 k (by simp; omega), List.getElem?_append_left hk]
      · rename_i hk
        rw [List.getElem?_eq_none (by omega)]
    refine ⟨by rw [e1]; simp; omega, fun k hk => ?_, fun k o' hk => ?_⟩
    · rw [e2 k (by simp; omega), List.getElem?_append_left hk]
    · cases k with
      | zero =>
        simp at hk; subst hk
        rw [Nat.add_zero, e2 acc.length (by simp), htake]
        simp [← hx]
      | succ k =>
        have := e3 k o' (by simpa using hk)
        simp only [List.length_append, List.length_cons, List.length_nil] at this
        rw [show acc.length + (k + 1) = acc.length + (0 + 1) + k by omega]
        exact this

/-- Whatever the table names has been taken. -/
theorem befs_ord {ops : List Oper} : ∀ (j : Nat) {p q : List Nat}, j < ops.length → Ord ops (p ++ j :: q) → ∀ i ∈ ((befs ops [])[j]?).getD [], i ∈ q := by
  intro j
  induction j using Nat.strongRecOn with
  | _ j ih =>
    intro p q hj ho i hi
    have hoq : Ord ops (j :: q) := by
      clear hi ih
      induction p with
      | nil => exact ho
      | cons x p ihp => exact ihp ho.2
    obtain ⟨_, _, e3⟩ := befs_get (l := ops) (acc := []) (j := 0) (by simp)
    obtain ⟨o, hoo⟩ : ∃ o, ops[j]? = some o := ⟨_, List.getElem?_eq_getElem hj⟩
    have := e3 j o hoo
    simp only [List.length_nil, Nat.zero_add] at this
    rw [this] at hi
    simp only [Option.getD_some, List.mem_flatMap] at hi
    obtain ⟨e, he, hi⟩ := hi
    split at hi
    · rename_i hb
      have hon := hoq.1 o hoo e he hb
      rcases List.mem_cons.1 hi with rfl | hi
      · exact hon
      · rw [List.getElem?_take] at hi
        split at hi
        · rename_i hlt
          obtain ⟨q1, q2, rfl⟩ := List.append_of_mem hon
          have := ih e.on hlt (p := q1) (q := q2) (by omega) hoq.2 i hi
          simp [this]
        · simp at hi
    · simp at hi

theorem ord_pairs {ops : List Oper} {as : List AOper} (hl : as.length = ops.length) (hp : pairsOk (befs ops []) as = true) : ∀ {acc : List Nat}, Ord ops acc → acc.Nodup → (∀ x ∈ acc, x < ops.length) → acc.Pairwise (fun x y => okPair as y x)
  | [], _, _, _ => .nil
  | x :: tl, ho, hn, hlt => by
    refine List.Pairwise.cons (fun y hy => ?_) (ord_pairs hl hp ho.2 (List.nodup_cons.1 hn).2 (fun z hz => hlt z (by simp [hz])))
    intro hxy a b ha hb
    cases hc : conf x a y b with
    | false => rfl
    | true =>
      exfalso
      have hylt := hlt y (by simp [hy])
      simp only [pairsOk, List.all_eq_true, List.mem_range] at hp
      have := hp y (by omega) x hxy
      rw [ha, hb] at this
      simp only [hc, Bool.not_true, Bool.false_or] at this
      have hmem : x ∈ ((befs ops [])[y]?).getD [] := by simpa using this
      obtain ⟨q1, q2, rfl⟩ := List.append_of_mem hy
      have := befs_ord y (p := q1) (q := q2) hylt ho.2 x hmem
      exact (List.nodup_cons.1 hn).1 (by simp [this])

/-- Every drawn order gives what the text's order gives. -/
theorem draw_ok {cf : CallF} {ops : Array Oper} {as : List AOper} {s τ : St} (hl : as.length = ops.size) (hd : drawOk ops.toList as = true) (e : foldI cf as (List.range' 0 as.length) s = some τ) (t : Nat) : foldI cf as (Region.schedule true ops t) s = some τ := by
  simp only [drawOk, Bool.and_eq_true] at hd
  have hs : Region.schedule true ops t = Region.linearise .any ops t := by simp [Region.schedule]
  rw [hs]
  obtain ⟨acc, q1, q2, q3, q4, q5⟩ := lin_go hd.1 ops.size t (Array.replicate ops.size false) [] (by simp) (by simp) (by simp) (by simp) (fun i hi => by simp [Array.getD_eq_getD_getElem?, hi]) trivial
  have hlin : Region.linearise .any ops t = acc.reverse := q1
  rw [hlin]
  have hperm : acc.Perm (List.range ops.size) := by
    have hmem : ∀ i, i ∈ acc ↔ i ∈ List.range ops.size := fun i => by
      rw [List.mem_range]
      refine ⟨fun hi => q4 i hi, fun hi => Classical.byContradiction fun hc => ?_⟩
      have hn : (i :: acc).Nodup := List.nodup_cons.2 ⟨hc, q3⟩
      have hsub : (i :: acc) ⊆ List.range ops.size := fun x hx => by
        rcases List.mem_cons.1 hx with rfl | hx
        · simpa using hi
        · simpa using q4 x hx
      have := hn.length_le_of_subset hsub
      simp at this; omega
    rw [List.perm_iff_count]
    intro i
    rw [q3.count, (List.nodup_range (n := ops.size)).count]
    simp only [hmem i]
  refine foldI_perm (m := 0) (n := as.length) ?_ ?_ e
  · rw [hl, ← List.range_eq_range']; exact (List.reverse_perm acc).trans hperm
  · rw [List.pairwise_reverse]
    exact ord_pairs (by rw [hl]; simp) hd.2 q5 q3 (fun x hx => by simpa using q4 x hx)
end Go.Abs
