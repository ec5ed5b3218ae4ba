/-
  Merged from LbU LbAA LbBB LbCD LbCE LbEA LbCC AbsLaw LbGlue LbFA LbFB LbFD LbFE: The plans of the reference model are the best ways.
-/
import Derived.Test.YtcammfdljiingaaM06
import Derived.Test.YtcammfdljiingaaM05
import Derived.Test.YtcammfdljiingaaM02
import Derived.Test.YtcammfdljiingaaM01
import Derived.Test.YtcammfdljiingaaM03
import Derived.ProofKit
import Derived.Test.YtcammfdljiingaaRows
/-
  The plans of the reference model are the best ways.
-/
set_option linter.unusedSimpArgs false
set_option linter.unusedVariables false
set_option maxHeartbeats 8000000
namespace Go.Proofs.Ytcammfdljiingaa
open Go Go.Abs

def mkLines (l : List Item) : Nat → List Nat → List Ln
  | _, [] => []
  | p, b :: bs => ⟨(skip l p : Nat), (b : Nat), natS l (skip l p) b⟩ :: mkLines l b bs

theorem mkLines_append (l : List Item) : ∀ (p : Nat) (bs : List Nat) (b : Nat), mkLines l p (bs ++ [b]) = mkLines l p bs ++ [⟨(skip l (endOf p bs) : Nat), (b : Nat), natS l (skip l (endOf p bs)) b⟩]
  | p, [], b => rfl
  | p, c :: bs, b => by
    have := mkLines_append l c bs b
    simp only [List.cons_append, mkLines, endOf, this]
theorem mkLines_len (l : List Item) : ∀ (p : Nat) (bs : List Nat), (mkLines l p bs).length = bs.length
  | p, [] => rfl
  | p, b :: bs => by simp only [mkLines, List.length_cons, mkLines_len l b bs]
theorem mkLines_inj (l : List Item) : ∀ (p : Nat) (us vs : List Nat), mkLines l p us = mkLines l p vs → us = vs
  | p, [], [], _ => rfl
  | p, [], _ :: _, h => by simp [mkLines] at h
  | p, _ :: _, [], h => by simp [mkLines] at h
  | p, a :: us, b :: vs, h => by
    simp only [mkLines, List.cons.injEq, Ln.mk.injEq] at h
    have e : a = b := by omega
    subst e
    rw [mkLines_inj l a us vs h.2]
theorem lexLn_mk (l : List Item) : ∀ (p p' : Nat) (us vs : List Nat), lexLn (mkLines l p us) (mkLines l p' vs) = decide (lexLt us vs)
  | p, p', [], vs => by
    have : ¬ lexLt [] vs := by simp [lexLt]
    rw [decide_eq_false this]
    simp [mkLines, lexLn]
  | p, p', a :: us, [] => by
    have : ¬ lexLt (a :: us) [] := by simp [lexLt]
    rw [decide_eq_false this]
    simp [mkLines, lexLn]
  | p, p', a :: us, b :: vs => by
    simp only [mkLines, lexLn, lexLt, lexLn_mk l a b us vs]
    by_cases e : a = b
    · subst e; simp
    · have e' : ¬ ((a : Int) = b) := by omega
      rw [if_neg e']
      by_cases h : a < b
      · have : (a : Int) < b := by omega
        simp [h, this]
      · have : ¬ (a : Int) < b := by omega
        simp [h, this, e]

theorem better_pref {l : List Item} {a b : Pl} {us vs : List Nat} (ha : a.lines = mkLines l 0 us) (hb : b.lines = mkLines l 0 vs) (hi : b.is = true) : betterS a b = true ↔ pref a.cost us b.cost vs := by
  unfold betterS pref
  rw [if_pos hi, ha, hb, mkLines_len, mkLines_len, lexLn_mk]
  by_cases h1 : a.cost = b.cost
  · rw [if_pos h1]
    by_cases h2 : us.length = vs.length
    · rw [if_pos h2]
      simp [h1, h2]
    · rw [if_neg h2]
      simp [h1, h2]
  · rw [if_neg h1]
    simp [h1]

theorem pref_irrefl (c : Int) (us : List Nat) : ¬ pref c us c us := by
  unfold pref
  rintro (h | ⟨_, h | ⟨_, h⟩⟩)
  · omega
  · omega
  · exact lexLt_irrefl us h
theorem pref_trans {c d e : Int} {us vs ws' : List Nat} (h1 : pref c us d vs) (h2 : pref d vs e ws') : pref c us e ws' := by
  unfold pref at *
  rcases h1 with h1 | ⟨h1, h1'⟩ <;> rcases h2 with h2 | ⟨h2, h2'⟩
  · exact .inl (by omega)
  · exact .inl (by omega)
  · exact .inl (by omega)
  · refine .inr ⟨by omega, ?_⟩
    rcases h1' with h1' | ⟨h1', h3⟩ <;> rcases h2' with h2' | ⟨h2', h4⟩
    · exact .inl (by omega)
    · exact .inl (by omega)
    · exact .inl (by omega)
    · exact .inr ⟨by omega, lexLt_trans h3 h4⟩
theorem lexLt_snoc : ∀ {us vs : List Nat} (b : Nat), us.length = vs.length → lexLt (us ++ [b]) (vs ++ [b]) → lexLt us vs
  | [], [], b, _, h => by
    simp only [List.nil_append, lexLt] at h
    rcases h with h | ⟨_, h⟩
    · omega
    · exact h.elim
  | [], _ :: _, b, h, _ => by simp at h
  | _ :: _, [], b, h, _ => by simp at h
  | a :: us, c :: vs, b, hl, h => by
    rcases h with h | ⟨h, h'⟩
    · exact .inl h
    · exact .inr ⟨h, lexLt_snoc b (by simpa using hl) h'⟩
theorem pref_snoc {c d e : Int} {us vs : List Nat} {b : Nat} (h : pref (c + e) (us ++ [b]) (d + e) (vs ++ [b])) : pref c us d vs := by
  unfold pref at *
  simp only [List.length_append, List.length_cons, List.length_nil] at h
  rcases h with h | ⟨h, h1⟩
  · exact .inl (by omega)
  · refine .inr ⟨by omega, ?_⟩
    rcases h1 with h1 | ⟨h1, h2⟩
    · exact .inl (by omega)
    · exact .inr ⟨by omega, lexLt_snoc b (by omega) h2⟩

theorem endOf_ge {l : List Item} {w : Int} : ∀ {p : Nat} {bs : List Nat} {c : Int}, chain l w p bs = some c → p ≤ endOf p bs ∧ (bs ≠ [] → p < endOf p bs)
  | p, [], c, _ => ⟨Nat.le_refl _, fun h => absurd rfl h⟩
  | p, b :: bs, c, h => by
    unfold chain at h
    split at h
    · rename_i x y h1 h2
      have := edge_lt h1
      have ih := endOf_ge h2
      simp only [endOf]
      exact ⟨by omega, fun _ => by omega⟩
    · simp at h

theorem chain_snoc {l : List Item} {w : Int} {p b : Nat} {bs : List Nat} {d : Int} (h : chain l w p (bs ++ [b]) = some d) : ∃ c e, chain l w p bs = some c ∧ edge l w (endOf p bs) b = some e ∧ d = c + e := by
  rw [chain_append] at h
  split at h
  · rename_i c e h1 h2
    simp only [Option.some.injEq] at h
    unfold chain at h2
    split at h2
    · rename_i e' f h3 h4
      simp only [chain, Option.some.injEq] at h4 h2
      subst h4
      exact ⟨c, e', h1, h3, by omega⟩
    · simp at h2
  · simp at h
theorem chain_snoc' {l : List Item} {w : Int} {p b : Nat} {bs : List Nat} {c e : Int} (h1 : chain l w p bs = some c) (h2 : edge l w (endOf p bs) b = some e) : chain l w p (bs ++ [b]) = some (c + e) := by
  rw [chain_append, h1]
  simp only [chain, h2, Int.add_zero]

/-- What is known of the plans while the lines behind the break p are put in; D: the ends that are done. -/
def FInv (l : List Item) (w : Int) (s : List Pl) (p : Nat) (D : Nat → Prop) : Prop := s.length = l.length ∧ ∀ k, k < l.length →
  ((nth s k).is = true → ∃ bs, (nth s k).lines = mkLines l 0 bs ∧ chain l w 0 bs = some (nth s k).cost ∧ endOf 0 bs = k + 1) ∧
  (∀ bs d, chain l w 0 (bs ++ [k + 1]) = some d → (endOf 0 bs < p ∨ (endOf 0 bs = p ∧ D (k + 1))) → (nth s k).is = true ∧ ∀ cs, (nth s k).lines = mkLines l 0 cs → ¬ pref d (bs ++ [k + 1]) (nth s k).cost cs)

theorem FInv_step {l : List Item} {w : Int} {p : Nat} {s s0 : List Pl} {D : Nat → Prop} {x : Nat × Int × Int} (hs : FInv l w s p D) (h0 : FInv l w s0 p (fun _ => False)) (hp : p < l.length) (hq : p = 0 ∨ (nth s0 (p - 1)).is = true) (hx : x ∈ linesAt l w p) :
    FInv l w (bst l p (nth s0 (p - 1)) s x) p (fun b => D b ∨ b = x.1) := by
  obtain ⟨m1, m2, m3, m4, m5⟩ := mem_linesAt hx
  have hedge : edge l w p x.1 = some x.2.2 := by rw [edge, if_pos m1, m5]
  -- the way to p
  obtain ⟨ts, qc, ht1, ht2, ht3, ht4⟩ : ∃ ts qc, (if p = 0 then [] else (nth s0 (p - 1)).lines) = mkLines l 0 ts ∧ chain l w 0 ts = some qc ∧ endOf 0 ts = p ∧ (qc = if p = 0 then 0 else (nth s0 (p - 1)).cost) := by
    by_cases e : p = 0
    · subst e; exact ⟨[], 0, rfl, rfl, rfl, rfl⟩
    · have hi := hq.resolve_left e
      obtain ⟨bs, b1, b2, b3⟩ := (h0.2 (p - 1) (by omega)).1 hi
      exact ⟨bs, _, by rw [if_neg e]; exact b1, b2, by omega, by rw [if_neg e]⟩
  have hnl : (newPl l p (nth s0 (p - 1)) x).lines = mkLines l 0 (ts ++ [x.1]) := by
    rw [mkLines_append, ← ht1, ht3]
    simp only [newPl, m4]
  have hnc : (newPl l p (nth s0 (p - 1)) x).cost = qc + x.2.2 := by rw [newPl_cost, ht4]
  have hch : chain l w 0 (ts ++ [x.1]) = some (qc + x.2.2) := chain_snoc' ht2 (by rw [ht3]; exact hedge)
  have hnew : ∀ bs d, chain l w 0 (bs ++ [x.1]) = some d → endOf 0 bs = p → ¬ pref d (bs ++ [x.1]) (qc + x.2.2) (ts ++ [x.1]) := by
    intro bs d hc he hpf
    obtain ⟨c, e, h1, h2, rfl⟩ := chain_snoc hc
    rw [he, hedge] at h2
    simp only [Option.some.injEq] at h2
    subst h2
    have hpf := pref_snoc hpf
    by_cases e : p = 0
    · have hb : bs = [] := by
        by_cases hb : bs = []
        · exact hb
        · have := (endOf_ge h1).2 hb; omega
      have ht : ts = [] := by
        by_cases hb : ts = []
        · exact hb
        · have := (endOf_ge ht2).2 hb; omega
      subst hb; subst ht
      simp only [chain, Option.some.injEq] at h1 ht2
      subst h1; subst ht2
      exact pref_irrefl _ _ hpf
    · rcases List.eq_nil_or_concat bs with hb | ⟨bs0, b, hb⟩
      · subst hb; simp only [endOf] at he; omega
      · rw [List.concat_eq_append] at hb
        subst hb
        rw [endOf_append] at he
        simp only [endOf] at he
        subst he
        obtain ⟨c0, e0, k1, k2, _⟩ := chain_snoc h1
        have hlt := (edge_lt k2).1
        have e2 : b - 1 + 1 = b := by omega
        have := ((h0.2 (b - 1) (by omega)).2 bs0 c (by rw [e2]; exact h1) (.inl hlt)).2 ts (by rw [← ht1, if_neg e])
        rw [e2] at this
        rw [ht4, if_neg e] at hpf
        exact this hpf
  have hk1 : x.1 - 1 + 1 = x.1 := by omega
  have hlt : x.1 - 1 < s.length := by rw [hs.1]; omega
  have hold := hs.2 (x.1 - 1) (by omega)
  rw [hk1] at hold
  unfold bst
  split
  · rename_i hb
    refine ⟨by simp [hs.1], fun k hk => ?_⟩
    by_cases e : x.1 - 1 = k
    · subst e
      rw [nth_set_self hlt, hk1, hnl, hnc]
      refine ⟨fun _ => ⟨ts ++ [x.1], rfl, hch, by rw [endOf_append]; simp [endOf]⟩, fun bs d hc hor => ⟨rfl, fun cs hcs => ?_⟩⟩
      have hcs := mkLines_inj l 0 _ _ hcs
      subst hcs
      by_cases hD : endOf 0 bs = p
      · exact hnew bs d hc hD
      · have hor' : endOf 0 bs < p := by rcases hor with h | h; exact h; exact absurd h.1 hD
        obtain ⟨o1, o2⟩ := hold.2 bs d hc (.inl hor')
        obtain ⟨us, u1, u2, u3⟩ := hold.1 o1
        have hpf := (better_pref hnl u1 o1).1 hb
        rw [hnc] at hpf
        exact fun h => o2 us u1 (pref_trans h hpf)
    · rw [nth_set_ne e]
      have := hs.2 k hk
      refine ⟨this.1, fun bs d hc hor => this.2 bs d hc ?_⟩
      rcases hor with h | ⟨h, h' | h'⟩
      · exact .inl h
      · exact .inr ⟨h, h'⟩
      · omega
  · rename_i hb
    refine ⟨hs.1, fun k hk => ?_⟩
    by_cases e : x.1 - 1 = k
    · subst e
      rw [hk1]
      refine ⟨hold.1, fun bs d hc hor => ?_⟩
      have o1 : (nth s (x.1 - 1)).is = true := by
        by_cases h : (nth s (x.1 - 1)).is = true
        · exact h
        · exact absurd (by unfold betterS; rw [if_neg h]) hb
      refine ⟨o1, fun cs hcs => ?_⟩
      by_cases hD : endOf 0 bs = p
      · have h1 := hnew bs d hc hD
        have h2 : ¬ pref (qc + x.2.2) (ts ++ [x.1]) (nth s (x.1 - 1)).cost cs := fun h => hb ((better_pref hnl hcs o1).2 (by rw [hnc]; exact h))
        exact fun h => h1 (pref_trans_not h2 h)
      · have hor' : endOf 0 bs < p := by rcases hor with h | h; exact h; exact absurd h.1 hD
        exact (hold.2 bs d hc (.inl hor')).2 cs hcs
    · have := hs.2 k hk
      refine ⟨this.1, fun bs d hc hor => this.2 bs d hc ?_⟩
      rcases hor with h | ⟨h, h' | h'⟩
      · exact .inl h
      · exact .inr ⟨h, h'⟩
      · omega

end Go.Proofs.Ytcammfdljiingaa

/-
  The plans of the reference model are the best ways: the rounds put together.
-/
set_option linter.unusedSimpArgs false
set_option linter.unusedVariables false
set_option maxHeartbeats 8000000
namespace Go.Proofs.Ytcammfdljiingaa
open Go Go.Abs

theorem FInv.weaken {l : List Item} {w : Int} {s : List Pl} {p : Nat} {D E : Nat → Prop} (h : FInv l w s p D) (hi : ∀ b, E b → D b) : FInv l w s p E :=
  ⟨h.1, fun k hk => ⟨(h.2 k hk).1, fun bs d hc ho => (h.2 k hk).2 bs d hc (ho.imp _root_.id fun e => ⟨e.1, hi _ e.2⟩)⟩⟩

theorem FInv_fold {l : List Item} {w : Int} {p : Nat} {s0 : List Pl} (h0 : FInv l w s0 p (fun _ => False)) (hp : p < l.length) (hq : p = 0 ∨ (nth s0 (p - 1)).is = true) : ∀ (xs : List (Nat × Int × Int)) (s : List Pl) (D : Nat → Prop), FInv l w s p D → (∀ x ∈ xs, x ∈ linesAt l w p) →
    FInv l w (xs.foldl (bst l p (nth s0 (p - 1))) s) p (fun b => D b ∨ ∃ x ∈ xs, b = x.1)
  | [], s, D, hs, _ => hs.weaken (by rintro b (h | ⟨x, hx, _⟩); exact h; simp at hx)
  | x :: xs, s, D, hs, hm => by
    have := FInv_fold h0 hp hq xs _ _ (FInv_step hs h0 hp hq (hm x (by simp))) (fun y hy => hm y (by simp [hy]))
    refine this.weaken ?_
    rintro b (h | ⟨y, hy, e⟩)
    · exact .inl (.inl h)
    · rcases List.mem_cons.1 hy with rfl | hy
      · exact .inl (.inr e)
      · exact .inr ⟨y, hy, e⟩

theorem edge_mem {l : List Item} {w : Int} {p b : Nat} {e : Int} (h : edge l w p b = some e) : ∃ x ∈ linesAt l w p, b = x.1 := by
  unfold edge at h
  split at h
  · rename_i hl
    refine ⟨(b, natS l (skip l p) b, costN l w (skip l p) b), ?_, rfl⟩
    unfold linesAt linesOf
    rw [List.mem_filterMap]
    have h1 := hl.1
    have h2 := hl.2.1
    exact ⟨b, by rw [List.mem_range'_1]; omega, by rw [lineAt, if_pos hl]⟩
  · simp at h

theorem FInv_rnd {l : List Item} {w : Int} {p : Nat} {s : List Pl} (h : FInv l w s p (fun _ => False)) (hp : p < l.length) : FInv l w (rnd l w s p) (p + 1) (fun _ => False) := by
  unfold rnd
  split
  · rename_i hc
    refine ⟨h.1, fun k hk => ⟨(h.2 k hk).1, fun bs d hcn ho => ?_⟩⟩
    have hlt : endOf 0 bs < p + 1 := by rcases ho with ho | ho; exact ho; exact ho.2.elim
    by_cases e : endOf 0 bs = p
    · exfalso
      obtain ⟨c, f, h1, h2, _⟩ := chain_snoc hcn
      rcases List.eq_nil_or_concat bs with hb | ⟨bs0, b, hb⟩
      · subst hb; simp only [endOf] at e; omega
      · rw [List.concat_eq_append] at hb
        subst hb
        rw [endOf_append] at e
        simp only [endOf] at e
        subst e
        obtain ⟨c0, e0, k1, k2, _⟩ := chain_snoc h1
        have hl2 := (edge_lt k2).1
        have e2 : b - 1 + 1 = b := by omega
        exact hc.2 ((h.2 (b - 1) (by omega)).2 bs0 c (by rw [e2]; exact h1) (.inl hl2)).1
    · exact (h.2 k hk).2 bs d hcn (.inl (by omega))
  · rename_i hc
    have hq : p = 0 ∨ (nth s (p - 1)).is = true := by
      by_cases e : p = 0
      · exact .inl e
      · by_cases e2 : (nth s (p - 1)).is = true
        · exact .inr e2
        · exact (hc ⟨by omega, e2⟩).elim
    have hf := FInv_fold h hp hq (linesAt l w p) s _ h (fun _ h => h)
    refine ⟨hf.1, fun k hk => ⟨(hf.2 k hk).1, fun bs d hcn ho => ?_⟩⟩
    have hlt : endOf 0 bs < p + 1 := by rcases ho with ho | ho; exact ho; exact ho.2.elim
    by_cases e : endOf 0 bs = p
    · obtain ⟨c, f, h1, h2, _⟩ := chain_snoc hcn
      rw [e] at h2
      exact (hf.2 k hk).2 bs d hcn (.inr ⟨e, .inr (edge_mem h2)⟩)
    · exact (hf.2 k hk).2 bs d hcn (.inl (by omega))

theorem FInv_plans {l : List Item} {w : Int} : ∀ p, p ≤ l.length → FInv l w ((List.range p).foldl (rnd l w) (List.replicate l.length zeroPl)) p (fun _ => False)
  | 0, _ => by
    refine ⟨by simp, fun k hk => ?_⟩
    have : nth ((List.range 0).foldl (rnd l w) (List.replicate l.length zeroPl)) k = zeroPl := nth_replicate hk
    rw [this]
    refine ⟨fun h => by simp [zeroPl] at h, fun bs d hc ho => ?_⟩
    rcases ho with ho | ho
    · omega
    · exact ho.2.elim
  | p + 1, h => by
    rw [List.range_succ, List.foldl_append]
    exact FInv_rnd (FInv_plans p (by omega)) (by omega)

theorem chain_last {l : List Item} {w : Int} {bs : List Nat} {n : Nat} (he : endOf 0 bs = n) (hn : 0 < n) : ∃ bs0, bs = bs0 ++ [n] := by
  rcases List.eq_nil_or_concat bs with hb | ⟨bs0, b, hb⟩
  · subst hb; simp only [endOf] at he; omega
  · rw [List.concat_eq_append] at hb
    subst hb
    rw [endOf_append] at he
    simp only [endOf] at he
    subst he
    exact ⟨bs0, rfl⟩

theorem plans_is {l : List Item} {w : Int} {bs : List Nat} {c : Int} (hl : 0 < l.length) (h : chain l w 0 bs = some c) (he : endOf 0 bs = l.length) : (nth (plansS l w) (l.length - 1)).is = true ∧ ∀ cs, (nth (plansS l w) (l.length - 1)).lines = mkLines l 0 cs → ¬ pref c bs (nth (plansS l w) (l.length - 1)).cost cs := by
  have hF := FInv_plans (l := l) (w := w) l.length (Nat.le_refl _)
  obtain ⟨bs0, rfl⟩ := chain_last (l := l) (w := w) he hl
  have e2 : l.length - 1 + 1 = l.length := by omega
  have := (hF.2 (l.length - 1) (by omega)).2 bs0 c (by rw [e2]; exact h)
  rw [e2] at this
  refine this (.inl ?_)
  obtain ⟨c0, e0, k1, k2, _⟩ := chain_snoc h
  exact (edge_lt k2).1

theorem plans_best {l : List Item} {w : Int} (hl : 0 < l.length) (hi : (nth (plansS l w) (l.length - 1)).is = true) : ∃ bs, (nth (plansS l w) (l.length - 1)).lines = mkLines l 0 bs ∧ Best l w 0 l.length (nth (plansS l w) (l.length - 1)).cost bs := by
  have hF := FInv_plans (l := l) (w := w) l.length (Nat.le_refl _)
  obtain ⟨bs, h1, h2, h3⟩ := (hF.2 (l.length - 1) (by omega)).1 hi
  exact ⟨bs, h1, h2, by omega, fun d cs hc he => (plans_is hl hc he).2 bs h1⟩

end Go.Proofs.Ytcammfdljiingaa

/-
  The backward law: the rows of Break of the program hold the best ways to the end.
-/
set_option linter.unusedSimpArgs false
set_option linter.unusedVariables false
set_option maxHeartbeats 8000000
namespace Go.Proofs.Ytcammfdljiingaa
open Go Go.Abs

/-- The cost of lines from a start. -/
def chainA (l : List Item) (w : Int) : Nat → List Nat → Option Int
  | _, [] => some 0
  | a, b :: bs => if lineOk l w a b then (match chainA l w (skip l b) bs with | some d => some (costN l w a b + d) | none => none) else none
def fin (l : List Item) : Nat → List Nat → Prop
  | a, [] => a = l.length
  | _, b :: bs => fin l (skip l b) bs
def mkA (l : List Item) : Nat → List Nat → List Ln
  | _, [] => []
  | a, b :: bs => ⟨a, b, natS l a b⟩ :: mkA l (skip l b) bs
theorem chain_A {l : List Item} {w : Int} : ∀ (p : Nat) (bs : List Nat), chain l w p bs = chainA l w (skip l p) bs
  | p, [] => rfl
  | p, b :: bs => by
    unfold chain chainA edge
    rw [chain_A b bs]
    by_cases h : lineOk l w (skip l p) b
    · rw [if_pos h, if_pos h]
      cases chainA l w (skip l b) bs <;> rfl
    · rw [if_neg h, if_neg h]
theorem mk_A {l : List Item} : ∀ (p : Nat) (bs : List Nat), mkLines l p bs = mkA l (skip l p) bs
  | p, [] => rfl
  | p, b :: bs => by simp only [mkLines, mkA, mk_A b bs]

/-- One line is put into one row. -/
def rstep (N : Nat → Rs) (l : List Item) (a : Nat) (r : Rs) (x : Nat × Int × Int) : Rs :=
  let q := N (skip l x.1)
  let m : Rs := ⟨true, x.2.2 + q.cost, 1 + q.count, ⟨a, x.1, x.2.1⟩⟩
  if q.ok = true ∧ (¬ r.ok = true ∨ m.cost < r.cost ∨ (m.cost = r.cost ∧ m.count < r.count)) then m else r

theorem bst_fold {l : List Item} {a : Nat} {N : Nat → Rs} : ∀ (xs : List (Nat × Int × Int)) (R : List Rs), a < R.length → (∀ x ∈ xs, skip l x.1 ≠ a) → (∀ k, k ≠ a → nth R k = N k) →
    (∀ k, k ≠ a → nth (xs.foldl (bstep l a) R) k = N k) ∧ nth (xs.foldl (bstep l a) R) a = xs.foldl (rstep N l a) (nth R a)
  | [], R, _, _, h => ⟨h, rfl⟩
  | x :: xs, R, ha, hx, h => by
    have hq := h _ (hx x (by simp))
    have hs : nth (bstep l a R x) a = rstep N l a (nth R a) x := by
      unfold bstep rstep newRs
      simp only [hq]
      split
      · exact nth_set_self ha
      · rfl
    have hk : ∀ k, k ≠ a → nth (bstep l a R x) k = N k := fun k hk => by
      unfold bstep
      split
      · rw [nth_set_ne (fun e => hk e.symm)]; exact h k hk
      · exact h k hk
    have hl : a < (bstep l a R x).length := by
      unfold bstep
      split
      · simpa using ha
      · exact ha
    have ih := bst_fold (N := N) xs _ hl (fun y hy => hx y (by simp [hy])) hk
    rw [hs] at ih
    exact ih

theorem rfold_congr {l : List Item} {a : Nat} {N M : Nat → Rs} : ∀ (xs : List (Nat × Int × Int)) (r : Rs), (∀ x ∈ xs, N (skip l x.1) = M (skip l x.1)) → xs.foldl (rstep N l a) r = xs.foldl (rstep M l a) r
  | [], r, _ => rfl
  | x :: xs, r, h => by
    have : rstep N l a r x = rstep M l a r x := by unfold rstep; rw [h x (by simp)]
    rw [List.foldl_cons, List.foldl_cons, this]
    exact rfold_congr xs _ (fun y hy => h y (by simp [hy]))

theorem skip_of_line {l : List Item} {w : Int} {a : Nat} {x : Nat × Int × Int} (h : x ∈ linesOf l w a) : a < skip l x.1 := by
  have := (mem_linesOf h).1.1
  have := skip_ge (l := l) (p := x.1)
  omega

theorem brnd_rows {l : List Item} {w : Int} {a : Nat} {R : List Rs} (ha : a < R.length) : (∀ k, k ≠ a → nth (brnd l w R a) k = nth R k) ∧ nth (brnd l w R a) a = if starts l a then (linesOf l w a).foldl (rstep (nth R) l a) (nth R a) else nth R a := by
  unfold brnd
  split
  · exact bst_fold (N := nth R) _ _ ha (fun x hx => by have := skip_of_line hx; omega) (fun _ _ => rfl)
  · exact ⟨fun _ _ => rfl, rfl⟩

theorem best_len (l : List Item) (w : Int) : ∀ j, (bestS l w j).length = l.length + 1
  | 0 => by simp [bestS]
  | j + 1 => by
    rw [bestS, brnd]
    split
    · suffices h : ∀ (xs : List (Nat × Int × Int)) (R : List Rs), (xs.foldl (bstep l (l.length - (j + 1))) R).length = R.length by rw [h, best_len l w j]
      intro xs
      induction xs with
      | nil => exact fun R => rfl
      | cons x xs ih =>
        intro R
        rw [List.foldl_cons, ih]
        unfold bstep
        split <;> simp
    · exact best_len l w j
theorem best_keep {l : List Item} {w : Int} {j k : Nat} (hk : l.length - j ≤ k) : ∀ i, j + i ≤ l.length → nth (bestS l w (j + i)) k = nth (bestS l w j) k
  | 0, _ => rfl
  | i + 1, h => by
    rw [← Nat.add_assoc, bestS, (brnd_rows (by rw [best_len]; omega)).1 k (by omega)]
    exact best_keep hk i (by omega)

theorem best_row {l : List Item} {w : Int} {a : Nat} (hv : valid l) (hw : widthOk w) (ha : a < l.length) :
    nth (bestS l w l.length) a = if starts l a then (linesOf l w a).foldl (rstep (nth (bestS l w l.length)) l a) zeroRs else zeroRs := by
  obtain ⟨j, hj⟩ : ∃ j, l.length = j + 1 + a := ⟨l.length - a - 1, by omega⟩
  have hz := (RI_best hv hw j (by omega)).2.1 a (by omega)
  have hk : nth (bestS l w l.length) a = nth (bestS l w (j + 1)) a := by
    have := best_keep (l := l) (w := w) (j := j + 1) (k := a) (by omega) a (by omega)
    rw [← hj] at this; exact this
  have e : l.length - (j + 1) = a := by omega
  have hr := (brnd_rows (l := l) (w := w) (a := a) (R := bestS l w j) (by rw [best_len]; omega)).2
  rw [hz] at hr
  rw [hk, bestS, e, hr]
  split
  · refine rfold_congr _ _ fun x hx => ?_
    have := skip_of_line hx
    have h2 := best_keep (l := l) (w := w) (j := j) (k := skip l x.1) (by omega) (1 + a) (by omega)
    rw [show j + (1 + a) = l.length by omega] at h2
    exact h2.symm
  · rfl

end Go.Proofs.Ytcammfdljiingaa

/-
  The backward law: the induction.
-/
set_option linter.unusedSimpArgs false
set_option linter.unusedVariables false
set_option maxHeartbeats 8000000
namespace Go.Proofs.Ytcammfdljiingaa
open Go Go.Abs

/-- A row holds the best lines to the end, of those whose first end is in D. -/
def Opt (l : List Item) (w : Int) (c : Nat) (r : Rs) (D : Nat → Prop) (us : List Nat) : Prop :=
  chainA l w c us = some r.cost ∧ fin l c us ∧ (us.length : Int) = r.count ∧ (∀ b, us.head? = some b → D b ∧ r.f = ⟨c, b, natS l c b⟩) ∧
  ∀ vs d, chainA l w c vs = some d → fin l c vs → (∀ b, vs.head? = some b → D b) → ¬ pref d vs r.cost us
def St (l : List Item) (w : Int) (c : Nat) (r : Rs) (D : Nat → Prop) : Prop :=
  (r.ok = true → ∃ us, Opt l w c r D us) ∧ (¬ r.ok = true → ∀ vs d, chainA l w c vs = some d → fin l c vs → (∀ b, vs.head? = some b → D b) → False)

theorem pref_cons {c d e : Int} {us vs : List Nat} {b : Nat} : pref (e + c) (b :: us) (e + d) (b :: vs) ↔ pref c us d vs := by
  unfold pref
  simp only [List.length_cons, lexLt]
  constructor
  · rintro (h | ⟨h, h1 | ⟨h1, h2 | ⟨_, h2⟩⟩⟩)
    · exact .inl (by omega)
    · exact .inr ⟨by omega, .inl (by omega)⟩
    · omega
    · exact .inr ⟨by omega, .inr ⟨by omega, h2⟩⟩
  · rintro (h | ⟨h, h1 | ⟨h1, h2⟩⟩)
    · exact .inl (by omega)
    · exact .inr ⟨by omega, .inl (by omega)⟩
    · exact .inr ⟨by omega, .inr ⟨by omega, .inr (by simpa using h2)⟩⟩

theorem chainA_cons {l : List Item} {w : Int} {a b : Nat} {us : List Nat} {d : Int} (h : chainA l w a (b :: us) = some d) : lineOk l w a b ∧ ∃ c, chainA l w (skip l b) us = some c ∧ d = costN l w a b + c := by
  unfold chainA at h
  split at h
  · rename_i hl
    split at h
    · rename_i c hc
      simp only [Option.some.injEq] at h
      exact ⟨hl, c, hc, h.symm⟩
    · simp at h
  · simp at h
theorem chainA_cons' {l : List Item} {w : Int} {a b : Nat} {us : List Nat} {c : Int} (hl : lineOk l w a b) (h : chainA l w (skip l b) us = some c) : chainA l w a (b :: us) = some (costN l w a b + c) := by
  rw [chainA, if_pos hl, h]

theorem St_step {l : List Item} {w : Int} {a b : Nat} {r : Rs} {D : Nat → Prop} {N : Nat → Rs} (hl : lineOk l w a b) (ha : a < l.length) (hN : St l w (skip l b) (N (skip l b)) (fun _ => True)) (hD : ∀ c, D c → c < b) (h : St l w a r D) :
    St l w a (rstep N l a r (b, natS l a b, costN l w a b)) (fun c => D c ∨ c = b) := by
  have hne : ∀ vs, fin l a vs → ∃ c vs', vs = c :: vs' := fun vs hf => by
    cases vs with
    | nil => simp only [fin] at hf; omega
    | cons c vs' => exact ⟨c, vs', rfl⟩
  unfold rstep
  simp only
  split
  · rename_i hc
    obtain ⟨hq, hc⟩ := hc
    obtain ⟨us, o1, o2, o3, o4, o5⟩ := hN.1 hq
    refine ⟨fun _ => ⟨b :: us, chainA_cons' hl o1, o2, by simp only [List.length_cons]; omega, ?_, ?_⟩, fun h => (h rfl).elim⟩
    · intro c e
      simp only [List.head?_cons, Option.some.injEq] at e
      subst e
      exact ⟨.inr rfl, rfl⟩
    · intro vs d h1 h2 h3 hp
      obtain ⟨c, vs', rfl⟩ := hne vs h2
      rcases h3 c rfl with h3 | h3
      · by_cases hr : r.ok = true
        · obtain ⟨ts, t1, t2, t3, t4, t5⟩ := h.1 hr
          have hm : pref (costN l w a b + (N (skip l b)).cost) (b :: us) r.cost ts := by
            rcases hc with hc | hc | hc
            · exact (hc hr).elim
            · exact .inl hc
            · exact .inr ⟨hc.1, .inl (by simp only [List.length_cons]; omega)⟩
          refine t5 (c :: vs') d h1 h2 (fun e he => ?_) (pref_trans hp hm)
          simp only [List.head?_cons, Option.some.injEq] at he
          subst he; exact h3
        · refine h.2 hr (c :: vs') d h1 h2 fun e he => ?_
          simp only [List.head?_cons, Option.some.injEq] at he
          subst he; exact h3
      · subst h3
        obtain ⟨_, e, he, rfl⟩ := chainA_cons h1
        exact o5 vs' e he h2 (fun _ _ => trivial) (pref_cons.1 hp)
  · rename_i hc
    refine ⟨fun hr => ?_, fun hr vs d h1 h2 h3 => ?_⟩
    · obtain ⟨ts, t1, t2, t3, t4, t5⟩ := h.1 hr
      refine ⟨ts, t1, t2, t3, fun c e => ⟨.inl (t4 c e).1, (t4 c e).2⟩, fun vs d h1 h2 h3 hp => ?_⟩
      obtain ⟨c, vs', rfl⟩ := hne vs h2
      rcases h3 c rfl with h3 | h3
      · refine t5 (c :: vs') d h1 h2 (fun e he => ?_) hp
        simp only [List.head?_cons, Option.some.injEq] at he
        subst he; exact h3
      · subst h3
        obtain ⟨_, e, he, rfl⟩ := chainA_cons h1
        by_cases hq : (N (skip l c)).ok = true
        · obtain ⟨us, o1, o2, o3, o4, o5⟩ := hN.1 hq
          have hm : ¬ pref (costN l w a c + (N (skip l c)).cost) (c :: us) r.cost ts := by
            rintro (h' | ⟨h', h4 | ⟨h4, h5⟩⟩)
            · exact hc ⟨hq, .inr (.inl h')⟩
            · simp only [List.length_cons] at h4
              exact hc ⟨hq, .inr (.inr ⟨h', by omega⟩)⟩
            · obtain ⟨c0, ts', rfl⟩ := hne ts t2
              have := hD c0 (t4 c0 rfl).1
              rcases h5 with h5 | ⟨h5, _⟩ <;> omega
          exact o5 vs' e he h2 (fun _ _ => trivial) (pref_cons.1 (pref_trans_not hm hp))
        · exact hN.2 hq vs' e he h2 (fun _ _ => trivial)
    · obtain ⟨c, vs', rfl⟩ := hne vs h2
      rcases h3 c rfl with h3 | h3
      · refine h.2 hr (c :: vs') d h1 h2 fun e he => ?_
        simp only [List.head?_cons, Option.some.injEq] at he
        subst he; exact h3
      · subst h3
        obtain ⟨_, e, he, rfl⟩ := chainA_cons h1
        by_cases hq : (N (skip l c)).ok = true
        · exact hc ⟨hq, .inl hr⟩
        · exact hN.2 hq vs' e he h2 (fun _ _ => trivial)

end Go.Proofs.Ytcammfdljiingaa

/-
  The backward law: the induction put together; Break of the program answers as that of the reference model.
-/
set_option linter.unusedSimpArgs false
set_option linter.unusedVariables false
set_option maxHeartbeats 8000000
namespace Go.Proofs.Ytcammfdljiingaa
open Go Go.Abs

theorem lines_asc {l : List Item} {w : Int} {a : Nat} : ∀ (k s : Nat), List.Pairwise (fun x y : Nat × Int × Int => x.1 < y.1) ((List.range' s k).filterMap (lineAt l w a)) ∧ ∀ x ∈ (List.range' s k).filterMap (lineAt l w a), s ≤ x.1
  | 0, s => ⟨by simp, by simp⟩
  | k + 1, s => by
    have ih := lines_asc (l := l) (w := w) (a := a) k (s + 1)
    have hw : ∀ x ∈ (List.range' (s + 1) k).filterMap (lineAt l w a), s ≤ x.1 := fun x hx => by have := ih.2 x hx; omega
    rw [List.range'_succ, List.filterMap_cons]
    unfold lineAt at ih hw ⊢
    by_cases h : lineOk l w a s
    · simp only [if_pos h]
      refine ⟨List.pairwise_cons.2 ⟨fun x hx => ?_, ih.1⟩, fun x hx => ?_⟩
      · have := ih.2 x hx; simp only; omega
      · rcases List.mem_cons.1 hx with rfl | hx
        · exact Nat.le_refl _
        · exact hw x hx
    · simp only [if_neg h]
      exact ⟨ih.1, hw⟩

theorem St.weaken {l : List Item} {w : Int} {a : Nat} {r : Rs} {D E : Nat → Prop} (h : St l w a r D) (h1 : ∀ b, lineOk l w a b → (D b ↔ E b)) : St l w a r E := by
  have hv : ∀ vs d, chainA l w a vs = some d → ((∀ b, vs.head? = some b → D b) ↔ ∀ b, vs.head? = some b → E b) := by
    intro vs d hc
    cases vs with
    | nil => simp
    | cons b vs =>
      have := h1 b (chainA_cons hc).1
      simp [this]
  refine ⟨fun hr => ?_, fun hr vs d hc hf hE => h.2 hr vs d hc hf ((hv vs d hc).2 hE)⟩
  obtain ⟨us, o1, o2, o3, o4, o5⟩ := h.1 hr
  refine ⟨us, o1, o2, o3, fun b hb => ?_, fun vs d hc hf hE => o5 vs d hc hf ((hv vs d hc).2 hE)⟩
  exact ⟨(hv us _ o1).1 (fun b hb => (o4 b hb).1) b hb, (o4 b hb).2⟩

theorem St_fold {l : List Item} {w : Int} {a : Nat} {N : Nat → Rs} (ha : a < l.length) : ∀ (xs : List (Nat × Int × Int)) (r : Rs) (D : Nat → Prop), List.Pairwise (fun x y : Nat × Int × Int => x.1 < y.1) xs → (∀ x ∈ xs, x ∈ linesOf l w a) →
    (∀ x ∈ xs, St l w (skip l x.1) (N (skip l x.1)) (fun _ => True)) → (∀ x ∈ xs, ∀ c, D c → c < x.1) → St l w a r D → St l w a (xs.foldl (rstep N l a) r) (fun c => D c ∨ ∃ x ∈ xs, c = x.1)
  | [], r, D, _, _, _, _, h => h.weaken fun b _ => by simp
  | x :: xs, r, D, hp, hm, hN, hD, h => by
    obtain ⟨m1, m2, m3⟩ := mem_linesOf (hm x (by simp))
    have e : x = (x.1, natS l a x.1, costN l w a x.1) := by rw [← m2, ← m3]
    have hs := St_step m1 ha (hN x (by simp)) (hD x (by simp)) h
    rw [← e] at hs
    rw [List.pairwise_cons] at hp
    have := St_fold ha xs _ _ hp.2 (fun y hy => hm y (by simp [hy])) (fun y hy => hN y (by simp [hy])) (fun y hy c hc => by
      rcases hc with hc | hc
      · exact hD y (by simp [hy]) c hc
      · subst hc; exact hp.1 y hy) hs
    refine this.weaken fun b _ => ?_
    simp only [List.mem_cons, exists_eq_or_imp]
    exact ⟨fun h => h.elim (fun h => h.elim .inl (fun h => .inr (.inl h))) (fun h => .inr (.inr h)), fun h => h.elim (fun h => .inl (.inl h)) (fun h => h.elim (fun h => .inl (.inr h)) .inr)⟩

theorem line_mem {l : List Item} {w : Int} {a b : Nat} (h : lineOk l w a b) : (b, natS l a b, costN l w a b) ∈ linesOf l w a := by
  unfold linesOf
  rw [List.mem_filterMap]
  have h1 := h.1
  have h2 := h.2.1
  exact ⟨b, by rw [List.mem_range'_1]; omega, by rw [lineAt, if_pos h]⟩

theorem best_all {l : List Item} {w : Int} (hv : valid l) (hw : widthOk w) : ∀ (k a : Nat), a + k = l.length → St l w a (nth (bestS l w l.length) a) (fun _ => True) := by
  intro k
  induction k using Nat.strongRecOn with
  | ind k ih =>
  intro a hak
  by_cases ha : a < l.length
  · rw [best_row hv hw ha]
    have hz : St l w a zeroRs (fun _ => False) := by
      refine ⟨fun h => absurd h (by simp [zeroRs]), fun _ vs d hc hf hD => ?_⟩
      cases vs with
      | nil => simp only [fin] at hf; omega
      | cons b vs => exact hD b rfl
    split
    · rename_i hs
      have asc := lines_asc (l := l) (w := w) (a := a) (l.length - a) (a + 1)
      refine (St_fold (N := nth (bestS l w l.length)) ha (linesOf l w a) zeroRs _ asc.1 (fun _ h => h) (fun x hx => ?_) (fun _ _ c hc => hc.elim) hz).weaken (fun b hb => ?_)
      · have h1 := skip_of_line hx
        have h2 := skip_le (l := l) (p := x.1) (mem_linesOf hx).1.2.1
        exact ih (l.length - skip l x.1) (by omega) (skip l x.1) (by omega)
      · exact ⟨fun _ => trivial, fun _ => .inr ⟨_, line_mem hb, rfl⟩⟩
    · rename_i hs
      exact hz.weaken fun b hb => absurd hb.2.2.1 hs
  · have e : a = l.length := by omega
    subst e
    have hk := best_keep (l := l) (w := w) (j := 0) (k := l.length) (by omega) l.length (by omega)
    rw [Nat.zero_add] at hk
    rw [hk, bestS, nth_set_self (by simp)]
    have hnil : ∀ vs d, chainA l w l.length vs = some d → vs = [] := by
      intro vs d hc
      cases vs with
      | nil => rfl
      | cons b vs =>
        have := (chainA_cons hc).1
        have h1 := this.1
        have h2 := this.2.1
        omega
    refine ⟨fun _ => ⟨[], rfl, rfl, rfl, fun b hb => by simp at hb, fun vs d hc _ _ hp => ?_⟩, fun h => absurd rfl h⟩
    have := hnil vs d hc
    subst this
    simp only [chainA, Option.some.injEq] at hc
    subst hc
    exact pref_irrefl _ _ hp

/-- The lines that the rows tell are those of the best ends. -/
theorem way_mk {l : List Item} {w : Int} (hv : valid l) (hw : widthOk w) {a : Nat} {bs : List Ln} (hb : Way l (bestS l w l.length) a bs) :
    ∀ us, Opt l w a (nth (bestS l w l.length) a) (fun _ => True) us → bs = mkA l a us := by
  induction hb with
  | nil =>
    intro us ho
    cases us with
    | nil => rfl
    | cons b us =>
      have := (chainA_cons ho.1).1
      have h1 := this.1
      have h2 := this.2.1
      omega
  | @cons a b n bs h1 h2 h3 h4 h5 ih =>
    intro us ho
    obtain ⟨o1, o2, o3, o4, o5⟩ := ho
    cases us with
    | nil => simp only [fin] at o2; omega
    | cons c us =>
      have hf := (o4 c rfl).2
      rw [h4] at hf
      simp only [Ln.mk.injEq] at hf
      obtain ⟨_, hbc, hn⟩ := hf
      have hbc : b = c := by omega
      subst hbc
      subst hn
      obtain ⟨hl, e, he, hr⟩ := chainA_cons o1
      have hsl := skip_le (l := l) (p := b) h3
      have hst := best_all hv hw (l.length - skip l b) (skip l b) (by omega)
      have hok : (nth (bestS l w l.length) (skip l b)).ok = true := by
        by_cases h : (nth (bestS l w l.length) (skip l b)).ok = true
        · exact h
        · exact (hst.2 h us e he o2 (fun _ _ => trivial)).elim
      obtain ⟨ts, t1, t2, t3, t4, t5⟩ := hst.1 hok
      have n1 := t5 us e he o2 (fun _ _ => trivial)
      have n2 : ¬ pref (nth (bestS l w l.length) (skip l b)).cost ts e us := fun h => by
        refine o5 (b :: ts) _ (chainA_cons' hl t1) t2 (fun _ _ => trivial) ?_
        rw [hr]
        exact pref_cons.2 h
      have heq := (pref_total n1 n2).2
      subst heq
      rw [mkA, ih us ⟨t1, t2, t3, t4, t5⟩]

theorem skip_full {l : List Item} (hv : valid l) {p : Nat} (hp : p ≤ l.length) : skip l p = l.length ↔ p = l.length := by
  constructor
  · intro h
    by_cases e : p = l.length
    · exact e
    · have h1 := hv.1
      have := skip_before (l := l) (p := p) (j := l.length - 1) (by omega) (by omega)
      have := hv.2.2.1
      omega
  · rintro rfl
    exact skip_end (by omega)

theorem fin_end {l : List Item} {w : Int} (hv : valid l) : ∀ (p : Nat) (bs : List Nat) (c : Int), p ≤ l.length → chain l w p bs = some c → (fin l (skip l p) bs ↔ endOf p bs = l.length)
  | p, [], c, hp, _ => by simp only [fin, endOf]; exact skip_full hv hp
  | p, b :: bs, c, hp, h => by
    simp only [fin, endOf]
    unfold chain at h
    split at h
    · rename_i x y h1 h2
      exact fin_end hv b bs y (edge_lt h1).2 h2
    · simp at h

/-- Break of the program and that of the reference model find the same. -/
theorem break_ok {l : List Item} {w : Int} (hv : valid l) (hw : widthOk w) : ((nth (bestS l w l.length) (skip l 0)).ok = true ↔ (nth (plansS l w) (l.length - 1)).is = true) ∧
    ((nth (plansS l w) (l.length - 1)).is = true → ∃ us, Best l w 0 l.length (nth (plansS l w) (l.length - 1)).cost us ∧ (nth (plansS l w) (l.length - 1)).lines = mkLines l 0 us ∧ (nth (bestS l w l.length) (skip l 0)).cost = (nth (plansS l w) (l.length - 1)).cost ∧
      ∀ bs, Way l (bestS l w l.length) (skip l 0) bs → bs = mkLines l 0 us) := by
  have hl := hv.1
  have hs := skip_le (l := l) (p := 0) (by omega)
  have hst := best_all hv hw (l.length - skip l 0) (skip l 0) (by omega)
  have hok : (nth (bestS l w l.length) (skip l 0)).ok = true → ∃ us, Opt l w (skip l 0) (nth (bestS l w l.length) (skip l 0)) (fun _ => True) us ∧ Best l w 0 l.length (nth (bestS l w l.length) (skip l 0)).cost us := fun h => by
    obtain ⟨us, o1, o2, o3, o4, o5⟩ := hst.1 h
    have hc : chain l w 0 us = some (nth (bestS l w l.length) (skip l 0)).cost := by rw [chain_A]; exact o1
    refine ⟨us, ⟨o1, o2, o3, o4, o5⟩, hc, (fin_end hv 0 us _ (by omega) hc).1 o2, fun d cs h1 h2 => ?_⟩
    exact o5 cs d (by rw [← chain_A]; exact h1) ((fin_end hv 0 cs d (by omega) h1).2 h2) (fun _ _ => trivial)
  have hiff : (nth (bestS l w l.length) (skip l 0)).ok = true ↔ (nth (plansS l w) (l.length - 1)).is = true := by
    constructor
    · intro h
      obtain ⟨us, _, hb⟩ := hok h
      exact (plans_is hl hb.1 hb.2.1).1
    · intro h
      obtain ⟨bs, _, hb⟩ := plans_best hl h
      by_cases h2 : (nth (bestS l w l.length) (skip l 0)).ok = true
      · exact h2
      · exact (hst.2 h2 bs _ (by rw [← chain_A]; exact hb.1) ((fin_end hv 0 bs _ (by omega) hb.1).2 hb.2.1) (fun _ _ => trivial)).elim
  refine ⟨hiff, fun h => ?_⟩
  obtain ⟨bs, e, hb⟩ := plans_best hl h
  obtain ⟨us, ho, hb2⟩ := hok (hiff.2 h)
  obtain ⟨hc, rfl⟩ := hb.unique hb2
  refine ⟨bs, hb, e, hc.symm, fun xs hx => ?_⟩
  rw [way_mk hv hw hx bs ho, mk_A]

end Go.Proofs.Ytcammfdljiingaa

/-
  The law of Break and Duals, on the abstract machine.
-/
set_option linter.unusedSimpArgs false
set_option linter.unusedVariables false
set_option maxHeartbeats 8000000
namespace Go.Proofs.Ytcammfdljiingaa
open Go Go.Abs

/-- What Break answers. -/
structure BrkA where
  ls : List Ln
  n : Int
  e : Int
open Classical in
noncomputable def brkS (l : List Item) (w : Int) : BrkA :=
  if widthOk w ∧ valid l then (if (nth (plansS l w) (l.length - 1)).is = true then ⟨(nth (plansS l w) (l.length - 1)).lines, (nth (plansS l w) (l.length - 1)).cost, 0⟩ else ⟨[], 0, 18⟩) else ⟨[], 0, 1⟩

theorem way_ex {l : List Item} {w : Int} {t : Tok} (ht : Pt t) (hl : l.length ≤ 512) : ∃ tk, Pt tk ∧ (tk = .nil ↔ (brkS l w).ls = []) ∧ PV F 13 [.sl (items l) t, .int .i64 w] = some (.tup [.sl ((brkS l w).ls.map Ln.toA) tk, .int .i64 (brkS l w).n, .int .i64 (brkS l w).e]) := by
  obtain ⟨r, h1, h2⟩ := break_v (w := w) ht hl
  unfold breakP at h2
  unfold brkS
  by_cases hr : widthOk w ∧ valid l
  · rw [if_pos hr] at h2 ⊢
    obtain ⟨hiff, hb⟩ := break_ok hr.2 hr.1
    by_cases hi : (nth (plansS l w) (l.length - 1)).is = true
    · rw [if_pos (hiff.2 hi)] at h2
      rw [if_pos hi]
      obtain ⟨bs, tk, hp, hn, hw, rfl⟩ := h2
      obtain ⟨us, _, e1, e2, e3⟩ := hb hi
      have e4 := e3 bs hw
      refine ⟨tk, hp, by rw [hn, e1, ← e4], ?_⟩
      simp only [e1, ← e4, ← e2]
      exact h1
    · rw [if_neg (fun h => hi (hiff.1 h))] at h2
      rw [if_neg hi]
      exact ⟨.nil, .inr rfl, by simp, by rw [h1, h2]; rfl⟩
  · rw [if_neg hr] at h2 ⊢
    exact ⟨.nil, .inr rfl, by simp, by rw [h1, h2]; rfl⟩

theorem ref_ex {l : List Item} {w : Int} {t : Tok} (ht : Pt t) (hl : l.length ≤ 512) : ∃ tk, Pt tk ∧ PV F 14 [.sl (items l) t, .int .i64 w] = some (.tup [.sl ((brkS l w).ls.map Ln.toA) tk, .int .i64 (brkS l w).n, .int .i64 (brkS l w).e]) := by
  obtain ⟨tk, hp, h1⟩ := refBreak_v (l := l) (w := w) ht (by omega)
  unfold brkS
  by_cases hr : widthOk w ∧ valid l
  · rw [if_pos hr] at h1 ⊢
    by_cases hi : (nth (plansS l w) (l.length - 1)).is = true
    · rw [if_pos hi] at h1 ⊢
      exact ⟨tk, hp, h1⟩
    · rw [if_neg hi] at h1 ⊢
      exact ⟨.nil, .inr rfl, h1⟩
  · rw [if_neg hr] at h1 ⊢
    exact ⟨.nil, .inr rfl, h1⟩

theorem brk_len {l : List Item} {w : Int} (hl : l.length ≤ 512) : (brkS l w).ls.length ≤ 1000 := by
  unfold brkS
  by_cases hr : widthOk w ∧ valid l
  · rw [if_pos hr]
    have := (plans_bnd (w := w) hr.2 hr.1 (l.length - 1)).2.2
    split <;> simp only
    · omega
    · simp
  · rw [if_neg hr]; simp

open Classical in
noncomputable def dualsX (l : List Item) (w : Int) : List Int := if widthOk w ∧ valid l then rdualsS l w else []
open Classical in
theorem duals_ex {l : List Item} {w : Int} {t : Tok} (ht : Pt t) (hl : l.length ≤ 200) : ∃ tk, Pt tk ∧ PV F 17 [.sl (items l) t, .int .i64 w] = some (.sl ((dualsX l w).map (.int .i64)) tk) ∧ PV F 18 [.sl (items l) t, .int .i64 w] = some (.sl ((dualsX l w).map (.int .i64)) tk) := by
  have h1 := duals_v (w := w) ht hl
  have h2 := refDuals_v (w := w) ht (by omega : l.length < 100000)
  unfold dualsX
  by_cases hr : widthOk w ∧ valid l
  · rw [if_pos hr] at h1 h2 ⊢
    rw [duals_eq hr.2 hr.1] at h1
    exact ⟨.none, .inl rfl, h1, h2⟩
  · rw [if_neg hr] at h1 h2 ⊢
    exact ⟨.nil, .inr rfl, h1, h2⟩

theorem dualsX_len {l : List Item} {w : Int} (hl : l.length ≤ 200) : (dualsX l w).length ≤ 200 := by
  unfold dualsX
  split
  · rw [rdualsS, List.length_map, plansS_len]; exact hl
  · simp

set_option maxRecDepth 20000 in
theorem breaks_run {l : List Int} {tk : Tok} {a b c d : Int} (htk : Pt tk) (hl : ∀ x ∈ l, i64 x) (ha : i64 a) (hb : i64 b) (hc : i64 c) (hd : i64 d) :
    ∃ h', Gives F 3 [.sl (l.map (.int .i64)) tk, .int .i64 a, .int .i64 b, .int .i64 c, .int .i64 d] Heap.empty (.bool true) h' := by
  suffices hs : CV F 3 [.sl (l.map (.int .i64)) tk, .int .i64 a, .int .i64 b, .int .i64 c, .int .i64 d] Heap.empty (fun r _ => r = .bool true) by
    obtain ⟨r, h', g, rfl⟩ := hs; exact ⟨h', g⟩
  obtain ⟨li, e1, v1, s1, n1⟩ := items_v (t := tk) hl htk
  obtain ⟨lb, e2, s2, n2⟩ := spoilt_v (t := .none) (a := a) (h := b) (b := c) (.inl rfl) s1 v1.1 n1 ha hb hc
  have B1 := around_bound d (m := 16) (by omega)
  have hq16 : i64 (d.tdiv 16) := by
    obtain ⟨d1, d2⟩ := hd
    unfold i64
    rcases Int.le_total 0 d with h | h
    · rw [Int.tdiv_eq_ediv_of_nonneg h]; omega
    · have e : d.tdiv 16 = -((-d).tdiv 16) := by rw [Int.neg_tdiv]; omega
      rw [e, Int.tdiv_eq_ediv_of_nonneg (by omega)]; omega
  have B2 := around_bound (d.tdiv 16) (m := 40) (by omega)
  have hj := around_v (n := d.tdiv 16) (m := 40) hq16 (by omega)
  have hj1 := around_v (n := d) (m := 16) hd (by omega)
  obtain ⟨q1, q2⟩ := hq16
  obtain ⟨d1, d2⟩ := hd
  generalize aroundS (d.tdiv 16) 40 = j2 at B2 hj
  generalize aroundS d 16 = j1 at B1 hj1
  -- what both answer
  have both : ∀ (lx : List Item), lx.length ≤ 100 → ∀ w, ∃ (ls : List Ln) (n e : Int) (t1 t2 : Tok) (ds : List Int) (t3 : Tok), Pt t1 ∧ Pt t2 ∧ Pt t3 ∧ ls.length < 1000000 ∧ ds.length < 1000000 ∧
      PV F 13 [.sl (items lx) .none, .int .i64 w] = some (.tup [.sl (ls.map Ln.toA) t1, .int .i64 n, .int .i64 e]) ∧ PV F 14 [.sl (items lx) .none, .int .i64 w] = some (.tup [.sl (ls.map Ln.toA) t2, .int .i64 n, .int .i64 e]) ∧
      PV F 17 [.sl (items lx) .none, .int .i64 w] = some (.sl (ds.map (.int .i64)) t3) ∧ PV F 18 [.sl (items lx) .none, .int .i64 w] = some (.sl (ds.map (.int .i64)) t3) := by
    intro lx hx w
    obtain ⟨t1, p1, _, k1⟩ := way_ex (w := w) (l := lx) (t := .none) (.inl rfl) (by omega)
    obtain ⟨t2, p2, k2⟩ := ref_ex (w := w) (l := lx) (t := .none) (.inl rfl) (by omega)
    obtain ⟨t3, p3, k3, k4⟩ := duals_ex (w := w) (l := lx) (t := .none) (.inl rfl) (by omega)
    have := brk_len (l := lx) (w := w) (by omega)
    have := dualsX_len (l := lx) (w := w) (by omega)
    exact ⟨_, _, _, t1, t2, _, t3, p1, p2, p3, by omega, by omega, k1, k2, k3, k4⟩
  refine CV_wp (fn := c3) rfl ?_
  dsimp only [c3]
  -- the loop, from whichever second list
  obtain ⟨L, hL⟩ : ∃ L : List Int, L = [1 + j1, 1 + j2, d] := ⟨_, rfl⟩
  have hlen : L.length = 3 := by rw [hL]; rfl
  try simp (maxSteps := 4000000) (disch := first | assumption | omega | (simp only [push_next, put_next, empty_next, List.length_cons, List.length_nil] <;> omega) | exact _root_.id rfl | exact _root_.id (fun _ => rfl) | fail) only [↓pre, post, Int.reduceEq, Int.reduceLT, Int.reduceLE, Int.reduceAdd, Int.reduceSub, Int.reduceMul, Int.reduceNeg, Nat.reduceLT, Nat.reduceSub, Nat.reduceMul, Nat.reduceAdd, Nat.reduceLeDiff, reduceIte, reduceCtorEq, Nat.reduceEqDiff, e1, e2, hj, hj1]
  repeat' (first
    | (refine ifP_pos (by first | assumption | omega) ?_ <;> try simp (maxSteps := 4000000) (disch := first | assumption | omega | (simp only [push_next, put_next, empty_next, List.length_cons, List.length_nil] <;> omega) | exact _root_.id rfl | exact _root_.id (fun _ => rfl) | fail) only [↓pre, post, Int.reduceEq, Int.reduceLT, Int.reduceLE, Int.reduceAdd, Int.reduceSub, Int.reduceMul, Int.reduceNeg, Nat.reduceLT, Nat.reduceSub, Nat.reduceMul, Nat.reduceAdd, Nat.reduceLeDiff, reduceIte, reduceCtorEq, Nat.reduceEqDiff, e1, e2, hj, hj1])
    | (refine ifP_neg (by first | assumption | omega) ?_ <;> try simp (maxSteps := 4000000) (disch := first | assumption | omega | (simp only [push_next, put_next, empty_next, List.length_cons, List.length_nil] <;> omega) | exact _root_.id rfl | exact _root_.id (fun _ => rfl) | fail) only [↓pre, post, Int.reduceEq, Int.reduceLT, Int.reduceLE, Int.reduceAdd, Int.reduceSub, Int.reduceMul, Int.reduceNeg, Nat.reduceLT, Nat.reduceSub, Nat.reduceMul, Nat.reduceAdd, Nat.reduceLeDiff, reduceIte, reduceCtorEq, Nat.reduceEqDiff, e1, e2, hj, hj1])
    | (refine ifP_intro (fun hyp => ?_) (fun hyp => ?_) <;> first | simp (maxSteps := 4000000) (disch := first | assumption | omega | (simp only [push_next, put_next, empty_next, List.length_cons, List.length_nil] <;> omega) | exact _root_.id rfl | exact _root_.id (fun _ => rfl) | fail) only [↓pre, post, Int.reduceEq, Int.reduceLT, Int.reduceLE, Int.reduceAdd, Int.reduceSub, Int.reduceMul, Int.reduceNeg, Nat.reduceLT, Nat.reduceSub, Nat.reduceMul, Nat.reduceAdd, Nat.reduceLeDiff, reduceIte, reduceCtorEq, Nat.reduceEqDiff, e1, e2, hj, hj1, eq_false hyp] | simp (maxSteps := 4000000) (disch := first | assumption | omega | (simp only [push_next, put_next, empty_next, List.length_cons, List.length_nil] <;> omega) | exact _root_.id rfl | exact _root_.id (fun _ => rfl) | fail) only [↓pre, post, Int.reduceEq, Int.reduceLT, Int.reduceLE, Int.reduceAdd, Int.reduceSub, Int.reduceMul, Int.reduceNeg, Nat.reduceLT, Nat.reduceSub, Nat.reduceMul, Nat.reduceAdd, Nat.reduceLeDiff, reduceIte, reduceCtorEq, Nat.reduceEqDiff, e1, e2, hj, hj1, eq_true hyp] | skip))
  · obtain ⟨LX, hLX⟩ : ∃ LX, LX = li := ⟨_, rfl⟩
    have hLX0 : LX = LX := rfl
    have hLXl : LX.length ≤ 100 := by rw [hLX]; omega
    clear hLX0
    refine w_loop (fun m vs h0 => ∃ (i : Nat) (x10 x11 x12 x13 x14 x15 x16 x17 x18 x19 : AVal), m = 3 - i ∧ i ≤ 3 ∧
      vs = [.sl (l.map (.int .i64)) tk, .int .i64 a, .int .i64 b, .int .i64 c, .int .i64 d, .bool false, .sl (items li) .none, .sl (items LX) .none, .sl (L.map (.int .i64)) .none, .int .i64 i, x10, x11, x12, x13, x14, x15, x16, x17, x18, x19]) 3
      ⟨0, _, _, _, _, _, _, _, _, _, _, rfl, by omega, by rw [hL, hLX]; rfl⟩ ?_
    rintro m vs h0 ⟨i, x10, x11, x12, x13, x14, x15, x16, x17, x18, x19, rfl, hi, rfl⟩
    obtain ⟨ls, n, e, t1, t2, ds, t3, p1, p2, p3, l1, l2, k1, k2, k3, k4⟩ := both li (by omega) (nth L i)
    obtain ⟨ls', n', e', t1', t2', ds', t3', p1', p2', p3', l1', l2', k1', k2', k3', k4'⟩ := both LX (by omega) (nth L i)
    try simp (maxSteps := 4000000) (disch := first | assumption | omega | (simp only [push_next, put_next, empty_next, List.length_cons, List.length_nil] <;> omega) | exact _root_.id rfl | exact _root_.id (fun _ => rfl) | fail) only [↓pre, post, Int.reduceEq, Int.reduceLT, Int.reduceLE, Int.reduceAdd, Int.reduceSub, Int.reduceMul, Int.reduceNeg, Nat.reduceLT, Nat.reduceSub, Nat.reduceMul, Nat.reduceAdd, Nat.reduceLeDiff, reduceIte, reduceCtorEq, Nat.reduceEqDiff, hlen, lives_v, k1, k2, k3, k4, k1', k2', k3', k4', strip_pt p1, strip_pt p2, strip_pt p3, strip_pt p1', strip_pt p2', strip_pt p3', sameLines_v l1, sameLines_v l1', sameInts_v l2, sameInts_v l2', decide_true]
    repeat' (first
      | (refine ifP_pos (by first | assumption | omega) ?_ <;> try simp (maxSteps := 4000000) (disch := first | assumption | omega | (simp only [push_next, put_next, empty_next, List.length_cons, List.length_nil] <;> omega) | exact _root_.id rfl | exact _root_.id (fun _ => rfl) | fail) only [↓pre, post, Int.reduceEq, Int.reduceLT, Int.reduceLE, Int.reduceAdd, Int.reduceSub, Int.reduceMul, Int.reduceNeg, Nat.reduceLT, Nat.reduceSub, Nat.reduceMul, Nat.reduceAdd, Nat.reduceLeDiff, reduceIte, reduceCtorEq, Nat.reduceEqDiff, hlen, lives_v, k1, k2, k3, k4, k1', k2', k3', k4', strip_pt p1, strip_pt p2, strip_pt p3, strip_pt p1', strip_pt p2', strip_pt p3', sameLines_v l1, sameLines_v l1', sameInts_v l2, sameInts_v l2', decide_true])
      | (refine ifP_neg (by first | assumption | omega) ?_ <;> try simp (maxSteps := 4000000) (disch := first | assumption | omega | (simp only [push_next, put_next, empty_next, List.length_cons, List.length_nil] <;> omega) | exact _root_.id rfl | exact _root_.id (fun _ => rfl) | fail) only [↓pre, post, Int.reduceEq, Int.reduceLT, Int.reduceLE, Int.reduceAdd, Int.reduceSub, Int.reduceMul, Int.reduceNeg, Nat.reduceLT, Nat.reduceSub, Nat.reduceMul, Nat.reduceAdd, Nat.reduceLeDiff, reduceIte, reduceCtorEq, Nat.reduceEqDiff, hlen, lives_v, k1, k2, k3, k4, k1', k2', k3', k4', strip_pt p1, strip_pt p2, strip_pt p3, strip_pt p1', strip_pt p2', strip_pt p3', sameLines_v l1, sameLines_v l1', sameInts_v l2, sameInts_v l2', decide_true])
      | (refine ifP_intro (fun hyp => ?_) (fun hyp => ?_) <;> first | simp (maxSteps := 4000000) (disch := first | assumption | omega | (simp only [push_next, put_next, empty_next, List.length_cons, List.length_nil] <;> omega) | exact _root_.id rfl | exact _root_.id (fun _ => rfl) | fail) only [↓pre, post, Int.reduceEq, Int.reduceLT, Int.reduceLE, Int.reduceAdd, Int.reduceSub, Int.reduceMul, Int.reduceNeg, Nat.reduceLT, Nat.reduceSub, Nat.reduceMul, Nat.reduceAdd, Nat.reduceLeDiff, reduceIte, reduceCtorEq, Nat.reduceEqDiff, hlen, lives_v, k1, k2, k3, k4, k1', k2', k3', k4', strip_pt p1, strip_pt p2, strip_pt p3, strip_pt p1', strip_pt p2', strip_pt p3', sameLines_v l1, sameLines_v l1', sameInts_v l2, sameInts_v l2', decide_true, eq_false hyp] | simp (maxSteps := 4000000) (disch := first | assumption | omega | (simp only [push_next, put_next, empty_next, List.length_cons, List.length_nil] <;> omega) | exact _root_.id rfl | exact _root_.id (fun _ => rfl) | fail) only [↓pre, post, Int.reduceEq, Int.reduceLT, Int.reduceLE, Int.reduceAdd, Int.reduceSub, Int.reduceMul, Int.reduceNeg, Nat.reduceLT, Nat.reduceSub, Nat.reduceMul, Nat.reduceAdd, Nat.reduceLeDiff, reduceIte, reduceCtorEq, Nat.reduceEqDiff, hlen, lives_v, k1, k2, k3, k4, k1', k2', k3', k4', strip_pt p1, strip_pt p2, strip_pt p3, strip_pt p1', strip_pt p2', strip_pt p3', sameLines_v l1, sameLines_v l1', sameInts_v l2, sameInts_v l2', decide_true, eq_true hyp] | skip))
    exact lp_n ⟨3 - (i + 1), by omega, i + 1, _, _, _, _, _, _, _, _, _, _, rfl, by omega, rfl⟩
  · obtain ⟨LX, hLX⟩ : ∃ LX, LX = lb := ⟨_, rfl⟩
    have hLX0 : LX = LX := rfl
    have hLXl : LX.length ≤ 100 := by rw [hLX]; omega
    clear hLX0
    refine w_loop (fun m vs h0 => ∃ (i : Nat) (x10 x11 x12 x13 x14 x15 x16 x17 x18 x19 : AVal), m = 3 - i ∧ i ≤ 3 ∧
      vs = [.sl (l.map (.int .i64)) tk, .int .i64 a, .int .i64 b, .int .i64 c, .int .i64 d, .bool false, .sl (items li) .none, .sl (items LX) .none, .sl (L.map (.int .i64)) .none, .int .i64 i, x10, x11, x12, x13, x14, x15, x16, x17, x18, x19]) 3
      ⟨0, _, _, _, _, _, _, _, _, _, _, rfl, by omega, by rw [hL, hLX]; rfl⟩ ?_
    rintro m vs h0 ⟨i, x10, x11, x12, x13, x14, x15, x16, x17, x18, x19, rfl, hi, rfl⟩
    obtain ⟨ls, n, e, t1, t2, ds, t3, p1, p2, p3, l1, l2, k1, k2, k3, k4⟩ := both li (by omega) (nth L i)
    obtain ⟨ls', n', e', t1', t2', ds', t3', p1', p2', p3', l1', l2', k1', k2', k3', k4'⟩ := both LX (by omega) (nth L i)
    try simp (maxSteps := 4000000) (disch := first | assumption | omega | (simp only [push_next, put_next, empty_next, List.length_cons, List.length_nil] <;> omega) | exact _root_.id rfl | exact _root_.id (fun _ => rfl) | fail) only [↓pre, post, Int.reduceEq, Int.reduceLT, Int.reduceLE, Int.reduceAdd, Int.reduceSub, Int.reduceMul, Int.reduceNeg, Nat.reduceLT, Nat.reduceSub, Nat.reduceMul, Nat.reduceAdd, Nat.reduceLeDiff, reduceIte, reduceCtorEq, Nat.reduceEqDiff, hlen, lives_v, k1, k2, k3, k4, k1', k2', k3', k4', strip_pt p1, strip_pt p2, strip_pt p3, strip_pt p1', strip_pt p2', strip_pt p3', sameLines_v l1, sameLines_v l1', sameInts_v l2, sameInts_v l2', decide_true]
    repeat' (first
      | (refine ifP_pos (by first | assumption | omega) ?_ <;> try simp (maxSteps := 4000000) (disch := first | assumption | omega | (simp only [push_next, put_next, empty_next, List.length_cons, List.length_nil] <;> omega) | exact _root_.id rfl | exact _root_.id (fun _ => rfl) | fail) only [↓pre, post, Int.reduceEq, Int.reduceLT, Int.reduceLE, Int.reduceAdd, Int.reduceSub, Int.reduceMul, Int.reduceNeg, Nat.reduceLT, Nat.reduceSub, Nat.reduceMul, Nat.reduceAdd, Nat.reduceLeDiff, reduceIte, reduceCtorEq, Nat.reduceEqDiff, hlen, lives_v, k1, k2, k3, k4, k1', k2', k3', k4', strip_pt p1, strip_pt p2, strip_pt p3, strip_pt p1', strip_pt p2', strip_pt p3', sameLines_v l1, sameLines_v l1', sameInts_v l2, sameInts_v l2', decide_true])
      | (refine ifP_neg (by first | assumption | omega) ?_ <;> try simp (maxSteps := 4000000) (disch := first | assumption | omega | (simp only [push_next, put_next, empty_next, List.length_cons, List.length_nil] <;> omega) | exact _root_.id rfl | exact _root_.id (fun _ => rfl) | fail) only [↓pre, post, Int.reduceEq, Int.reduceLT, Int.reduceLE, Int.reduceAdd, Int.reduceSub, Int.reduceMul, Int.reduceNeg, Nat.reduceLT, Nat.reduceSub, Nat.reduceMul, Nat.reduceAdd, Nat.reduceLeDiff, reduceIte, reduceCtorEq, Nat.reduceEqDiff, hlen, lives_v, k1, k2, k3, k4, k1', k2', k3', k4', strip_pt p1, strip_pt p2, strip_pt p3, strip_pt p1', strip_pt p2', strip_pt p3', sameLines_v l1, sameLines_v l1', sameInts_v l2, sameInts_v l2', decide_true])
      | (refine ifP_intro (fun hyp => ?_) (fun hyp => ?_) <;> first | simp (maxSteps := 4000000) (disch := first | assumption | omega | (simp only [push_next, put_next, empty_next, List.length_cons, List.length_nil] <;> omega) | exact _root_.id rfl | exact _root_.id (fun _ => rfl) | fail) only [↓pre, post, Int.reduceEq, Int.reduceLT, Int.reduceLE, Int.reduceAdd, Int.reduceSub, Int.reduceMul, Int.reduceNeg, Nat.reduceLT, Nat.reduceSub, Nat.reduceMul, Nat.reduceAdd, Nat.reduceLeDiff, reduceIte, reduceCtorEq, Nat.reduceEqDiff, hlen, lives_v, k1, k2, k3, k4, k1', k2', k3', k4', strip_pt p1, strip_pt p2, strip_pt p3, strip_pt p1', strip_pt p2', strip_pt p3', sameLines_v l1, sameLines_v l1', sameInts_v l2, sameInts_v l2', decide_true, eq_false hyp] | simp (maxSteps := 4000000) (disch := first | assumption | omega | (simp only [push_next, put_next, empty_next, List.length_cons, List.length_nil] <;> omega) | exact _root_.id rfl | exact _root_.id (fun _ => rfl) | fail) only [↓pre, post, Int.reduceEq, Int.reduceLT, Int.reduceLE, Int.reduceAdd, Int.reduceSub, Int.reduceMul, Int.reduceNeg, Nat.reduceLT, Nat.reduceSub, Nat.reduceMul, Nat.reduceAdd, Nat.reduceLeDiff, reduceIte, reduceCtorEq, Nat.reduceEqDiff, hlen, lives_v, k1, k2, k3, k4, k1', k2', k3', k4', strip_pt p1, strip_pt p2, strip_pt p3, strip_pt p1', strip_pt p2', strip_pt p3', sameLines_v l1, sameLines_v l1', sameInts_v l2, sameInts_v l2', decide_true, eq_true hyp] | skip))
    exact lp_n ⟨3 - (i + 1), by omega, i + 1, _, _, _, _, _, _, _, _, _, _, rfl, by omega, rfl⟩

end Go.Proofs.Ytcammfdljiingaa

/-
  copyCheck of this seat, walked; the table of functions is sound.
-/
namespace Go.Proofs
open Go.Shelf Go.RowKit

theorem Ytcammfdljiingaa.sizeBuilder : (Try.prog.info? 78).map (·.size) = some 2 := by kernel_rfl
theorem Ytcammfdljiingaa.liesBuilder : liesAt Try.prog Try.prog.depth 78 (2 / Try.prog.cellsOf 78) 0 78 1 = true := by kernel_rfl

set_option maxHeartbeats 1000000 in
set_option maxRecDepth 100000 in
theorem Ytcammfdljiingaa.cc_used (b : Nat) (w : World) (h0 : w.cell? ⟨b, 0, none⟩ = some (.pointer (some ⟨b, 0, none⟩))) :
    Calls Try.prog 58 #[.pointer (some ⟨b, 0, none⟩)] w fun e w' => e = .returned (.tuple #[]) ∧ w' = w := by
  obtain ⟨j, hj, _⟩ := Option.map_eq_some_iff.1 Ytcammfdljiingaa.sizeBuilder
  have mixed : Try.prog.follows .mixedOrders = true := by kernel_rfl
  have t72 := Try.underlying78; have a72 := Try.isAgg78; have z72 := Try.sizeOf78; have v72 := Try.zeroValue78; have u72 := run_underlying Try.underlying78
  have t70 := Try.underlying75; have a70 := Try.isAgg75; have z70 := Try.sizeOf75; have v70 := Try.zeroValue75; have u70 := run_underlying Try.underlying75
  have t4 := Try.underlying4; have a4 := Try.isAgg4; have z4 := Try.sizeOf4; have v4 := Try.zeroValue4; have u4 := run_underlying Try.underlying4
  have t164 := Try.underlying97; have a164 := Try.isAgg97; have z164 := Try.sizeOf97; have v164 := Try.zeroValue97; have u164 := run_underlying Try.underlying97
  go_enter Try.func58, Try.ntmps58
  go_wp2
  rw [Lib.run_neq_ptr_same w _ Try.underlying75 hj]
  go_wp2
  go_end0
  exact ⟨rfl, rfl⟩

set_option maxHeartbeats 1000000 in
set_option maxRecDepth 100000 in
theorem Ytcammfdljiingaa.cc_fresh (b : Nat) (w : World) (h0 : w.cell? ⟨b, 0, none⟩ = some (.pointer none)) (hsh : w.shape? b = some (78, 2)) (hfz : w.frozen? ⟨b, 0, none⟩ = false) :
    Calls Try.prog 58 #[.pointer (some ⟨b, 0, none⟩)] w fun e w' => e = .returned (.tuple #[]) ∧ w' = w.setCell ⟨b, 0, none⟩ (.pointer (some ⟨b, 0, none⟩)) := by
  obtain ⟨j, hj, hjs⟩ := Option.map_eq_some_iff.1 Ytcammfdljiingaa.sizeBuilder
  have mixed : Try.prog.follows .mixedOrders = true := by kernel_rfl
  have t72 := Try.underlying78; have a72 := Try.isAgg78; have z72 := Try.sizeOf78; have v72 := Try.zeroValue78; have u72 := run_underlying Try.underlying78
  have t70 := Try.underlying75; have a70 := Try.isAgg75; have z70 := Try.sizeOf75; have v70 := Try.zeroValue75; have u70 := run_underlying Try.underlying75
  have t4 := Try.underlying4; have a4 := Try.isAgg4; have z4 := Try.sizeOf4; have v4 := Try.zeroValue4; have u4 := run_underlying Try.underlying4
  have t164 := Try.underlying97; have a164 := Try.isAgg97; have z164 := Try.sizeOf97; have v164 := Try.zeroValue97; have u164 := run_underlying Try.underlying97
  go_enter Try.func58, Try.ntmps58
  go_wp2
  rw [Lib.run_to_unsafe w ⟨b, 0, none⟩ Try.underlying75 Try.underlying97 hj (by rw [hjs]; decide) hsh (Nat.zero_lt_succ 1)]
  simp only [Result.andThen]
  rw [Oper.upon_value]
  go_wp2
  rw [run_callFunc_extern Try.func61 (by kernel_rfl) (by kernel_rfl) (by kernel_rfl) (e := Extern.AbiNoEscape.same) (by kernel_rfl)]
  rw [Lib.run_noEscape]
  simp only [Result.andThen]
  rw [Oper.upon_value]
  go_wp2
  rw [Lib.run_from_unsafe w ⟨b, 0, none⟩ Try.underlying97 Try.underlying75 hj hsh Ytcammfdljiingaa.liesBuilder]
  simp only [Result.andThen]
  rw [Oper.upon_value]
  go_wp2
  go_end0
  exact ⟨rfl, rfl⟩

def Ytcammfdljiingaa.ren169 : Go.Shelf.Ren := ⟨fun | 169 => 51 | n => n, fun | 70 => 75 | 9 => 9 | 0 => 0 | 72 => 78 | 37 => 76 | 127 => 90 | 3 => 3 | 5 => 5 | n => n, fun | n => n⟩
theorem Ytcammfdljiingaa.lays169 : Go.Proofs.Lays.n169 Try.prog Ytcammfdljiingaa.ren169 := {
  mixed := by kernel_rfl
  f169 := Try.func51.trans (congrArg some (by kernel_rfl))
  t0 := Try.underlying0
  a0 := Try.isAgg0
  z0 := Try.sizeOf0
  v0 := Try.zeroValue0
  t3 := Try.underlying3
  a3 := Try.isAgg3
  z3 := Try.sizeOf3
  v3 := Try.zeroValue3
  t9 := Try.underlying9
  a9 := Try.isAgg9
  z9 := Try.sizeOf9
  v9 := Try.zeroValue9
  t37 := Try.underlying76
  a37 := Try.isAgg76
  z37 := Try.sizeOf76
  v37 := Try.zeroValue76
  t70 := Try.underlying75
  a70 := Try.isAgg75
  z70 := Try.sizeOf75
  v70 := Try.zeroValue75
  t72 := Try.underlying78
  a72 := Try.isAgg78
  z72 := Try.sizeOf78
  v72 := Try.zeroValue78
  t127 := Try.underlying90
  a127 := Try.isAgg90
  z127 := Try.sizeOf90
  v127 := Try.zeroValue90 }
theorem Ytcammfdljiingaa.extra169 : Builder.Extra Try.prog Ytcammfdljiingaa.ren169 := {
  sizeBuilder := by kernel_rfl
  liesBuilder := by kernel_rfl
  t5 := Try.underlying5
  a5 := Try.isAgg5
  z5 := Try.sizeOf5
  v5 := Try.zeroValue5
  infoByte := by kernel_rfl
  cellsByte := by kernel_rfl
  sizeByte := by kernel_rfl
  neB5 := by decide }

open Go.Abs in
theorem Ytcammfdljiingaa.table : Table Try.prog Ytcammfdljiingaa.hints Ytcammfdljiingaa.F := by
  intro g
  unfold Ytcammfdljiingaa.F
  split
  · exact Ytcammfdljiingaa.c3_ok
  · exact Ytcammfdljiingaa.c4_ok
  · exact Ytcammfdljiingaa.c5_ok
  · exact Ytcammfdljiingaa.c6_ok
  · exact Ytcammfdljiingaa.c7_ok
  · exact Ytcammfdljiingaa.c8_ok
  · exact Ytcammfdljiingaa.c9_ok
  · exact Ytcammfdljiingaa.c10_ok
  · exact Ytcammfdljiingaa.c11_ok
  · exact Ytcammfdljiingaa.c12_ok
  · exact Ytcammfdljiingaa.c13_ok
  · exact Ytcammfdljiingaa.c14_ok
  · exact Ytcammfdljiingaa.c15_ok
  · exact Ytcammfdljiingaa.c16_ok
  · exact Ytcammfdljiingaa.c17_ok
  · exact Ytcammfdljiingaa.c18_ok
  · exact Ytcammfdljiingaa.c19_ok
  · exact Ytcammfdljiingaa.c20_ok
  · exact Ytcammfdljiingaa.c21_ok
  · exact Ytcammfdljiingaa.c22_ok
  · exact Ytcammfdljiingaa.c23_ok
  · exact Ytcammfdljiingaa.c24_ok
  · exact Ytcammfdljiingaa.c25_ok
  · exact Ytcammfdljiingaa.c26_ok
  · exact Ytcammfdljiingaa.c27_ok
  · exact Ytcammfdljiingaa.c28_ok
  · exact Ytcammfdljiingaa.c29_ok
  · exact Ytcammfdljiingaa.c30_ok
  · exact Ytcammfdljiingaa.c31_ok
  · exact Ytcammfdljiingaa.c32_ok
  · exact Ytcammfdljiingaa.c33_ok
  · exact Ytcammfdljiingaa.c34_ok
  · exact Ytcammfdljiingaa.c35_ok
  · exact Ytcammfdljiingaa.c36_ok
  · exact Ytcammfdljiingaa.c37_ok
  · exact Ytcammfdljiingaa.c38_ok
  · exact Ytcammfdljiingaa.c39_ok
  · exact Ytcammfdljiingaa.c40_ok
  · exact Ytcammfdljiingaa.c41_ok
  · exact Ytcammfdljiingaa.c42_ok
  · exact Ytcammfdljiingaa.c43_ok
  · exact Ytcammfdljiingaa.c44_ok
  · exact Ytcammfdljiingaa.c45_ok
  · exact Ytcammfdljiingaa.c46_ok
  · exact Ytcammfdljiingaa.c47_ok
  · exact Ytcammfdljiingaa.c48_ok
  · exact Ytcammfdljiingaa.c49_ok
  · exact Ytcammfdljiingaa.c50_ok
  · exact Ytcammfdljiingaa.c52_ok
  · exact Ytcammfdljiingaa.c53_ok
  · exact Ytcammfdljiingaa.c54_ok
  · exact Ytcammfdljiingaa.c55_ok
  · exact Ytcammfdljiingaa.c56_ok
  · exact Ytcammfdljiingaa.c57_ok
  · exact Ytcammfdljiingaa.c59_ok
  · exact Ytcammfdljiingaa.c60_ok
  · exact string_ok Ytcammfdljiingaa.lays169 Ytcammfdljiingaa.extra169
  · exact copyCheck_ok (enters_of Try.func58 (by kernel_rfl) rfl) Ytcammfdljiingaa.cc_used Ytcammfdljiingaa.cc_fresh
  · trivial

theorem Ytcammfdljiingaa.mix : Try.prog.follows .mixedOrders = true := by kernel_rfl

open Go.Abs in
theorem Ytcammfdljiingaa.sound {n g : Nat} {args : List AVal} {h h' : Heap} {r : AVal} (e : run Ytcammfdljiingaa.F n (.call g args h) = some (.val r h')) : CallRel Try.prog g args h r h' := Go.Abs.sound Ytcammfdljiingaa.mix Ytcammfdljiingaa.table e

end Go.Proofs

/-
  From a run of the abstract machine to a row: the law answers true, and each argument reads as it read.
-/
set_option linter.unusedSimpArgs false
set_option linter.unusedVariables false
namespace Go.Abs
open Go.ChangeShapes Go.WideShapes Go.ChangeAt Go.RowKit

variable {P : Program} {H : Type} {enc : TypeId × Value → H}

/-- The ghost at the start: nothing is owned, every cell stands. -/
def G0 : Ghost := ⟨0, fun _ => 0, fun _ => 0, fun _ => none⟩

theorem hrel0 (W : World) : HRel W G0 Heap.empty := ⟨rfl, fun id o h => by rw [Heap.get_empty] at h; simp at h, fun id o h => by rw [Heap.get_empty] at h; simp at h, fun i j oi oj h => by rw [Heap.get_empty] at h; simp at h⟩

theorem stab0 (b k : Nat) : stab G0 b k := fun m h => by simp [G0] at h

/-- The kinds of arguments. -/
inductive Arg where
  | int (n : Int)
  | ints (l : List Int) (t : Tok)

def Arg.val : Arg → AVal
  | .int n => .int .i64 n
  | .ints l t => .sl (l.map (.int .i64)) t

/-- A slice of integers and the token that it comes with, and the bounds that its size implies. -/
def Arg.wf : Arg → Prop
  | .int n => -9223372036854775808 ≤ n ∧ n < 9223372036854775808
  | .ints l t => (t = .none ∨ t = .nil ∧ l = []) ∧ l.length ≤ maxLen ∧ ∀ n ∈ l, -9223372036854775808 ≤ n ∧ n < 9223372036854775808

theorem wf_i64 {n : Int} (h : (Lit.int .i64 n).wf = true) : -9223372036854775808 ≤ n ∧ n < 9223372036854775808 := by
  simp only [Lit.wf, Bool.and_eq_true, decide_eq_true_eq] at h
  have h1 : IntKind.i64.min = -9223372036854775808 := rfl
  have h2 : IntKind.i64.max = 9223372036854775807 := rfl
  omega

theorem flat_ints (l : List Int) : flat (l.map (AVal.int .i64)) = l.map (AVal.int .i64) := by
  induction l with
  | nil => rfl
  | cons x l ih => simp only [flat, List.map_cons, List.flatMap_cons, AVal.cells] at ih ⊢; rw [ih]; rfl

theorem arg_int {W : World} {t : TypeId} {v : Value} {d : DataW H} {ps : List MemPlace} {base : Nat} (ht : P.underlying t = some (.int .i64)) (hval : Value.okWide P W .any base t v) (hd : DataW.Trod enc P W 0 (fun _ => true) true t v d ps) :
    ∃ n, VRel W G0 v (Arg.val (.int n)) ∧ (Arg.int n).wf := by
  obtain ⟨n, rfl, rfl, rfl, hw⟩ := open_int ht hval hd
  exact ⟨n, .int _ _, wf_i64 hw⟩

theorem arg_ints {W : World} {t e : TypeId} {v : Value} {d : DataW H} {ps : List MemPlace} {base : Nat} (ht : P.underlying t = some (.slice e)) (he : P.underlying e = some (.int .i64)) (hc : P.cellsOf e = 1) (hval : Value.okWide P W .any base t v) (hd : DataW.Trod enc P W 0 (fun _ => true) true t v d ps) :
    ∃ l tk, VRel W G0 v (Arg.val (.ints l tk)) ∧ (Arg.ints l tk).wf := by
  obtain ⟨a0, len0, cap0, rfl⟩ := okWide_slice ht hval
  obtain ⟨fuel, hf⟩ := hd
  rcases open_ints ht he hc hf with ⟨h1, h2⟩ | ⟨a, len, cap, zs, h1, h2, h3, h4, h5, h6, h7, h8⟩
  · simp [Value.cells] at h1
    obtain ⟨rfl, rfl, rfl⟩ := h1
    exact ⟨[], .nil, .nilsl _ (.inl rfl), .inr ⟨rfl, rfl⟩, by simp, by simp⟩
  · simp [Value.cells] at h1
    obtain ⟨rfl, rfl, rfl⟩ := h1
    simp only [if_true] at h5
    simp only [Value.okWide, ht, Cell.okWide, Cell.ok] at hval
    obtain ⟨b, off, sp⟩ := a
    obtain rfl : sp = none := hval.2.2.2.1
    have hl : (zs.take len0).length = len0 := by rw [List.length_take]; omega
    refine ⟨zs.take len0, .none, ?_, .inl rfl, by omega, fun n hn => wf_i64 (h8 n (List.mem_of_mem_take hn))⟩
    have hfl := flat_ints (zs.take len0)
    have key : VRel W G0 (.slice (some ⟨b, off, none⟩) ((zs.take len0).map (AVal.int .i64)).length cap0) (.sl ((zs.take len0).map (AVal.int .i64)) .none) := by
      refine .sl b off cap0 1 _ .none (fun k => .int .i64 (zs.getD k 0)) (fun x hx => ?_) (fun k c hk => ?_) (fun k c hk => ?_) (fun k hk => stab0 _ _) (fun c hc' => ?_) (fun c hc' => ?_) (by rw [List.length_map, hl]; exact h3) (by simp) (by simp)
      · simp only [List.mem_map] at hx
        obtain ⟨n, _, rfl⟩ := hx
        rfl
      · rw [hfl] at hk
        have hlt := (List.getElem?_eq_some_iff.1 hk).1
        rw [List.length_map, hl] at hlt
        have := h7 k (by omega)
        rw [Addr.add_lit] at this
        exact this
      · rw [hfl] at hk
        have hlt := (List.getElem?_eq_some_iff.1 hk).1
        rw [List.length_map, hl] at hlt
        simp only [List.getElem?_map, List.getElem?_take, hlt, if_true, Option.map_eq_some_iff] at hk
        obtain ⟨n, hn, rfl⟩ := hk
        rw [List.getD_eq_getElem?_getD, hn]
        exact .int _ _
      · rw [hfl] at hc'
        simp only [List.mem_map] at hc'
        obtain ⟨n, _, rfl⟩ := hc'
        rfl
      · rw [hfl] at hc'
        simp only [List.mem_map] at hc'
        obtain ⟨n, _, rfl⟩ := hc'
        rfl
    rw [List.length_map, hl] at key
    exact key

theorem Below.trodAll (hl : laidOutB P = true) {W W' : World} (hb : Below W.heap.size W W') : ∀ {ts : List TypeId} {vs : List Value} {ds : List (DataW H)} {ps : List MemPlace}, (∀ t ∈ ts, P.readableRec t = true ∧ t < P.types.size) →
    (∀ x ∈ ps, x.block < W.heap.size) → DataW.TrodAll enc P W 0 (fun _ => true) true ts vs ds ps → DataW.TrodAll enc P W' 0 (fun b => decide (b < W.heap.size)) true ts vs ds ps
  | [], [], [], _, _, _, h => h
  | t :: ts, v :: vs, d :: ds, ps, ht, hp, h => by
    obtain ⟨p, q, h1, h2, rfl⟩ := h
    exact ⟨p, q, RowKit.Below.trod hl (ht t (by simp)).1 (ht t (by simp)).2 h1 hb (fun x hx => hp x (by simp [hx])), Below.trodAll hl hb (fun t' h' => ht t' (by simp [h'])) (fun x hx => hp x (by simp [hx])) h2, rfl⟩
  | [], _ :: _, _, _, _, _, h => h.elim
  | [], [], _ :: _, _, _, _, h => h.elim
  | _ :: _, [], _, _, _, _, h => h.elim
  | _ :: _, _ :: _, [], _, _, _, h => h.elim

/-- Behind a law that answers true and writes nothing that stood before. -/
theorem law_post {f : Func} {s : ChangeSpec} {W W' : World} {args : Array Value} {ds gs : List (DataW H)} {before : List MemPlace} {tb : TypeId} (hl : laidOutB P = true) (hts : ∀ t ∈ f.params.toList, P.readableRec t = true ∧ t < P.types.size)
    (hv : s.vars = []) (hr : f.resultTypes = #[tb]) (hb : P.underlying tb = some .bool) (hW : DataW.Whole enc P f.params.toList s.vars false W args.toList ds gs before) (hB : Below W.heap.size W W')
    (hs : s.fn H (ds ++ gs) = { results := [.lit (.bool true)], args := ds }) : s.post enc P f false true false false W args (.bool true) W' := by
  have hlt := hW.lt
  have hW0 := hW
  obtain ⟨p, q, hA, hV, rfl, hfz, hnd⟩ := hW
  rw [hv] at hV
  have hq : q = [] := by
    match gs, hV with
    | [], h => exact h
  subst hq
  refine ⟨ds, gs, p ++ [], [], p, [], hW0, ?_, ?_, ?_, hB.frame _, fun h => by simp at h⟩
  · rw [hr, hs]
    exact ⟨[], [], RowKit.shut_bool hb true, rfl, rfl⟩
  · rw [hs]
    exact Below.trodAll hl hB hts (fun x hx => hlt x (by simp [hx])) hA
  · rw [hv, hs]
    rfl

/-- The run on related arguments, from outside. -/
theorem law_calls {F : Nat → Option AEnt} {Hh : Hints} (hmix : P.follows .mixedOrders = true) (hT : Table P Hh F) {g : Nat} {W : World} {cargs : Array Value} {args : List Arg} (hp : Pts W G0 cargs (args.map Arg.val)) {h' : Heap}
    (c : Gives F g (args.map Arg.val) Heap.empty (.bool true) h') : Calls P g cargs W fun e W' => e = .returned (.bool true) ∧ Below W.heap.size W W' := by
  obtain ⟨n, hn⟩ := gives_run c
  refine (sound hmix hT hn W G0 cargs (hrel0 W) hp).mono ?_
  rintro e W' ⟨v, G', rfl, hX, hH, hV⟩
  cases hV with
  | bool =>
    refine ⟨rfl, hX.os, hX.tape, hX.out, hX.size, fun k hk => (hX.keep k hk ?_).1⟩
    rintro ⟨id, o, h1, _⟩
    rw [Heap.get_empty] at h1
    simp at h1

end Go.Abs

/-
  The rows of this seat follow from runs of the abstract machine that answer true.
-/
set_option linter.unusedSimpArgs false
set_option linter.unusedVariables false
namespace Go.Proofs.Ytcammfdljiingaa
open Go Go.Abs Go.ChangeShapes Go.WideShapes Go.ChangeAt Go.RowKit

theorem own : ownKnob Try.prog.godebug = none := by kernel_rfl
theorem laidOut : laidOutB Try.prog = true := by kernel_rfl
theorem read3 : Try.prog.readableRec 3 = true ∧ 3 < Try.prog.types.size := ⟨by kernel_rfl, of_decide_eq_true (by kernel_rfl)⟩
theorem read22 : Try.prog.readableRec 22 = true ∧ 22 < Try.prog.types.size := ⟨by kernel_rfl, of_decide_eq_true (by kernel_rfl)⟩
theorem cells3 : Try.prog.cellsOf 3 = 1 := by kernel_rfl

theorem trodAll_cons {H : Type} {enc : TypeId × Value → H} {P : Program} {W : World} {t : TypeId} {ts : List TypeId} {vs : List Value} {ds : List (DataW H)} {p : List MemPlace} (h : DataW.TrodAll enc P W 0 (fun _ => true) true (t :: ts) vs ds p) :
    ∃ v vs' d ds' p0 q, vs = v :: vs' ∧ ds = d :: ds' ∧ DataW.Trod enc P W 0 (fun _ => true) true t v d p0 ∧ DataW.TrodAll enc P W 0 (fun _ => true) true ts vs' ds' q := by
  cases vs with
  | nil => exact h.elim
  | cons v vs =>
    cases ds with
    | nil => exact h.elim
    | cons d ds =>
      obtain ⟨p, q, h1, h2, _⟩ := h
      exact ⟨v, vs, d, ds, p, q, rfl, rfl, h1, h2⟩

theorem trodAll_nil {H : Type} {enc : TypeId × Value → H} {P : Program} {W : World} {vs : List Value} {ds : List (DataW H)} {p : List MemPlace} (h : DataW.TrodAll enc P W 0 (fun _ => true) true [] vs ds p) : vs = [] ∧ ds = [] := by
  cases vs with
  | nil => cases ds with
    | nil => exact ⟨rfl, rfl⟩
    | cons d ds => exact h.elim
  | cons v vs => cases ds <;> exact h.elim

theorem pts6 {W : World} {v0 v1 v2 v3 v4 v5 : Value} {a0 a1 a2 a3 a4 a5 : AVal} (h0 : VRel W G0 v0 a0) (h1 : VRel W G0 v1 a1) (h2 : VRel W G0 v2 a2) (h3 : VRel W G0 v3 a3) (h4 : VRel W G0 v4 a4) (h5 : VRel W G0 v5 a5) :
    Pts W G0 #[v0, v1, v2, v3, v4, v5] [a0, a1, a2, a3, a4, a5] := ⟨rfl, fun k c a hc ha => by
  match k with
  | 0 => simp at hc ha; subst hc; subst ha; exact h0
  | 1 => simp at hc ha; subst hc; subst ha; exact h1
  | 2 => simp at hc ha; subst hc; subst ha; exact h2
  | 3 => simp at hc ha; subst hc; subst ha; exact h3
  | 4 => simp at hc ha; subst hc; subst ha; exact h4
  | 5 => simp at hc ha; subst hc; subst ha; exact h5
  | k + 6 => simp at hc⟩

def Ok6 (g : Nat) : Prop := ∀ (l : List Int) (tk : Tok) (a b c d e : Int), (Arg.ints l tk).wf → (Arg.int a).wf → (Arg.int b).wf → (Arg.int c).wf → (Arg.int d).wf → (Arg.int e).wf →
  ∃ h', Gives F g [.sl (l.map (.int .i64)) tk, .int .i64 a, .int .i64 b, .int .i64 c, .int .i64 d, .int .i64 e] Heap.empty (.bool true) h'

theorem trod6 {H : Type} {enc : TypeId × Value → H} {P : Program} {W : World} {t0 t1 t2 t3 t4 t5 : TypeId} {vs : List Value} {ds : List (DataW H)} {p : List MemPlace} (h : DataW.TrodAll enc P W 0 (fun _ => true) true [t0, t1, t2, t3, t4, t5] vs ds p) :
    ∃ v0 v1 v2 v3 v4 v5 d0 d1 d2 d3 d4 d5 p0 p1 p2 p3 p4 p5, vs = [v0, v1, v2, v3, v4, v5] ∧ ds = [d0, d1, d2, d3, d4, d5] ∧ DataW.Trod enc P W 0 (fun _ => true) true t0 v0 d0 p0 ∧ DataW.Trod enc P W 0 (fun _ => true) true t1 v1 d1 p1 ∧
      DataW.Trod enc P W 0 (fun _ => true) true t2 v2 d2 p2 ∧ DataW.Trod enc P W 0 (fun _ => true) true t3 v3 d3 p3 ∧ DataW.Trod enc P W 0 (fun _ => true) true t4 v4 d4 p4 ∧ DataW.Trod enc P W 0 (fun _ => true) true t5 v5 d5 p5 := by
  obtain ⟨v0, vs, d0, ds, p0, q, rfl, rfl, h0, h⟩ := trodAll_cons h
  obtain ⟨v1, vs, d1, ds, p1, q, rfl, rfl, h1, h⟩ := trodAll_cons h
  obtain ⟨v2, vs, d2, ds, p2, q, rfl, rfl, h2, h⟩ := trodAll_cons h
  obtain ⟨v3, vs, d3, ds, p3, q, rfl, rfl, h3, h⟩ := trodAll_cons h
  obtain ⟨v4, vs, d4, ds, p4, q, rfl, rfl, h4, h⟩ := trodAll_cons h
  obtain ⟨v5, vs, d5, ds, p5, q, rfl, rfl, h5, h⟩ := trodAll_cons h
  obtain ⟨rfl, rfl⟩ := trodAll_nil h
  exact ⟨v0, v1, v2, v3, v4, v5, d0, d1, d2, d3, d4, d5, p0, p1, p2, p3, p4, p5, rfl, rfl, h0, h1, h2, h3, h4, h5⟩

set_option maxRecDepth 100000 in
theorem texts_lifted (hg : Ok6 5) (os : Os) (started : os.Started) (H : Type) (enc : TypeId × Value → H) :
    ReturnsInHanded {} Try.checked os 5 .any (Rows.linebreakTextsSpec.pre6 enc Try.prog Try.f5 Rows.linebreakTextsRow.domain false) (Rows.linebreakTextsSpec.post enc Try.prog Try.f5 false true false false) := by
  refine returnsInHanded_of_change (C := Try.checked) own started (by kernel_rfl) Try.func5
    (ChangeSpec.witness6 (enc := enc) (C := Try.checked) false ⟨#[], #[.slice none 0 0, .int .i64 0, .int .i64 0, .int .i64 0, .int .i64 0, .int .i64 0], []⟩ 8 (by kernel_rfl) (by kernel_rfl) (by kernel_rfl) (by kernel_rfl)) ?_
  intro W base args ds gs before hval0 hW hcnd _
  have hval : ∀ (j : Nat) t v, Try.f5.params[j]? = some t → args[j]? = some v → Value.okWide Try.prog W .any base t v := hval0
  have hW' := hW
  obtain ⟨p, q, hA0, hV, hpq, hfz, hnd⟩ := hW
  have hA : DataW.TrodAll enc Try.prog W 0 (fun _ => true) true Try.f5.params.toList args.toList ds p := hA0
  rw [Try.params5] at hA hval
  obtain ⟨l⟩ := args
  obtain ⟨v0, v1, v2, v3, v4, v5, d0, d1, d2, d3, d4, d5, p0, p1, p2, p3, p4, p5, hl0, rfl, h0, h1, h2, h3, h4, h5⟩ := trod6 hA
  simp only at hl0
  subst hl0
  · obtain ⟨l, tk, r0, w0⟩ := arg_ints Try.underlying22 Try.underlying3 cells3 (hval 0 22 v0 rfl rfl) h0
    obtain ⟨a, r1, w1⟩ := arg_int Try.underlying3 (hval 1 3 v1 rfl rfl) h1
    obtain ⟨b, r2, w2⟩ := arg_int Try.underlying3 (hval 2 3 v2 rfl rfl) h2
    obtain ⟨c, r3, w3⟩ := arg_int Try.underlying3 (hval 3 3 v3 rfl rfl) h3
    obtain ⟨d, r4, w4⟩ := arg_int Try.underlying3 (hval 4 3 v4 rfl rfl) h4
    obtain ⟨e, r5, w5⟩ := arg_int Try.underlying3 (hval 5 3 v5 rfl rfl) h5
    obtain ⟨h', hh⟩ := hg l tk a b c d e w0 w1 w2 w3 w4 w5
    refine (law_calls mix table (args := [.ints l tk, .int a, .int b, .int c, .int d, .int e]) (pts6 r0 r1 r2 r3 r4 r5) hh).mono ?_
    rintro e W' ⟨rfl, hB⟩
    refine ⟨_, rfl, law_post laidOut (fun t ht => ?_) rfl rfl Try.underlying4 hW' hB ?_⟩
    · have ht' : t ∈ ([22, 3, 3, 3, 3, 3] : List TypeId) := by rw [Try.params5] at ht; exact ht
      simp at ht'
      rcases ht' with rfl | rfl
      · exact read22
      · exact read3
    · match gs, hV with
      | [], _ => rfl

theorem texts_of (hg : Ok6 5) : Rows.LinebreakTextsSaid :=
  OpenClaim.holds_of_wide 5 Try.f5 rfl rfl rfl rfl rfl rfl rfl ⟨rfl, rfl, rfl, rfl, rfl⟩ rfl rfl rfl rfl rfl (by kernel_rfl) Try.func5 (by kernel_rfl)
    (of_decide_eq_true (by kernel_rfl)) (by unfold Func.isWrapper; first | (rw [if_pos (by decide +kernel)]; kernel_rfl) | (rw [if_neg (by decide +kernel)]; exact ⟨rfl, rfl⟩))
    (fun os started H enc _ => texts_lifted hg os started H enc)

end Go.Proofs.Ytcammfdljiingaa

/-
  The plain laws of the lines: the lines one by one, their texts, and the duals at every break.
-/
set_option linter.unusedSimpArgs false
set_option linter.unusedVariables false
set_option maxHeartbeats 8000000
namespace Go.Proofs.Ytcammfdljiingaa
open Go Go.Abs

/-! ### the plans at every break -/
theorem plans_is_k {l : List Item} {w : Int} {k : Nat} {bs : List Nat} {c : Int} (hk : k < l.length) (h : chain l w 0 bs = some c) (he : endOf 0 bs = k + 1) : (nth (plansS l w) k).is = true ∧ ∀ cs, (nth (plansS l w) k).lines = mkLines l 0 cs → ¬ pref c bs (nth (plansS l w) k).cost cs := by
  have hF := FInv_plans (l := l) (w := w) l.length (Nat.le_refl _)
  rcases List.eq_nil_or_concat bs with hb | ⟨bs0, b, hb⟩
  · subst hb; simp only [endOf] at he; omega
  · rw [List.concat_eq_append] at hb
    subst hb
    rw [endOf_append] at he
    simp only [endOf] at he
    subst he
    refine (hF.2 k hk).2 bs0 c h (.inl ?_)
    obtain ⟨c0, e0, k1, k2, _⟩ := chain_snoc h
    have := (edge_lt k2).1
    omega

theorem plans_best_k {l : List Item} {w : Int} {k : Nat} (hk : k < l.length) (hi : (nth (plansS l w) k).is = true) : ∃ bs, (nth (plansS l w) k).lines = mkLines l 0 bs ∧ Best l w 0 (k + 1) (nth (plansS l w) k).cost bs := by
  have hF := FInv_plans (l := l) (w := w) l.length (Nat.le_refl _)
  obtain ⟨bs, h1, h2, h3⟩ := (hF.2 k hk).1 hi
  exact ⟨bs, h1, h2, h3, fun d cs hc he => (plans_is_k hk hc he).2 bs h1⟩

theorem duals_nth {l : List Item} {w : Int} {k : Nat} (hk : k < l.length) : nth (rdualsS l w) k = if (nth (plansS l w) k).is = true then (nth (plansS l w) k).cost else -1 := by
  unfold rdualsS
  rw [nth_map _ _ (by rw [plansS_len]; exact hk)]

/-! ### the lines one by one -/
theorem chain_take {l : List Item} {w : Int} : ∀ {p : Nat} {us : List Nat} {c : Int} {i : Nat}, chain l w p us = some c → i < us.length →
    ∃ s e, chain l w p (us.take i) = some s ∧ edge l w (endOf p (us.take i)) (nth us i) = some e ∧ chain l w p (us.take (i + 1)) = some (s + e) ∧ endOf p (us.take (i + 1)) = nth us i ∧
      nth (mkLines l p us) i = ⟨(skip l (endOf p (us.take i)) : Nat), (nth us i : Nat), natS l (skip l (endOf p (us.take i))) (nth us i)⟩
  | p, [], c, i, _, h => by simp at h
  | p, b :: us, c, 0, hc, _ => by
    unfold chain at hc
    split at hc
    · rename_i x y h1 h2
      refine ⟨0, x, rfl, h1, ?_, rfl, rfl⟩
      simp only [List.take_succ_cons, List.take_zero, chain, h1, nth]
      simp
    · simp at hc
  | p, b :: us, c, i + 1, hc, h => by
    unfold chain at hc
    split at hc
    · rename_i x y h1 h2
      obtain ⟨s, e, k1, k2, k3, k4, k5⟩ := chain_take (i := i) h2 (by simpa using h)
      have hn : nth (b :: us) (i + 1) = nth us i := by simp [nth]
      rw [hn]
      refine ⟨x + s, e, ?_, k2, ?_, k4, ?_⟩
      · rw [List.take_succ_cons, chain, h1, k1]
      · rw [List.take_succ_cons, chain, h1, k3, Int.add_assoc]
      · have : nth (mkLines l p (b :: us)) (i + 1) = nth (mkLines l b us) i := by simp [nth, mkLines]
        rw [this, k5]; rfl
    · simp at hc

/-! ### the texts -/
def boxes (l : List Item) (a : Nat) : Nat → List UInt8
  | 0 => []
  | n + 1 => boxes l a n ++ if (nth l (a + n)).kind = 0 then (nth l (a + n)).text else []

theorem boxes_add (l : List Item) (a m : Nat) : ∀ n, boxes l a (m + n) = boxes l a m ++ boxes l (a + m) n
  | 0 => by simp [boxes]
  | n + 1 => by
    rw [← Nat.add_assoc, boxes, boxes_add l a m n, boxes, List.append_assoc]
    congr 2
    rw [Nat.add_assoc]

theorem bareS_append (a b : List UInt8) : bareS (a ++ b) = bareS a ++ bareS b := by unfold bareS; rw [List.filter_append]

theorem bare_plain {x : List UInt8} (h : ∀ c ∈ x, c ≠ 32 ∧ c ≠ 45) : bareS x = x := by
  unfold bareS
  rw [List.filter_eq_self]
  intro c hc
  have := h c hc
  simp [this.1, this.2]

theorem bare_tx {l : List Item} (hp : ∀ x ∈ l, plainI x) {last i : Nat} (hi : i < l.length) : bareS (tx l last i) = if (nth l i).kind = 0 then (nth l i).text else [] := by
  have h := hp _ (nth_mem hi)
  unfold tx
  by_cases h0 : (nth l i).kind = 0
  · rw [if_pos (.inl h0), if_pos h0]
    exact bare_plain (h.2.1 h0)
  · rw [if_neg h0]
    split
    · rename_i hc
      rw [h.2.2.1 (hc.resolve_left h0).1]; rfl
    · split <;> rfl

theorem bare_txs {l : List Item} (hp : ∀ x ∈ l, plainI x) {last a : Nat} : ∀ n, a + n ≤ l.length → bareS (txs l last a n) = boxes l a n
  | 0, _ => rfl
  | n + 1, h => by
    rw [txs, bareS_append, bare_txs hp n (by omega), bare_tx hp (by omega), boxes]

theorem boxes_glue {l : List Item} {a : Nat} : ∀ n, (∀ j, a ≤ j → j < a + n → (nth l j).kind = 1) → boxes l a n = []
  | 0, _ => rfl
  | n + 1, h => by
    rw [boxes, boxes_glue n (fun j h1 h2 => h j h1 (by omega)), h (a + n) (by omega) (by omega)]; rfl

theorem bare_line {l : List Item} (hp : ∀ x ∈ l, plainI x) {p b : Nat} (h1 : skip l p < b) (h2 : b ≤ l.length) : bareS (textS l (skip l p : Nat) (b : Nat)) = boxes l p (b - p) := by
  have hge := skip_ge (l := l) (p := p)
  unfold textS
  rw [if_neg (by omega)]
  rw [bare_txs hp _ (by omega), show b - p = (skip l p - p) + (b - skip l p) by omega, boxes_add, boxes_glue (skip l p - p) (fun j h1 h2 => skip_before h1 (by omega)), List.nil_append]
  rw [show p + (skip l p - p) = skip l p by omega]
  simp

theorem boxes_len {l : List Item} (hp : ∀ x ∈ l, plainI x) {a : Nat} : ∀ n, a + n ≤ l.length → (boxes l a n).length ≤ 100 * n
  | 0, _ => by simp [boxes]
  | n + 1, h => by
    have ih := boxes_len hp n (by omega : a + n ≤ l.length)
    have := (hp _ (nth_mem (by omega : a + n < l.length))).1
    simp only [boxes, List.length_append]
    split <;> simp <;> omega

end Go.Proofs.Ytcammfdljiingaa

/-
  The law of the lines (complete), on the abstract machine.
-/
set_option linter.unusedSimpArgs false
set_option linter.unusedVariables false
set_option maxHeartbeats 8000000
namespace Go.Proofs.Ytcammfdljiingaa
open Go Go.Abs

/-- What both answer for valid items. -/
theorem brk_cases {l : List Item} {w : Int} (hv : valid l) (hw : widthOk w) : ((∀ us, ¬ ∃ c, chain l w 0 us = some c ∧ endOf 0 us = l.length) ∧ brkS l w = ⟨[], 0, 18⟩ ∧ nth (rdualsS l w) (l.length - 1) = -1) ∨
    ∃ us c, Best l w 0 l.length c us ∧ brkS l w = ⟨mkLines l 0 us, c, 0⟩ ∧ nth (rdualsS l w) (l.length - 1) = c := by
  have hl := hv.1
  have hd := duals_nth (l := l) (w := w) (k := l.length - 1) (by omega)
  unfold brkS
  rw [if_pos ⟨hw, hv⟩]
  by_cases hi : (nth (plansS l w) (l.length - 1)).is = true
  · obtain ⟨us, e, hb⟩ := plans_best hl hi
    rw [if_pos hi] at hd ⊢
    exact .inr ⟨us, _, hb, by rw [e], hd⟩
  · rw [if_neg hi] at hd ⊢
    refine .inl ⟨fun us ⟨c, h1, h2⟩ => hi (plans_is hl h1 h2).1, rfl, hd⟩

set_option maxRecDepth 20000 in
theorem lines_run {l : List Int} {tk : Tok} {a : Int} (htk : Pt tk) (hl : ∀ x ∈ l, i64 x) (ha : i64 a) :
    ∃ h', Gives F 9 [.sl (l.map (.int .i64)) tk, .int .i64 a] Heap.empty (.bool true) h' := by
  suffices hs : CV F 9 [.sl (l.map (.int .i64)) tk, .int .i64 a] Heap.empty (fun r _ => r = .bool true) by
    obtain ⟨r, h', g, rfl⟩ := hs; exact ⟨h', g⟩
  obtain ⟨li, e1, v1, p1, n1⟩ := items_w (t := tk) hl htk
  have s1 : short li := fun j => by
    by_cases hj : j < li.length
    · exact (p1 _ (nth_mem hj)).1
    · rw [nth, List.getD_eq_getElem?_getD, List.getElem?_eq_none (by omega)]; simp [default, instInhabitedItem.default]
  have B1 := around_bound a (m := 24) (by omega)
  generalize hw0 : aroundS a 24 = w0 at B1
  have hw : widthOk (1 + w0) := by unfold widthOk; omega
  have hl1 := v1.1
  obtain ⟨t1, pt1, tn1, b1⟩ := way_ex (w := 1 + w0) (l := li) (t := .none) (.inl rfl) (by omega)
  have d1 := duals_v (l := li) (t := .none) (w := 1 + w0) (.inl rfl) (by omega)
  rw [if_pos ⟨hw, v1⟩, duals_eq v1 hw] at d1
  have hdl : (rdualsS li (1 + w0)).length = li.length := by rw [rdualsS, List.length_map, plansS_len]
  have hcs := brk_cases v1 hw
  generalize hD : rdualsS li (1 + w0) = D at d1 hdl hcs
  refine CV_wp (fn := c9) rfl ?_
  dsimp only [c9]
  rcases hcs with ⟨_, hb, hd⟩ | ⟨us, c, hB, hb, hd⟩
  · rw [hb] at b1
    simp only [List.map_nil] at b1
    try simp (maxSteps := 4000000) (disch := first | assumption | omega | (simp only [push_next, put_next, empty_next, List.length_cons, List.length_nil] <;> omega) | exact _root_.id rfl | exact _root_.id (fun _ => rfl) | fail) only [↓pre, post, Int.reduceEq, Int.reduceLT, Int.reduceLE, Int.reduceAdd, Int.reduceSub, Int.reduceMul, Int.reduceNeg, Nat.reduceLT, Nat.reduceSub, Nat.reduceMul, Nat.reduceAdd, Nat.reduceLeDiff, reduceIte, reduceCtorEq, Nat.reduceEqDiff, e1, hw0, around_v, b1, d1, hdl, hd, lives_v]
    repeat' (first
      | (refine ifP_pos (by first | assumption | omega) ?_ <;> try simp (maxSteps := 4000000) (disch := first | assumption | omega | (simp only [push_next, put_next, empty_next, List.length_cons, List.length_nil] <;> omega) | exact _root_.id rfl | exact _root_.id (fun _ => rfl) | fail) only [↓pre, post, Int.reduceEq, Int.reduceLT, Int.reduceLE, Int.reduceAdd, Int.reduceSub, Int.reduceMul, Int.reduceNeg, Nat.reduceLT, Nat.reduceSub, Nat.reduceMul, Nat.reduceAdd, Nat.reduceLeDiff, reduceIte, reduceCtorEq, Nat.reduceEqDiff, e1, hw0, around_v, b1, d1, hdl, hd, lives_v])
      | (refine ifP_neg (by first | assumption | omega) ?_ <;> try simp (maxSteps := 4000000) (disch := first | assumption | omega | (simp only [push_next, put_next, empty_next, List.length_cons, List.length_nil] <;> omega) | exact _root_.id rfl | exact _root_.id (fun _ => rfl) | fail) only [↓pre, post, Int.reduceEq, Int.reduceLT, Int.reduceLE, Int.reduceAdd, Int.reduceSub, Int.reduceMul, Int.reduceNeg, Nat.reduceLT, Nat.reduceSub, Nat.reduceMul, Nat.reduceAdd, Nat.reduceLeDiff, reduceIte, reduceCtorEq, Nat.reduceEqDiff, e1, hw0, around_v, b1, d1, hdl, hd, lives_v])
      | (refine ifP_intro (fun hyp => ?_) (fun hyp => ?_) <;> first | simp (maxSteps := 4000000) (disch := first | assumption | omega | (simp only [push_next, put_next, empty_next, List.length_cons, List.length_nil] <;> omega) | exact _root_.id rfl | exact _root_.id (fun _ => rfl) | fail) only [↓pre, post, Int.reduceEq, Int.reduceLT, Int.reduceLE, Int.reduceAdd, Int.reduceSub, Int.reduceMul, Int.reduceNeg, Nat.reduceLT, Nat.reduceSub, Nat.reduceMul, Nat.reduceAdd, Nat.reduceLeDiff, reduceIte, reduceCtorEq, Nat.reduceEqDiff, e1, hw0, around_v, b1, d1, hdl, hd, lives_v, eq_false hyp] | simp (maxSteps := 4000000) (disch := first | assumption | omega | (simp only [push_next, put_next, empty_next, List.length_cons, List.length_nil] <;> omega) | exact _root_.id rfl | exact _root_.id (fun _ => rfl) | fail) only [↓pre, post, Int.reduceEq, Int.reduceLT, Int.reduceLE, Int.reduceAdd, Int.reduceSub, Int.reduceMul, Int.reduceNeg, Nat.reduceLT, Nat.reduceSub, Nat.reduceMul, Nat.reduceAdd, Nat.reduceLeDiff, reduceIte, reduceCtorEq, Nat.reduceEqDiff, e1, hw0, around_v, b1, d1, hdl, hd, lives_v, eq_true hyp] | skip))
  · rw [hb] at b1
    have hls : (mkLines li 0 us).length = us.length := mkLines_len li 0 us
    have hul : us.length ≤ 1000 := by
      have := brk_len (l := li) (w := 1 + w0) (by omega)
      rw [hb] at this
      simp only [hls] at this
      exact this
    obtain ⟨hc, he, _⟩ := hB
    try simp (maxSteps := 4000000) (disch := first | assumption | omega | (simp only [push_next, put_next, empty_next, List.length_cons, List.length_nil] <;> omega) | exact _root_.id rfl | exact _root_.id (fun _ => rfl) | fail) only [↓pre, post, Int.reduceEq, Int.reduceLT, Int.reduceLE, Int.reduceAdd, Int.reduceSub, Int.reduceMul, Int.reduceNeg, Nat.reduceLT, Nat.reduceSub, Nat.reduceMul, Nat.reduceAdd, Nat.reduceLeDiff, reduceIte, reduceCtorEq, Nat.reduceEqDiff, e1, hw0, around_v, b1, d1, hdl]
    repeat' (first
      | (refine ifP_pos (by first | assumption | omega) ?_ <;> try simp (maxSteps := 4000000) (disch := first | assumption | omega | (simp only [push_next, put_next, empty_next, List.length_cons, List.length_nil] <;> omega) | exact _root_.id rfl | exact _root_.id (fun _ => rfl) | fail) only [↓pre, post, Int.reduceEq, Int.reduceLT, Int.reduceLE, Int.reduceAdd, Int.reduceSub, Int.reduceMul, Int.reduceNeg, Nat.reduceLT, Nat.reduceSub, Nat.reduceMul, Nat.reduceAdd, Nat.reduceLeDiff, reduceIte, reduceCtorEq, Nat.reduceEqDiff, e1, hw0, around_v, b1, d1, hdl])
      | (refine ifP_neg (by first | assumption | omega) ?_ <;> try simp (maxSteps := 4000000) (disch := first | assumption | omega | (simp only [push_next, put_next, empty_next, List.length_cons, List.length_nil] <;> omega) | exact _root_.id rfl | exact _root_.id (fun _ => rfl) | fail) only [↓pre, post, Int.reduceEq, Int.reduceLT, Int.reduceLE, Int.reduceAdd, Int.reduceSub, Int.reduceMul, Int.reduceNeg, Nat.reduceLT, Nat.reduceSub, Nat.reduceMul, Nat.reduceAdd, Nat.reduceLeDiff, reduceIte, reduceCtorEq, Nat.reduceEqDiff, e1, hw0, around_v, b1, d1, hdl])
      | (refine ifP_intro (fun hyp => ?_) (fun hyp => ?_) <;> first | simp (maxSteps := 4000000) (disch := first | assumption | omega | (simp only [push_next, put_next, empty_next, List.length_cons, List.length_nil] <;> omega) | exact _root_.id rfl | exact _root_.id (fun _ => rfl) | fail) only [↓pre, post, Int.reduceEq, Int.reduceLT, Int.reduceLE, Int.reduceAdd, Int.reduceSub, Int.reduceMul, Int.reduceNeg, Nat.reduceLT, Nat.reduceSub, Nat.reduceMul, Nat.reduceAdd, Nat.reduceLeDiff, reduceIte, reduceCtorEq, Nat.reduceEqDiff, e1, hw0, around_v, b1, d1, hdl, eq_false hyp] | simp (maxSteps := 4000000) (disch := first | assumption | omega | (simp only [push_next, put_next, empty_next, List.length_cons, List.length_nil] <;> omega) | exact _root_.id rfl | exact _root_.id (fun _ => rfl) | fail) only [↓pre, post, Int.reduceEq, Int.reduceLT, Int.reduceLE, Int.reduceAdd, Int.reduceSub, Int.reduceMul, Int.reduceNeg, Nat.reduceLT, Nat.reduceSub, Nat.reduceMul, Nat.reduceAdd, Nat.reduceLeDiff, reduceIte, reduceCtorEq, Nat.reduceEqDiff, e1, hw0, around_v, b1, d1, hdl, eq_true hyp] | skip))
    refine w_loop (fun m vs h0 => ∃ (i : Nat) (s : Int) (k10 : Int) (x13 x14 x15 x16 x17 x18 x19 x20 x21 x22 : AVal), m = us.length - i ∧ i ≤ us.length ∧ chain li (1 + w0) 0 (us.take i) = some s ∧ 0 ≤ s ∧ s ≤ 5000000000 * i ∧ endOf 0 (us.take i) ≤ li.length ∧ k10 = (endOf 0 (us.take i) : Int) - 1 ∧
      vs = [.sl (l.map (.int .i64)) tk, .int .i64 a, .bool false, .sl (items li) .none, .int .i64 (1 + w0), .sl ((mkLines li 0 us).map Ln.toA) t1, .int .i64 c, .int .i64 0, .sl (D.map (.int .i64)) .none, .int .i64 s, .int .i64 k10, .str (boxes li 0 (endOf 0 (us.take i))), .int .i64 i, x13, x14, x15, x16, x17, x18, x19, x20, x21, x22]) us.length
      ⟨0, 0, -1, _, _, _, _, _, _, _, _, _, _, rfl, by omega, rfl, by omega, by omega, by simp [endOf], by simp [endOf], rfl⟩ ?_
    rintro m vs h0 ⟨i, s, k10, x13, x14, x15, x16, x17, x18, x19, x20, x21, x22, rfl, hi, hs, hs0, hs1, hp, rfl, rfl⟩
    by_cases hlt : i < us.length
    · obtain ⟨s', e, q1, q2, q3, q4, q5⟩ := chain_take hc hlt
      rw [hs] at q1
      simp only [Option.some.injEq] at q1
      subst q1
      generalize hP : endOf 0 (us.take i) = p at *
      have he' := edge_lt q2
      unfold edge at q2
      split at q2
      · rename_i hok
        simp only [Option.some.injEq] at q2
        have hcb := cost_bound v1 hw hok
        rw [q2] at hcb
        have hnb := nat_bound v1 hok.1 hok.2.1
        have hnw := hok.2.2.2.2.2
        have K1 : PV F 27 [.sl (items li) .none, .int .i64 (skip li p), .int .i64 ((nth us i : Nat) : Int), .int .i64 (1 + w0)] = some (.int .i64 e) := by
          rw [cost_v (.inl rfl) (by omega), cost_eq, ((costR_line (l := li) (w := 1 + w0) (p := p) (b := nth us i) v1 hw).2 hok), q2]
        have K2 : PV F 29 [.sl (items li) .none, .int .i64 ((p : Int) - 1)] = some (.int .i64 (skip li p)) := refStart_v p rfl (by omega) (by omega)
        have K3 : PV F 31 [.sl (items li) .none, .int .i64 (skip li p), .int .i64 ((nth us i : Nat) : Int)] = some (.int .i64 (natS li (skip li p) (nth us i))) := natural_v v1 hok.1 hok.2.1
        have K4 : PV F 23 [.sl (items li) .none, .agg [.int .i64 (skip li p), .int .i64 ((nth us i : Nat) : Int), .int .i64 (natS li (skip li p) (nth us i))]] = some (.str (textS li ((skip li p : Nat) : Int) ((nth us i : Nat) : Int))) := text_v s1 (by omega) (by unfold i64; omega)
        have hbx := boxes_len p1 (a := 0) p (by omega)
        have hbx2 := boxes_len p1 (a := p) (nth us i - p) (by omega)
        have hbl := bare_line p1 hok.1 hok.2.1
        have hsp := boxes_add li 0 p (nth us i - p)
        rw [show p + (nth us i - p) = nth us i by omega, Nat.zero_add] at hsp
        have htl : (textS li ((skip li p : Nat) : Int) ((nth us i : Nat) : Int)).length < 1000000 := by
          unfold textS
          split
          · simp
          · have := txs_len s1 (((nth us i : Nat) : Int).toNat - 1) ((skip li p : Nat) : Int).toNat (((nth us i : Nat) : Int).toNat - ((skip li p : Nat) : Int).toNat)
            omega
        have K5 := bare_v htl
        rw [hbl] at K5
        try simp (maxSteps := 4000000) (disch := first | assumption | omega | (simp only [push_next, put_next, empty_next, List.length_cons, List.length_nil] <;> omega) | exact _root_.id rfl | exact _root_.id (fun _ => rfl) | fail) only [↓pre, post, Int.reduceEq, Int.reduceLT, Int.reduceLE, Int.reduceAdd, Int.reduceSub, Int.reduceMul, Int.reduceNeg, Nat.reduceLT, Nat.reduceSub, Nat.reduceMul, Nat.reduceAdd, Nat.reduceLeDiff, reduceIte, reduceCtorEq, Nat.reduceEqDiff, hls, q5, Ln.toA, K1, K2, K3, K4, K5]
        repeat' (first
          | (refine ifP_pos (by first | assumption | omega) ?_ <;> try simp (maxSteps := 4000000) (disch := first | assumption | omega | (simp only [push_next, put_next, empty_next, List.length_cons, List.length_nil] <;> omega) | exact _root_.id rfl | exact _root_.id (fun _ => rfl) | fail) only [↓pre, post, Int.reduceEq, Int.reduceLT, Int.reduceLE, Int.reduceAdd, Int.reduceSub, Int.reduceMul, Int.reduceNeg, Nat.reduceLT, Nat.reduceSub, Nat.reduceMul, Nat.reduceAdd, Nat.reduceLeDiff, reduceIte, reduceCtorEq, Nat.reduceEqDiff, hls, q5, Ln.toA, K1, K2, K3, K4, K5])
          | (refine ifP_neg (by first | assumption | omega) ?_ <;> try simp (maxSteps := 4000000) (disch := first | assumption | omega | (simp only [push_next, put_next, empty_next, List.length_cons, List.length_nil] <;> omega) | exact _root_.id rfl | exact _root_.id (fun _ => rfl) | fail) only [↓pre, post, Int.reduceEq, Int.reduceLT, Int.reduceLE, Int.reduceAdd, Int.reduceSub, Int.reduceMul, Int.reduceNeg, Nat.reduceLT, Nat.reduceSub, Nat.reduceMul, Nat.reduceAdd, Nat.reduceLeDiff, reduceIte, reduceCtorEq, Nat.reduceEqDiff, hls, q5, Ln.toA, K1, K2, K3, K4, K5])
          | (refine ifP_intro (fun hyp => ?_) (fun hyp => ?_) <;> first | simp (maxSteps := 4000000) (disch := first | assumption | omega | (simp only [push_next, put_next, empty_next, List.length_cons, List.length_nil] <;> omega) | exact _root_.id rfl | exact _root_.id (fun _ => rfl) | fail) only [↓pre, post, Int.reduceEq, Int.reduceLT, Int.reduceLE, Int.reduceAdd, Int.reduceSub, Int.reduceMul, Int.reduceNeg, Nat.reduceLT, Nat.reduceSub, Nat.reduceMul, Nat.reduceAdd, Nat.reduceLeDiff, reduceIte, reduceCtorEq, Nat.reduceEqDiff, hls, q5, Ln.toA, K1, K2, K3, K4, K5, eq_false hyp] | simp (maxSteps := 4000000) (disch := first | assumption | omega | (simp only [push_next, put_next, empty_next, List.length_cons, List.length_nil] <;> omega) | exact _root_.id rfl | exact _root_.id (fun _ => rfl) | fail) only [↓pre, post, Int.reduceEq, Int.reduceLT, Int.reduceLE, Int.reduceAdd, Int.reduceSub, Int.reduceMul, Int.reduceNeg, Nat.reduceLT, Nat.reduceSub, Nat.reduceMul, Nat.reduceAdd, Nat.reduceLeDiff, reduceIte, reduceCtorEq, Nat.reduceEqDiff, hls, q5, Ln.toA, K1, K2, K3, K4, K5, eq_true hyp] | skip))
        exact lp_n ⟨us.length - (i + 1), by omega, i + 1, s + e, ((nth us i : Nat) : Int) - 1, _, _, _, _, _, _, _, _, _, _, rfl, by omega, q3, by omega, by omega, by rw [q4]; omega, by rw [q4], by rw [q4, hsp]; rfl⟩
      · simp at q2
    · have hie : i = us.length := by omega
      subst hie
      rw [List.take_length] at *
      rw [hc] at hs
      simp only [Option.some.injEq] at hs
      subst hs
      rw [he]
      try simp (maxSteps := 4000000) (disch := first | assumption | omega | (simp only [push_next, put_next, empty_next, List.length_cons, List.length_nil] <;> omega) | exact _root_.id rfl | exact _root_.id (fun _ => rfl) | fail) only [↓pre, post, Int.reduceEq, Int.reduceLT, Int.reduceLE, Int.reduceAdd, Int.reduceSub, Int.reduceMul, Int.reduceNeg, Nat.reduceLT, Nat.reduceSub, Nat.reduceMul, Nat.reduceAdd, Nat.reduceLeDiff, reduceIte, reduceCtorEq, Nat.reduceEqDiff, hls]
      repeat' (first
        | (refine ifP_pos (by first | assumption | omega) ?_ <;> try simp (maxSteps := 4000000) (disch := first | assumption | omega | (simp only [push_next, put_next, empty_next, List.length_cons, List.length_nil] <;> omega) | exact _root_.id rfl | exact _root_.id (fun _ => rfl) | fail) only [↓pre, post, Int.reduceEq, Int.reduceLT, Int.reduceLE, Int.reduceAdd, Int.reduceSub, Int.reduceMul, Int.reduceNeg, Nat.reduceLT, Nat.reduceSub, Nat.reduceMul, Nat.reduceAdd, Nat.reduceLeDiff, reduceIte, reduceCtorEq, Nat.reduceEqDiff, hls])
        | (refine ifP_neg (by first | assumption | omega) ?_ <;> try simp (maxSteps := 4000000) (disch := first | assumption | omega | (simp only [push_next, put_next, empty_next, List.length_cons, List.length_nil] <;> omega) | exact _root_.id rfl | exact _root_.id (fun _ => rfl) | fail) only [↓pre, post, Int.reduceEq, Int.reduceLT, Int.reduceLE, Int.reduceAdd, Int.reduceSub, Int.reduceMul, Int.reduceNeg, Nat.reduceLT, Nat.reduceSub, Nat.reduceMul, Nat.reduceAdd, Nat.reduceLeDiff, reduceIte, reduceCtorEq, Nat.reduceEqDiff, hls])
        | (refine ifP_intro (fun hyp => ?_) (fun hyp => ?_) <;> first | simp (maxSteps := 4000000) (disch := first | assumption | omega | (simp only [push_next, put_next, empty_next, List.length_cons, List.length_nil] <;> omega) | exact _root_.id rfl | exact _root_.id (fun _ => rfl) | fail) only [↓pre, post, Int.reduceEq, Int.reduceLT, Int.reduceLE, Int.reduceAdd, Int.reduceSub, Int.reduceMul, Int.reduceNeg, Nat.reduceLT, Nat.reduceSub, Nat.reduceMul, Nat.reduceAdd, Nat.reduceLeDiff, reduceIte, reduceCtorEq, Nat.reduceEqDiff, hls, eq_false hyp] | simp (maxSteps := 4000000) (disch := first | assumption | omega | (simp only [push_next, put_next, empty_next, List.length_cons, List.length_nil] <;> omega) | exact _root_.id rfl | exact _root_.id (fun _ => rfl) | fail) only [↓pre, post, Int.reduceEq, Int.reduceLT, Int.reduceLE, Int.reduceAdd, Int.reduceSub, Int.reduceMul, Int.reduceNeg, Nat.reduceLT, Nat.reduceSub, Nat.reduceMul, Nat.reduceAdd, Nat.reduceLeDiff, reduceIte, reduceCtorEq, Nat.reduceEqDiff, hls, eq_true hyp] | skip))
      refine w_loop (fun m vs h0 => ∃ (i : Nat) (x17 x18 x19 x20 x21 x22 : AVal), m = li.length - i ∧ i ≤ li.length ∧
        vs = [.sl (l.map (.int .i64)) tk, .int .i64 a, .bool false, .sl (items li) .none, .int .i64 (1 + w0), .sl ((mkLines li 0 us).map Ln.toA) t1, .int .i64 c, .int .i64 0, .sl (D.map (.int .i64)) .none, .int .i64 c, .int .i64 ((li.length : Int) - 1), .str (boxes li 0 li.length), .int .i64 us.length, x13, x14, .str (boxes li 0 i), .int .i64 i, x17, x18, x19, x20, x21, x22]) li.length
        ⟨0, _, _, _, _, _, _, rfl, by omega, rfl⟩ ?_
      rintro m vs h0 ⟨i, x17, x18, x19, x20, x21, x22, rfl, hi, rfl⟩
      have hdn : nth D (li.length - 1) = c := hd
      have hbx := boxes_len p1 (a := 0) i (by omega)
      have htx := s1 i
      have hbs : boxes li 0 (i + 1) = boxes li 0 i ++ (if (nth li i).kind = 0 then (nth li i).text else []) := by rw [boxes, Nat.zero_add]
      try simp (maxSteps := 4000000) (disch := first | assumption | omega | (simp only [push_next, put_next, empty_next, List.length_cons, List.length_nil] <;> omega) | exact _root_.id rfl | exact _root_.id (fun _ => rfl) | fail) only [↓pre, post, Int.reduceEq, Int.reduceLT, Int.reduceLE, Int.reduceAdd, Int.reduceSub, Int.reduceMul, Int.reduceNeg, Nat.reduceLT, Nat.reduceSub, Nat.reduceMul, Nat.reduceAdd, Nat.reduceLeDiff, reduceIte, reduceCtorEq, Nat.reduceEqDiff, hdl, hdn, lives_v, Item.toA, AVal.cells]
      repeat' (first
        | (refine ifP_pos (by first | assumption | omega) ?_ <;> try simp (maxSteps := 4000000) (disch := first | assumption | omega | (simp only [push_next, put_next, empty_next, List.length_cons, List.length_nil] <;> omega) | exact _root_.id rfl | exact _root_.id (fun _ => rfl) | fail) only [↓pre, post, Int.reduceEq, Int.reduceLT, Int.reduceLE, Int.reduceAdd, Int.reduceSub, Int.reduceMul, Int.reduceNeg, Nat.reduceLT, Nat.reduceSub, Nat.reduceMul, Nat.reduceAdd, Nat.reduceLeDiff, reduceIte, reduceCtorEq, Nat.reduceEqDiff, hdl, hdn, lives_v, Item.toA, AVal.cells])
        | (refine ifP_neg (by first | assumption | omega) ?_ <;> try simp (maxSteps := 4000000) (disch := first | assumption | omega | (simp only [push_next, put_next, empty_next, List.length_cons, List.length_nil] <;> omega) | exact _root_.id rfl | exact _root_.id (fun _ => rfl) | fail) only [↓pre, post, Int.reduceEq, Int.reduceLT, Int.reduceLE, Int.reduceAdd, Int.reduceSub, Int.reduceMul, Int.reduceNeg, Nat.reduceLT, Nat.reduceSub, Nat.reduceMul, Nat.reduceAdd, Nat.reduceLeDiff, reduceIte, reduceCtorEq, Nat.reduceEqDiff, hdl, hdn, lives_v, Item.toA, AVal.cells])
        | (refine ifP_intro (fun hyp => ?_) (fun hyp => ?_) <;> first | simp (maxSteps := 4000000) (disch := first | assumption | omega | (simp only [push_next, put_next, empty_next, List.length_cons, List.length_nil] <;> omega) | exact _root_.id rfl | exact _root_.id (fun _ => rfl) | fail) only [↓pre, post, Int.reduceEq, Int.reduceLT, Int.reduceLE, Int.reduceAdd, Int.reduceSub, Int.reduceMul, Int.reduceNeg, Nat.reduceLT, Nat.reduceSub, Nat.reduceMul, Nat.reduceAdd, Nat.reduceLeDiff, reduceIte, reduceCtorEq, Nat.reduceEqDiff, hdl, hdn, lives_v, Item.toA, AVal.cells, eq_false hyp] | simp (maxSteps := 4000000) (disch := first | assumption | omega | (simp only [push_next, put_next, empty_next, List.length_cons, List.length_nil] <;> omega) | exact _root_.id rfl | exact _root_.id (fun _ => rfl) | fail) only [↓pre, post, Int.reduceEq, Int.reduceLT, Int.reduceLE, Int.reduceAdd, Int.reduceSub, Int.reduceMul, Int.reduceNeg, Nat.reduceLT, Nat.reduceSub, Nat.reduceMul, Nat.reduceAdd, Nat.reduceLeDiff, reduceIte, reduceCtorEq, Nat.reduceEqDiff, hdl, hdn, lives_v, Item.toA, AVal.cells, eq_true hyp] | skip))
      · exact lp_n ⟨li.length - (i + 1), by omega, i + 1, _, _, _, _, _, _, rfl, by omega, by rw [hbs, if_pos hyp]; rfl⟩
      · exact lp_n ⟨li.length - (i + 1), by omega, i + 1, _, _, _, _, _, _, rfl, by omega, by rw [hbs, if_neg hyp, List.append_nil]; rfl⟩
      · exact hyp (by rw [show i = li.length by omega])

end Go.Proofs.Ytcammfdljiingaa

/-
  The plain laws of scaled and of longer items.
-/
set_option linter.unusedSimpArgs false
set_option linter.unusedVariables false
set_option maxHeartbeats 8000000
namespace Go.Proofs.Ytcammfdljiingaa
open Go Go.Abs

/-! ### scaled -/
def scI (x : Item) : Item := { x with width := 2 * x.width, cost := 4 * x.cost }
def sc2 (l : List Item) : List Item := l.map scI
theorem sc_len (l : List Item) : (sc2 l).length = l.length := by simp [sc2]
theorem nth_out {l : List Item} {i : Nat} (h : ¬ i < l.length) : nth l i = default := by rw [nth, List.getD_eq_getElem?_getD, List.getElem?_eq_none (by omega)]; rfl
theorem sc_nth (l : List Item) (i : Nat) : nth (sc2 l) i = scI (nth l i) := by
  by_cases h : i < l.length
  · exact nth_map scI l h
  · rw [nth_out h, nth_out (by rw [sc_len]; exact h)]; rfl
theorem sc_kind (l : List Item) (i : Nat) : (nth (sc2 l) i).kind = (nth l i).kind := by rw [sc_nth]; rfl
theorem sc_skip (l : List Item) : ∀ (k i : Nat), l.length - i = k → skip (sc2 l) i = skip l i
  | 0, i, h => by rw [skip_end (l := sc2 l) (by rw [sc_len]; omega), skip_end (by omega)]
  | k + 1, i, h => by
    by_cases hk : (nth l i).kind = 1
    · rw [skip_glue (by omega) hk, skip_glue (by rw [sc_len]; omega) (by rw [sc_kind]; exact hk), sc_skip l k (i + 1) (by omega)]
    · rw [skip_stop (by omega) hk, skip_stop (by rw [sc_len]; omega) (by rw [sc_kind]; exact hk)]
theorem sc_starts (l : List Item) (a : Nat) : starts (sc2 l) a ↔ starts l a := by unfold starts; rw [sc_kind, sc_kind]
theorem sc_ws (l : List Item) (a : Nat) : ∀ n, ws (sc2 l) a n = 2 * ws l a n
  | 0 => by simp [ws]
  | n + 1 => by
    rw [ws, ws, sc_ws l a n, sc_kind, sc_nth]
    split
    · omega
    · simp only [scI]; omega
theorem sc_nat (l : List Item) (a b : Nat) : natS (sc2 l) a b = 2 * natS l a b := by
  unfold natS
  rw [sc_ws, sc_kind, sc_nth]
  split
  · simp only [scI]; omega
  · omega
theorem sc_line (l : List Item) (w : Int) (a b : Nat) : lineOk (sc2 l) (2 * w) a b ↔ lineOk l w a b := by
  unfold lineOk
  rw [sc_len, sc_starts, sc_kind, sc_nat]
  simp only [sc_kind]
  have : 2 * natS l a b ≤ 2 * w ↔ natS l a b ≤ w := by omega
  rw [this]
theorem sc_cost (l : List Item) (w : Int) (a b : Nat) : costN (sc2 l) (2 * w) a b = 4 * costN l w a b := by
  unfold costN
  rw [sc_kind, sc_nat, sc_nth]
  split
  · omega
  · have e : 2 * w - 2 * natS l a b = 2 * (w - natS l a b) := by omega
    rw [e]
    generalize w - natS l a b = d
    simp only [scI]
    have : 2 * d * (2 * d) = 4 * (d * d) := by rw [Int.mul_assoc, Int.mul_left_comm d 2 d]; omega
    omega
theorem sc_edge (l : List Item) (w : Int) (p b : Nat) : edge (sc2 l) (2 * w) p b = (edge l w p b).map (4 * ·) := by
  unfold edge
  rw [sc_skip l _ p rfl, sc_cost]
  by_cases h : lineOk l w (skip l p) b
  · rw [if_pos h, if_pos ((sc_line l w _ _).2 h)]; rfl
  · rw [if_neg h, if_neg (fun k => h ((sc_line l w _ _).1 k))]; rfl
theorem sc_chain (l : List Item) (w : Int) : ∀ (p : Nat) (us : List Nat), chain (sc2 l) (2 * w) p us = (chain l w p us).map (4 * ·)
  | p, [] => rfl
  | p, b :: us => by
    rw [chain, chain, sc_edge, sc_chain l w b us]
    cases edge l w p b <;> cases chain l w b us <;> simp
    omega
theorem sc_pref {c d : Int} {us vs : List Nat} : pref (4 * c) us (4 * d) vs ↔ pref c us d vs := by
  unfold pref
  have h1 : 4 * c < 4 * d ↔ c < d := by omega
  have h2 : 4 * c = 4 * d ↔ c = d := by omega
  rw [h1, h2]
theorem sc_best {l : List Item} {w : Int} {p q : Nat} {c : Int} {us : List Nat} (h : Best l w p q c us) : Best (sc2 l) (2 * w) p q (4 * c) us := by
  refine ⟨by rw [sc_chain, h.1]; rfl, h.2.1, fun d cs hc he hp => ?_⟩
  rw [sc_chain] at hc
  cases hx : chain l w p cs with
  | none => rw [hx] at hc; simp at hc
  | some d' =>
    rw [hx] at hc
    simp only [Option.map_some, Option.some.injEq] at hc
    subst hc
    exact h.2.2 d' cs hx he (sc_pref.1 hp)
theorem sc_mk (l : List Item) : ∀ (p : Nat) (us : List Nat), mkLines (sc2 l) p us = (mkLines l p us).map fun x => ⟨x.a, x.b, 2 * x.n⟩
  | p, [] => rfl
  | p, b :: us => by
    simp only [mkLines, List.map_cons, sc_mk l b us, sc_skip l _ p rfl, sc_nat]

theorem sc_valid {l : List Item} (hv : valid l) (hp : ∀ x ∈ l, plainI x) : valid (sc2 l) := by
  refine ⟨by rw [sc_len]; exact hv.1, by rw [sc_len]; exact hv.2.1, by rw [sc_len, sc_kind]; exact hv.2.2.1, fun i hi => ?_⟩
  rw [sc_len] at hi
  rw [sc_nth]
  have h1 := hv.2.2.2 i hi
  have h2 := hp _ (nth_mem hi)
  unfold okItem at h1 ⊢
  unfold plainI at h2
  simp only [scI]
  omega

theorem sc_brk {l : List Item} {w : Int} (hv : valid l) (hp : ∀ x ∈ l, plainI x) (hw : widthOk w) (hw2 : widthOk (2 * w)) :
    brkS (sc2 l) (2 * w) = ⟨(brkS l w).ls.map fun x => ⟨x.a, x.b, 2 * x.n⟩, 4 * (brkS l w).n, (brkS l w).e⟩ := by
  have hv2 := sc_valid hv hp
  rcases brk_cases hv hw with ⟨h1, h2, _⟩ | ⟨us, c, h1, h2, _⟩
  · rcases brk_cases hv2 hw2 with ⟨k1, k2, _⟩ | ⟨us, c, k1, k2, _⟩
    · rw [h2, k2]; rfl
    · exfalso
      have := k1.1
      rw [sc_chain] at this
      cases hx : chain l w 0 us with
      | none => rw [hx] at this; simp at this
      | some d => exact h1 us ⟨d, hx, by have := k1.2.1; rw [sc_len] at this; exact this⟩
  · have hb := sc_best h1
    rcases brk_cases hv2 hw2 with ⟨k1, k2, _⟩ | ⟨us2, c2, k1, k2, _⟩
    · exact (k1 us ⟨_, hb.1, by rw [sc_len]; exact hb.2.1⟩).elim
    · rw [sc_len] at k1
      obtain ⟨rfl, rfl⟩ := hb.unique k1
      rw [h2, k2, sc_mk]

/-! ### longer -/
theorem lg_skip {l m : List Item} (h3 : (nth l (l.length - 1)).kind = 3) : ∀ (k p : Nat), l.length - p = k → p < l.length → skip (l ++ m) p = skip l p
  | 0, p, h, hp => by omega
  | k + 1, p, h, hp => by
    by_cases hk : (nth l p).kind = 1
    · have hne : p ≠ l.length - 1 := fun e => by rw [e] at hk; omega
      rw [skip_glue hp hk, skip_glue (by rw [List.length_append]; omega) (by rw [nth_append_left hp]; exact hk), lg_skip h3 k (p + 1) (by omega) (by omega)]
    · rw [skip_stop hp hk, skip_stop (by rw [List.length_append]; omega) (by rw [nth_append_left hp]; exact hk)]
theorem lg_ws {l m : List Item} {a : Nat} : ∀ n, a + n ≤ l.length → ws (l ++ m) a n = ws l a n
  | 0, _ => rfl
  | n + 1, h => by rw [ws, ws, lg_ws n (by omega), nth_append_left (by omega)]
theorem lg_nat {l m : List Item} {a b : Nat} (h1 : a < b) (h2 : b ≤ l.length) : natS (l ++ m) a b = natS l a b := by
  unfold natS
  rw [lg_ws _ (by omega), nth_append_left (by omega)]
theorem lg_line {l m : List Item} {w : Int} {a b : Nat} (h2 : b ≤ l.length) : lineOk (l ++ m) w a b ↔ lineOk l w a b := by
  unfold lineOk
  constructor
  · rintro ⟨k1, k2, k3, k4, k5, k6⟩
    rw [lg_nat k1 h2] at k6
    rw [nth_append_left (by omega)] at k4
    unfold starts at k3 ⊢
    rw [nth_append_left (by omega), nth_append_left (by omega)] at k3
    exact ⟨k1, h2, k3, k4, fun i hi ha => by have := k5 i hi ha; rw [nth_append_left (by omega)] at this; exact this, k6⟩
  · rintro ⟨k1, k2, k3, k4, k5, k6⟩
    unfold starts at k3 ⊢
    rw [lg_nat k1 h2, nth_append_left (by omega), nth_append_left (by omega), nth_append_left (by omega)]
    exact ⟨k1, by rw [List.length_append]; omega, k3, k4, fun i hi ha => by rw [nth_append_left (by omega)]; exact k5 i hi ha, k6⟩
theorem lg_cost {l m : List Item} {w : Int} {a b : Nat} (h1 : a < b) (h2 : b ≤ l.length) : costN (l ++ m) w a b = costN l w a b := by
  unfold costN
  rw [lg_nat h1 h2, nth_append_left (by omega)]
theorem lg_edge {l m : List Item} {w : Int} {p b : Nat} (h3 : (nth l (l.length - 1)).kind = 3) (h2 : b ≤ l.length) : edge (l ++ m) w p b = edge l w p b := by
  unfold edge
  by_cases hp : p < b
  · rw [lg_skip h3 _ p rfl (by omega)]
    by_cases h : lineOk l w (skip l p) b
    · rw [if_pos h, if_pos ((lg_line h2).2 h), lg_cost h.1 h2]
    · rw [if_neg h, if_neg (fun k => h ((lg_line h2).1 k))]
  · have g1 := skip_ge (l := l) (p := p)
    have g2 := skip_ge (l := l ++ m) (p := p)
    rw [if_neg (fun k => by have := k.1; omega), if_neg (fun k => by have := k.1; omega)]
theorem lg_chain {l m : List Item} {w : Int} (h3 : (nth l (l.length - 1)).kind = 3) : ∀ (us : List Nat) (p : Nat) (c : Int), endOf p us ≤ l.length → (chain (l ++ m) w p us = some c ↔ chain l w p us = some c)
  | [], p, c, _ => by simp [chain]
  | b :: us, p, c, h => by
    simp only [endOf] at h
    constructor
    · intro hc
      unfold chain at hc
      split at hc
      · rename_i x y h1 h2
        have hb := (endOf_ge h2).1
        rw [lg_edge h3 (by omega)] at h1
        rw [chain, h1, (lg_chain h3 us b y h).1 h2]
        exact hc
      · simp at hc
    · intro hc
      unfold chain at hc
      split at hc
      · rename_i x y h1 h2
        have hb := (edge_lt h1).2
        rw [← lg_edge (m := m) h3 hb] at h1
        rw [chain, h1, (lg_chain h3 us b y h).2 h2]
        exact hc
      · simp at hc
theorem lg_best {l m : List Item} {w : Int} (h3 : (nth l (l.length - 1)).kind = 3) {k : Nat} (hk : k ≤ l.length) {c : Int} {us : List Nat} : Best (l ++ m) w 0 k c us ↔ Best l w 0 k c us := by
  constructor
  · rintro ⟨h1, h2, h4⟩
    exact ⟨(lg_chain h3 us 0 c (by omega)).1 h1, h2, fun d cs hc he => h4 d cs ((lg_chain h3 cs 0 d (by omega)).2 hc) he⟩
  · rintro ⟨h1, h2, h4⟩
    exact ⟨(lg_chain h3 us 0 c (by omega)).2 h1, h2, fun d cs hc he => h4 d cs ((lg_chain h3 cs 0 d (by omega)).1 hc) he⟩
theorem lg_duals {l m : List Item} {w : Int} (h3 : (nth l (l.length - 1)).kind = 3) : (rdualsS (l ++ m) w).take l.length = rdualsS l w := by
  have n1 : (rdualsS (l ++ m) w).length = (l ++ m).length := by rw [rdualsS, List.length_map, plansS_len]
  have n2 : (rdualsS l w).length = l.length := by rw [rdualsS, List.length_map, plansS_len]
  have n3 : (l ++ m).length = l.length + m.length := List.length_append
  refine ext_nth (by rw [List.length_take]; omega) fun k hk => ?_
  rw [List.length_take] at hk
  have e1 : nth ((rdualsS (l ++ m) w).take l.length) k = nth (rdualsS (l ++ m) w) k := by
    rw [nth_eq (by rw [List.length_take]; omega), nth_eq (by omega), List.getElem_take]
  rw [e1, duals_nth (by omega), duals_nth (by omega)]
  by_cases hi : (nth (plansS l w) k).is = true
  · obtain ⟨us, _, hb⟩ := plans_best_k (by omega) hi
    have hb2 := (lg_best (m := m) h3 (by omega)).2 hb
    have hi2 := (plans_is_k (l := l ++ m) (k := k) (by omega) hb2.1 hb2.2.1).1
    obtain ⟨vs, _, hb3⟩ := plans_best_k (by omega) hi2
    rw [if_pos hi, if_pos hi2]
    exact (hb3.unique hb2).1
  · rw [if_neg hi, if_neg]
    intro hi2
    obtain ⟨us, _, hb⟩ := plans_best_k (by omega) hi2
    have hb2 := (lg_best (m := m) h3 (by omega)).1 hb
    exact hi (plans_is_k (k := k) (by omega) hb2.1 hb2.2.1).1
theorem lg_valid {l m : List Item} (h1 : valid l) (h2 : valid m) (hl : l.length + m.length ≤ 512) : valid (l ++ m) := by
  have n3 : (l ++ m).length = l.length + m.length := List.length_append
  have k1 := h1.1
  have k2 := h2.1
  refine ⟨by omega, by omega, ?_, fun i hi => ?_⟩
  · rw [nth_append_right (by omega), n3, show l.length + m.length - 1 - l.length = m.length - 1 by omega]
    exact h2.2.2.1
  · by_cases h : i < l.length
    · rw [nth_append_left h]; exact h1.2.2.2 i h
    · rw [nth_append_right (by omega)]; exact h2.2.2.2 _ (by omega)

end Go.Proofs.Ytcammfdljiingaa

/-
  The law of scaled items, on the abstract machine.
-/
set_option linter.unusedSimpArgs false
set_option linter.unusedVariables false
set_option maxHeartbeats 8000000
namespace Go.Proofs.Ytcammfdljiingaa
open Go Go.Abs

theorem grow_strip {h : Heap} {ty sz : Nat} {tk : Tok} (g : Grow h ty sz tk) : Pt (tokS tk) := g.elim (fun e => .inr (by rw [e]; rfl)) (fun ⟨id, e, _⟩ => .inl (by rw [e]; rfl))

set_option maxRecDepth 20000 in
theorem scaled_run {l : List Int} {tk : Tok} {l2 : List Int} {tk2 : Tok} {a : Int} (htk : Pt tk) (hl : ∀ x ∈ l, i64 x) (htk2 : Pt tk2) (hl2 : ∀ x ∈ l2, i64 x) (ha : i64 a) :
    ∃ h', Gives F 6 [.sl (l.map (.int .i64)) tk, .sl (l2.map (.int .i64)) tk2, .int .i64 a] Heap.empty (.bool true) h' := by
  suffices hs : CV F 6 [.sl (l.map (.int .i64)) tk, .sl (l2.map (.int .i64)) tk2, .int .i64 a] Heap.empty (fun r _ => r = .bool true) by
    obtain ⟨r, h', g, rfl⟩ := hs; exact ⟨h', g⟩
  obtain ⟨li, e1, v1, p1, n1⟩ := items_w (t := tk) hl htk
  obtain ⟨mi, e2, v2, p2, n2⟩ := items_w (t := tk2) hl2 htk2
  have B1 := around_bound a (m := 24) (by omega)
  generalize hw0 : aroundS a 24 = w0 at B1
  have hw : widthOk (1 + w0) := by unfold widthOk; omega
  have hw2 : widthOk (2 * (1 + w0)) := by unfold widthOk; omega
  have hl1 := v1.1
  have hm1 := v2.1
  obtain ⟨t1, pt1, _, b1⟩ := way_ex (w := 1 + w0) (l := li) (t := .none) (.inl rfl) (by omega)
  have hb2 := fun t ht => way_ex (w := 2 * (1 + w0)) (l := sc2 li) (t := t) ht (by rw [sc_len]; omega)
  rw [sc_brk v1 p1 hw hw2] at hb2
  have hbl := brk_len (l := li) (w := 1 + w0) (by omega)
  have hbb : ∀ x ∈ (brkS li (1 + w0)).ls, -100000000 ≤ x.n ∧ x.n ≤ 100000000 := fun x hx => by
    have hg := (plans_good (w := 1 + w0) v1 (li.length - 1)).2
    unfold brkS at hx
    rw [if_pos ⟨hw, v1⟩] at hx
    split at hx
    · have := hg x hx; unfold lnOk at this; omega
    · simp at hx
  have hbn : 0 ≤ (brkS li (1 + w0)).n ∧ (brkS li (1 + w0)).n ≤ 10000000000000 := by
    have := plans_bnd (w := 1 + w0) v1 hw (li.length - 1)
    unfold brkS
    rw [if_pos ⟨hw, v1⟩]
    split
    · simp only; omega
    · simp
  generalize brkS li (1 + w0) = S at *
  obtain ⟨ls, n, e⟩ := S
  simp only at b1 hb2 hbl hbb hbn
  have d1 := duals_v (l := li) (t := .none) (w := 1 + w0) (.inl rfl) (by omega)
  rw [if_pos ⟨hw, v1⟩, duals_eq v1 hw] at d1
  have vL := lg_valid v1 v2 (by omega)
  have nL : (li ++ mi).length = li.length + mi.length := List.length_append
  have d2 := fun t ht => duals_v (l := li ++ mi) (t := t) (w := 1 + w0) ht (by omega)
  rw [if_pos ⟨hw, vL⟩, duals_eq vL hw] at d2
  have hdl : (rdualsS li (1 + w0)).length = li.length := by rw [rdualsS, List.length_map, plansS_len]
  have hdL : (rdualsS (li ++ mi) (1 + w0)).length = li.length + mi.length := by rw [rdualsS, List.length_map, plansS_len, nL]
  have htk' := lg_duals (m := mi) (w := 1 + w0) v1.2.2.1
  generalize rdualsS li (1 + w0) = D at *
  generalize rdualsS (li ++ mi) (1 + w0) = E at *
  refine CV_wp (fn := c6) rfl ?_
  dsimp only [c6]
  try simp (maxSteps := 4000000) (disch := first | assumption | omega | (simp only [push_next, put_next, empty_next, List.length_cons, List.length_nil] <;> omega) | exact _root_.id rfl | exact _root_.id (fun _ => rfl) | fail) only [↓pre, post, Int.reduceEq, Int.reduceLT, Int.reduceLE, Int.reduceAdd, Int.reduceSub, Int.reduceMul, Int.reduceNeg, Nat.reduceLT, Nat.reduceSub, Nat.reduceMul, Nat.reduceAdd, Nat.reduceLeDiff, reduceIte, reduceCtorEq, Nat.reduceEqDiff, e1, hw0, around_v]
  repeat' (first
    | (refine ifP_pos (by first | assumption | omega) ?_ <;> try simp (maxSteps := 4000000) (disch := first | assumption | omega | (simp only [push_next, put_next, empty_next, List.length_cons, List.length_nil] <;> omega) | exact _root_.id rfl | exact _root_.id (fun _ => rfl) | fail) only [↓pre, post, Int.reduceEq, Int.reduceLT, Int.reduceLE, Int.reduceAdd, Int.reduceSub, Int.reduceMul, Int.reduceNeg, Nat.reduceLT, Nat.reduceSub, Nat.reduceMul, Nat.reduceAdd, Nat.reduceLeDiff, reduceIte, reduceCtorEq, Nat.reduceEqDiff, e1, hw0, around_v])
    | (refine ifP_neg (by first | assumption | omega) ?_ <;> try simp (maxSteps := 4000000) (disch := first | assumption | omega | (simp only [push_next, put_next, empty_next, List.length_cons, List.length_nil] <;> omega) | exact _root_.id rfl | exact _root_.id (fun _ => rfl) | fail) only [↓pre, post, Int.reduceEq, Int.reduceLT, Int.reduceLE, Int.reduceAdd, Int.reduceSub, Int.reduceMul, Int.reduceNeg, Nat.reduceLT, Nat.reduceSub, Nat.reduceMul, Nat.reduceAdd, Nat.reduceLeDiff, reduceIte, reduceCtorEq, Nat.reduceEqDiff, e1, hw0, around_v])
    | (refine ifP_intro (fun hyp => ?_) (fun hyp => ?_) <;> first | simp (maxSteps := 4000000) (disch := first | assumption | omega | (simp only [push_next, put_next, empty_next, List.length_cons, List.length_nil] <;> omega) | exact _root_.id rfl | exact _root_.id (fun _ => rfl) | fail) only [↓pre, post, Int.reduceEq, Int.reduceLT, Int.reduceLE, Int.reduceAdd, Int.reduceSub, Int.reduceMul, Int.reduceNeg, Nat.reduceLT, Nat.reduceSub, Nat.reduceMul, Nat.reduceAdd, Nat.reduceLeDiff, reduceIte, reduceCtorEq, Nat.reduceEqDiff, e1, hw0, around_v, eq_false hyp] | simp (maxSteps := 4000000) (disch := first | assumption | omega | (simp only [push_next, put_next, empty_next, List.length_cons, List.length_nil] <;> omega) | exact _root_.id rfl | exact _root_.id (fun _ => rfl) | fail) only [↓pre, post, Int.reduceEq, Int.reduceLT, Int.reduceLE, Int.reduceAdd, Int.reduceSub, Int.reduceMul, Int.reduceNeg, Nat.reduceLT, Nat.reduceSub, Nat.reduceMul, Nat.reduceAdd, Nat.reduceLeDiff, reduceIte, reduceCtorEq, Nat.reduceEqDiff, e1, hw0, around_v, eq_true hyp] | skip))
  refine w_loop (fun m vs h0 => ∃ (i : Nat) (tk3 : Tok) (x8 x9 x10 x11 x12 x13 x14 x15 x16 x17 x18 x19 x20 x21 x22 : AVal), m = li.length - i ∧ i ≤ li.length ∧ Grow h0 47 8 tk3 ∧ (tk3 = .nil ↔ (sc2 li).take i = []) ∧
    vs = [.sl (l.map (.int .i64)) tk, .sl (l2.map (.int .i64)) tk2, .int .i64 a, .bool false, .sl (items li) .none, .int .i64 (1 + w0), .sl (items ((sc2 li).take i)) tk3, .int .i64 i, x8, x9, x10, x11, x12, x13, x14, x15, x16, x17, x18, x19, x20, x21, x22]) li.length
    ⟨0, .nil, _, _, _, _, _, _, _, _, _, _, _, _, _, _, _, rfl, by omega, .inl rfl, by simp, rfl⟩ ?_
  rintro m vs h0 ⟨i, tk3, x8, x9, x10, x11, x12, x13, x14, x15, x16, x17, x18, x19, x20, x21, x22, rfl, hi, hg, hnil, rfl⟩
  have hst : strip (.sl (items ((sc2 li).take i)) tk3) = some (.sl (items ((sc2 li).take i)) (tokS tk3)) := strip_tkS _ _
  by_cases hlt : i < li.length
  · have hx := p1 _ (nth_mem hlt)
    have hok := v1.2.2.2 i hlt
    unfold plainI at hx
    unfold okItem at hok
    try simp (maxSteps := 4000000) (disch := first | assumption | omega | (simp only [push_next, put_next, empty_next, List.length_cons, List.length_nil] <;> omega) | exact _root_.id rfl | exact _root_.id (fun _ => rfl) | fail) only [↓pre, post, Int.reduceEq, Int.reduceLT, Int.reduceLE, Int.reduceAdd, Int.reduceSub, Int.reduceMul, Int.reduceNeg, Nat.reduceLT, Nat.reduceSub, Nat.reduceMul, Nat.reduceAdd, Nat.reduceLeDiff, reduceIte, reduceCtorEq, Nat.reduceEqDiff, Item.toA, AVal.cells]
    repeat' (first
      | (refine ifP_pos (by first | assumption | omega) ?_ <;> try simp (maxSteps := 4000000) (disch := first | assumption | omega | (simp only [push_next, put_next, empty_next, List.length_cons, List.length_nil] <;> omega) | exact _root_.id rfl | exact _root_.id (fun _ => rfl) | fail) only [↓pre, post, Int.reduceEq, Int.reduceLT, Int.reduceLE, Int.reduceAdd, Int.reduceSub, Int.reduceMul, Int.reduceNeg, Nat.reduceLT, Nat.reduceSub, Nat.reduceMul, Nat.reduceAdd, Nat.reduceLeDiff, reduceIte, reduceCtorEq, Nat.reduceEqDiff, Item.toA, AVal.cells])
      | (refine ifP_neg (by first | assumption | omega) ?_ <;> try simp (maxSteps := 4000000) (disch := first | assumption | omega | (simp only [push_next, put_next, empty_next, List.length_cons, List.length_nil] <;> omega) | exact _root_.id rfl | exact _root_.id (fun _ => rfl) | fail) only [↓pre, post, Int.reduceEq, Int.reduceLT, Int.reduceLE, Int.reduceAdd, Int.reduceSub, Int.reduceMul, Int.reduceNeg, Nat.reduceLT, Nat.reduceSub, Nat.reduceMul, Nat.reduceAdd, Nat.reduceLeDiff, reduceIte, reduceCtorEq, Nat.reduceEqDiff, Item.toA, AVal.cells])
      | (refine ifP_intro (fun hyp => ?_) (fun hyp => ?_) <;> first | simp (maxSteps := 4000000) (disch := first | assumption | omega | (simp only [push_next, put_next, empty_next, List.length_cons, List.length_nil] <;> omega) | exact _root_.id rfl | exact _root_.id (fun _ => rfl) | fail) only [↓pre, post, Int.reduceEq, Int.reduceLT, Int.reduceLE, Int.reduceAdd, Int.reduceSub, Int.reduceMul, Int.reduceNeg, Nat.reduceLT, Nat.reduceSub, Nat.reduceMul, Nat.reduceAdd, Nat.reduceLeDiff, reduceIte, reduceCtorEq, Nat.reduceEqDiff, Item.toA, AVal.cells, eq_false hyp] | simp (maxSteps := 4000000) (disch := first | assumption | omega | (simp only [push_next, put_next, empty_next, List.length_cons, List.length_nil] <;> omega) | exact _root_.id rfl | exact _root_.id (fun _ => rfl) | fail) only [↓pre, post, Int.reduceEq, Int.reduceLT, Int.reduceLE, Int.reduceAdd, Int.reduceSub, Int.reduceMul, Int.reduceNeg, Nat.reduceLT, Nat.reduceSub, Nat.reduceMul, Nat.reduceAdd, Nat.reduceLeDiff, reduceIte, reduceCtorEq, Nat.reduceEqDiff, Item.toA, AVal.cells, eq_true hyp] | skip))
    refine append_K (f := Item.toA) ((sc2 li).take i) [scI (nth li i)] (fun _ => rfl) (fun _ => rfl) (fun _ => rfl) rfl rfl (hg.elim .inl fun ⟨id, e, g⟩ => .inr ⟨id, e, get_push_old g⟩) hnil (by simp; omega) (by omega) (by omega) (by omega) ?_
    intro h' tk' g' n' _ _ _ _
    have htk : (sc2 li).take (i + 1) = (sc2 li).take i ++ [scI (nth li i)] := by
      rw [List.take_succ_eq_append_getElem (by rw [sc_len]; omega), ← nth_eq (by rw [sc_len]; omega), sc_nth]
    try simp (maxSteps := 4000000) (disch := first | assumption | omega | (simp only [push_next, put_next, empty_next, List.length_cons, List.length_nil] <;> omega) | exact _root_.id rfl | exact _root_.id (fun _ => rfl) | fail) only [↓pre, post, Int.reduceEq, Int.reduceLT, Int.reduceLE, Int.reduceAdd, Int.reduceSub, Int.reduceMul, Int.reduceNeg, Nat.reduceLT, Nat.reduceSub, Nat.reduceMul, Nat.reduceAdd, Nat.reduceLeDiff, reduceIte, reduceCtorEq, Nat.reduceEqDiff]
    repeat' (first
      | (refine ifP_pos (by first | assumption | omega) ?_ <;> try simp (maxSteps := 4000000) (disch := first | assumption | omega | (simp only [push_next, put_next, empty_next, List.length_cons, List.length_nil] <;> omega) | exact _root_.id rfl | exact _root_.id (fun _ => rfl) | fail) only [↓pre, post, Int.reduceEq, Int.reduceLT, Int.reduceLE, Int.reduceAdd, Int.reduceSub, Int.reduceMul, Int.reduceNeg, Nat.reduceLT, Nat.reduceSub, Nat.reduceMul, Nat.reduceAdd, Nat.reduceLeDiff, reduceIte, reduceCtorEq, Nat.reduceEqDiff])
      | (refine ifP_neg (by first | assumption | omega) ?_ <;> try simp (maxSteps := 4000000) (disch := first | assumption | omega | (simp only [push_next, put_next, empty_next, List.length_cons, List.length_nil] <;> omega) | exact _root_.id rfl | exact _root_.id (fun _ => rfl) | fail) only [↓pre, post, Int.reduceEq, Int.reduceLT, Int.reduceLE, Int.reduceAdd, Int.reduceSub, Int.reduceMul, Int.reduceNeg, Nat.reduceLT, Nat.reduceSub, Nat.reduceMul, Nat.reduceAdd, Nat.reduceLeDiff, reduceIte, reduceCtorEq, Nat.reduceEqDiff])
      | (refine ifP_intro (fun hyp => ?_) (fun hyp => ?_) <;> first | simp (maxSteps := 4000000) (disch := first | assumption | omega | (simp only [push_next, put_next, empty_next, List.length_cons, List.length_nil] <;> omega) | exact _root_.id rfl | exact _root_.id (fun _ => rfl) | fail) only [↓pre, post, Int.reduceEq, Int.reduceLT, Int.reduceLE, Int.reduceAdd, Int.reduceSub, Int.reduceMul, Int.reduceNeg, Nat.reduceLT, Nat.reduceSub, Nat.reduceMul, Nat.reduceAdd, Nat.reduceLeDiff, reduceIte, reduceCtorEq, Nat.reduceEqDiff, eq_false hyp] | simp (maxSteps := 4000000) (disch := first | assumption | omega | (simp only [push_next, put_next, empty_next, List.length_cons, List.length_nil] <;> omega) | exact _root_.id rfl | exact _root_.id (fun _ => rfl) | fail) only [↓pre, post, Int.reduceEq, Int.reduceLT, Int.reduceLE, Int.reduceAdd, Int.reduceSub, Int.reduceMul, Int.reduceNeg, Nat.reduceLT, Nat.reduceSub, Nat.reduceMul, Nat.reduceAdd, Nat.reduceLeDiff, reduceIte, reduceCtorEq, Nat.reduceEqDiff, eq_true hyp] | skip))
    exact lp_n ⟨li.length - (i + 1), by omega, i + 1, tk', _, _, _, _, _, _, _, _, _, _, _, _, _, _, _, rfl, by omega, g', by rw [n', htk], by rw [htk]; rfl⟩
  · have hie : i = li.length := by omega
    have htl : (sc2 li).take i = sc2 li := by rw [hie, ← sc_len, List.take_length]
    rw [htl] at hst hnil ⊢
    obtain ⟨t2, pt2, _, b2⟩ := hb2 (tokS tk3) (grow_strip hg)
    have hlm : (ls.map fun x => (⟨x.a, x.b, 2 * x.n⟩ : Ln)).length = ls.length := by simp
    generalize hLS : (ls.map fun x => (⟨x.a, x.b, 2 * x.n⟩ : Ln)) = ls2 at *
    try simp (maxSteps := 4000000) (disch := first | assumption | omega | (simp only [push_next, put_next, empty_next, List.length_cons, List.length_nil] <;> omega) | exact _root_.id rfl | exact _root_.id (fun _ => rfl) | fail) only [↓pre, post, Int.reduceEq, Int.reduceLT, Int.reduceLE, Int.reduceAdd, Int.reduceSub, Int.reduceMul, Int.reduceNeg, Nat.reduceLT, Nat.reduceSub, Nat.reduceMul, Nat.reduceAdd, Nat.reduceLeDiff, reduceIte, reduceCtorEq, Nat.reduceEqDiff, hst, b1, b2, hlm]
    repeat' (first
      | (refine ifP_pos (by first | assumption | omega) ?_ <;> try simp (maxSteps := 4000000) (disch := first | assumption | omega | (simp only [push_next, put_next, empty_next, List.length_cons, List.length_nil] <;> omega) | exact _root_.id rfl | exact _root_.id (fun _ => rfl) | fail) only [↓pre, post, Int.reduceEq, Int.reduceLT, Int.reduceLE, Int.reduceAdd, Int.reduceSub, Int.reduceMul, Int.reduceNeg, Nat.reduceLT, Nat.reduceSub, Nat.reduceMul, Nat.reduceAdd, Nat.reduceLeDiff, reduceIte, reduceCtorEq, Nat.reduceEqDiff, hst, b1, b2, hlm])
      | (refine ifP_neg (by first | assumption | omega) ?_ <;> try simp (maxSteps := 4000000) (disch := first | assumption | omega | (simp only [push_next, put_next, empty_next, List.length_cons, List.length_nil] <;> omega) | exact _root_.id rfl | exact _root_.id (fun _ => rfl) | fail) only [↓pre, post, Int.reduceEq, Int.reduceLT, Int.reduceLE, Int.reduceAdd, Int.reduceSub, Int.reduceMul, Int.reduceNeg, Nat.reduceLT, Nat.reduceSub, Nat.reduceMul, Nat.reduceAdd, Nat.reduceLeDiff, reduceIte, reduceCtorEq, Nat.reduceEqDiff, hst, b1, b2, hlm])
      | (refine ifP_intro (fun hyp => ?_) (fun hyp => ?_) <;> first | simp (maxSteps := 4000000) (disch := first | assumption | omega | (simp only [push_next, put_next, empty_next, List.length_cons, List.length_nil] <;> omega) | exact _root_.id rfl | exact _root_.id (fun _ => rfl) | fail) only [↓pre, post, Int.reduceEq, Int.reduceLT, Int.reduceLE, Int.reduceAdd, Int.reduceSub, Int.reduceMul, Int.reduceNeg, Nat.reduceLT, Nat.reduceSub, Nat.reduceMul, Nat.reduceAdd, Nat.reduceLeDiff, reduceIte, reduceCtorEq, Nat.reduceEqDiff, hst, b1, b2, hlm, eq_false hyp] | simp (maxSteps := 4000000) (disch := first | assumption | omega | (simp only [push_next, put_next, empty_next, List.length_cons, List.length_nil] <;> omega) | exact _root_.id rfl | exact _root_.id (fun _ => rfl) | fail) only [↓pre, post, Int.reduceEq, Int.reduceLT, Int.reduceLE, Int.reduceAdd, Int.reduceSub, Int.reduceMul, Int.reduceNeg, Nat.reduceLT, Nat.reduceSub, Nat.reduceMul, Nat.reduceAdd, Nat.reduceLeDiff, reduceIte, reduceCtorEq, Nat.reduceEqDiff, hst, b1, b2, hlm, eq_true hyp] | skip))
    refine w_loop (fun m vs h1 => ∃ (j : Nat) (x16 x17 x18 x19 x20 x21 x22 : AVal), m = ls.length - j ∧ j ≤ ls.length ∧ h1 = h0 ∧
      vs = [.sl (l.map (.int .i64)) tk, .sl (l2.map (.int .i64)) tk2, .int .i64 a, .bool false, .sl (items li) .none, .int .i64 (1 + w0), .sl (items (sc2 li)) tk3, .int .i64 i, x8, .sl (ls.map Ln.toA) t1, .int .i64 n, .int .i64 e, .sl (ls2.map Ln.toA) t2, .int .i64 (4 * n), .int .i64 e, .int .i64 j, x16, x17, x18, x19, x20, x21, x22]) ls.length
      ⟨0, _, _, _, _, _, _, _, rfl, by omega, rfl, rfl⟩ ?_
    rintro m vs h1 ⟨j, x16, x17, x18, x19, x20, x21, x22, rfl, hj, rfl, rfl⟩
    by_cases hjl : j < ls.length
    · have hx := hbb _ (nth_mem hjl)
      have hn2 : nth ls2 j = ⟨(nth ls j).a, (nth ls j).b, 2 * (nth ls j).n⟩ := by rw [← hLS]; exact nth_map _ _ hjl
      try simp (maxSteps := 4000000) (disch := first | assumption | omega | (simp only [push_next, put_next, empty_next, List.length_cons, List.length_nil] <;> omega) | exact _root_.id rfl | exact _root_.id (fun _ => rfl) | fail) only [↓pre, post, Int.reduceEq, Int.reduceLT, Int.reduceLE, Int.reduceAdd, Int.reduceSub, Int.reduceMul, Int.reduceNeg, Nat.reduceLT, Nat.reduceSub, Nat.reduceMul, Nat.reduceAdd, Nat.reduceLeDiff, reduceIte, reduceCtorEq, Nat.reduceEqDiff, Ln.toA, AVal.cells, hlm, hn2]
      repeat' (first
        | (refine ifP_pos (by first | assumption | omega) ?_ <;> try simp (maxSteps := 4000000) (disch := first | assumption | omega | (simp only [push_next, put_next, empty_next, List.length_cons, List.length_nil] <;> omega) | exact _root_.id rfl | exact _root_.id (fun _ => rfl) | fail) only [↓pre, post, Int.reduceEq, Int.reduceLT, Int.reduceLE, Int.reduceAdd, Int.reduceSub, Int.reduceMul, Int.reduceNeg, Nat.reduceLT, Nat.reduceSub, Nat.reduceMul, Nat.reduceAdd, Nat.reduceLeDiff, reduceIte, reduceCtorEq, Nat.reduceEqDiff, Ln.toA, AVal.cells, hlm, hn2])
        | (refine ifP_neg (by first | assumption | omega) ?_ <;> try simp (maxSteps := 4000000) (disch := first | assumption | omega | (simp only [push_next, put_next, empty_next, List.length_cons, List.length_nil] <;> omega) | exact _root_.id rfl | exact _root_.id (fun _ => rfl) | fail) only [↓pre, post, Int.reduceEq, Int.reduceLT, Int.reduceLE, Int.reduceAdd, Int.reduceSub, Int.reduceMul, Int.reduceNeg, Nat.reduceLT, Nat.reduceSub, Nat.reduceMul, Nat.reduceAdd, Nat.reduceLeDiff, reduceIte, reduceCtorEq, Nat.reduceEqDiff, Ln.toA, AVal.cells, hlm, hn2])
        | (refine ifP_intro (fun hyp => ?_) (fun hyp => ?_) <;> first | simp (maxSteps := 4000000) (disch := first | assumption | omega | (simp only [push_next, put_next, empty_next, List.length_cons, List.length_nil] <;> omega) | exact _root_.id rfl | exact _root_.id (fun _ => rfl) | fail) only [↓pre, post, Int.reduceEq, Int.reduceLT, Int.reduceLE, Int.reduceAdd, Int.reduceSub, Int.reduceMul, Int.reduceNeg, Nat.reduceLT, Nat.reduceSub, Nat.reduceMul, Nat.reduceAdd, Nat.reduceLeDiff, reduceIte, reduceCtorEq, Nat.reduceEqDiff, Ln.toA, AVal.cells, hlm, hn2, eq_false hyp] | simp (maxSteps := 4000000) (disch := first | assumption | omega | (simp only [push_next, put_next, empty_next, List.length_cons, List.length_nil] <;> omega) | exact _root_.id rfl | exact _root_.id (fun _ => rfl) | fail) only [↓pre, post, Int.reduceEq, Int.reduceLT, Int.reduceLE, Int.reduceAdd, Int.reduceSub, Int.reduceMul, Int.reduceNeg, Nat.reduceLT, Nat.reduceSub, Nat.reduceMul, Nat.reduceAdd, Nat.reduceLeDiff, reduceIte, reduceCtorEq, Nat.reduceEqDiff, Ln.toA, AVal.cells, hlm, hn2, eq_true hyp] | skip))
      exact lp_n ⟨ls.length - (j + 1), by omega, j + 1, _, _, _, _, _, _, _, rfl, by omega, rfl, rfl⟩
    · try simp (maxSteps := 4000000) (disch := first | assumption | omega | (simp only [push_next, put_next, empty_next, List.length_cons, List.length_nil] <;> omega) | exact _root_.id rfl | exact _root_.id (fun _ => rfl) | fail) only [↓pre, post, Int.reduceEq, Int.reduceLT, Int.reduceLE, Int.reduceAdd, Int.reduceSub, Int.reduceMul, Int.reduceNeg, Nat.reduceLT, Nat.reduceSub, Nat.reduceMul, Nat.reduceAdd, Nat.reduceLeDiff, reduceIte, reduceCtorEq, Nat.reduceEqDiff, hlm]
      repeat' (first
        | (refine ifP_pos (by first | assumption | omega) ?_ <;> try simp (maxSteps := 4000000) (disch := first | assumption | omega | (simp only [push_next, put_next, empty_next, List.length_cons, List.length_nil] <;> omega) | exact _root_.id rfl | exact _root_.id (fun _ => rfl) | fail) only [↓pre, post, Int.reduceEq, Int.reduceLT, Int.reduceLE, Int.reduceAdd, Int.reduceSub, Int.reduceMul, Int.reduceNeg, Nat.reduceLT, Nat.reduceSub, Nat.reduceMul, Nat.reduceAdd, Nat.reduceLeDiff, reduceIte, reduceCtorEq, Nat.reduceEqDiff, hlm])
        | (refine ifP_neg (by first | assumption | omega) ?_ <;> try simp (maxSteps := 4000000) (disch := first | assumption | omega | (simp only [push_next, put_next, empty_next, List.length_cons, List.length_nil] <;> omega) | exact _root_.id rfl | exact _root_.id (fun _ => rfl) | fail) only [↓pre, post, Int.reduceEq, Int.reduceLT, Int.reduceLE, Int.reduceAdd, Int.reduceSub, Int.reduceMul, Int.reduceNeg, Nat.reduceLT, Nat.reduceSub, Nat.reduceMul, Nat.reduceAdd, Nat.reduceLeDiff, reduceIte, reduceCtorEq, Nat.reduceEqDiff, hlm])
        | (refine ifP_intro (fun hyp => ?_) (fun hyp => ?_) <;> first | simp (maxSteps := 4000000) (disch := first | assumption | omega | (simp only [push_next, put_next, empty_next, List.length_cons, List.length_nil] <;> omega) | exact _root_.id rfl | exact _root_.id (fun _ => rfl) | fail) only [↓pre, post, Int.reduceEq, Int.reduceLT, Int.reduceLE, Int.reduceAdd, Int.reduceSub, Int.reduceMul, Int.reduceNeg, Nat.reduceLT, Nat.reduceSub, Nat.reduceMul, Nat.reduceAdd, Nat.reduceLeDiff, reduceIte, reduceCtorEq, Nat.reduceEqDiff, hlm, eq_false hyp] | simp (maxSteps := 4000000) (disch := first | assumption | omega | (simp only [push_next, put_next, empty_next, List.length_cons, List.length_nil] <;> omega) | exact _root_.id rfl | exact _root_.id (fun _ => rfl) | fail) only [↓pre, post, Int.reduceEq, Int.reduceLT, Int.reduceLE, Int.reduceAdd, Int.reduceSub, Int.reduceMul, Int.reduceNeg, Nat.reduceLT, Nat.reduceSub, Nat.reduceMul, Nat.reduceAdd, Nat.reduceLeDiff, reduceIte, reduceCtorEq, Nat.reduceEqDiff, hlm, eq_true hyp] | skip))
      refine append_K (f := Item.toA) (tk := .nil) [] li (fun _ => rfl) (fun _ => rfl) (fun _ => rfl) lenA_sl (elems_sl (fun _ => rfl)) (.inl rfl) (by simp) (by simp; omega) (by omega) (by omega) (by omega) ?_
      intro h2 tk4 g4 n4 _ _ _ _
      rw [List.nil_append] at n4 ⊢
      try simp (maxSteps := 4000000) (disch := first | assumption | omega | (simp only [push_next, put_next, empty_next, List.length_cons, List.length_nil] <;> omega) | exact _root_.id rfl | exact _root_.id (fun _ => rfl) | fail) only [↓pre, post, Int.reduceEq, Int.reduceLT, Int.reduceLE, Int.reduceAdd, Int.reduceSub, Int.reduceMul, Int.reduceNeg, Nat.reduceLT, Nat.reduceSub, Nat.reduceMul, Nat.reduceAdd, Nat.reduceLeDiff, reduceIte, reduceCtorEq, Nat.reduceEqDiff, e2]
      repeat' (first
        | (refine ifP_pos (by first | assumption | omega) ?_ <;> try simp (maxSteps := 4000000) (disch := first | assumption | omega | (simp only [push_next, put_next, empty_next, List.length_cons, List.length_nil] <;> omega) | exact _root_.id rfl | exact _root_.id (fun _ => rfl) | fail) only [↓pre, post, Int.reduceEq, Int.reduceLT, Int.reduceLE, Int.reduceAdd, Int.reduceSub, Int.reduceMul, Int.reduceNeg, Nat.reduceLT, Nat.reduceSub, Nat.reduceMul, Nat.reduceAdd, Nat.reduceLeDiff, reduceIte, reduceCtorEq, Nat.reduceEqDiff, e2])
        | (refine ifP_neg (by first | assumption | omega) ?_ <;> try simp (maxSteps := 4000000) (disch := first | assumption | omega | (simp only [push_next, put_next, empty_next, List.length_cons, List.length_nil] <;> omega) | exact _root_.id rfl | exact _root_.id (fun _ => rfl) | fail) only [↓pre, post, Int.reduceEq, Int.reduceLT, Int.reduceLE, Int.reduceAdd, Int.reduceSub, Int.reduceMul, Int.reduceNeg, Nat.reduceLT, Nat.reduceSub, Nat.reduceMul, Nat.reduceAdd, Nat.reduceLeDiff, reduceIte, reduceCtorEq, Nat.reduceEqDiff, e2])
        | (refine ifP_intro (fun hyp => ?_) (fun hyp => ?_) <;> first | simp (maxSteps := 4000000) (disch := first | assumption | omega | (simp only [push_next, put_next, empty_next, List.length_cons, List.length_nil] <;> omega) | exact _root_.id rfl | exact _root_.id (fun _ => rfl) | fail) only [↓pre, post, Int.reduceEq, Int.reduceLT, Int.reduceLE, Int.reduceAdd, Int.reduceSub, Int.reduceMul, Int.reduceNeg, Nat.reduceLT, Nat.reduceSub, Nat.reduceMul, Nat.reduceAdd, Nat.reduceLeDiff, reduceIte, reduceCtorEq, Nat.reduceEqDiff, e2, eq_false hyp] | simp (maxSteps := 4000000) (disch := first | assumption | omega | (simp only [push_next, put_next, empty_next, List.length_cons, List.length_nil] <;> omega) | exact _root_.id rfl | exact _root_.id (fun _ => rfl) | fail) only [↓pre, post, Int.reduceEq, Int.reduceLT, Int.reduceLE, Int.reduceAdd, Int.reduceSub, Int.reduceMul, Int.reduceNeg, Nat.reduceLT, Nat.reduceSub, Nat.reduceMul, Nat.reduceAdd, Nat.reduceLeDiff, reduceIte, reduceCtorEq, Nat.reduceEqDiff, e2, eq_true hyp] | skip))
      refine append_K (f := Item.toA) li mi (fun _ => rfl) (fun _ => rfl) (fun _ => rfl) lenA_sl (elems_sl (fun _ => rfl)) g4 n4 (by omega) (by omega) (by omega) (by omega) ?_
      intro h3 tk5 g5 n5 _ _ _ _
      have hs5 : strip (.sl ((li ++ mi).map Item.toA) tk5) = some (.sl ((li ++ mi).map Item.toA) (tokS tk5)) := strip_tkS _ _
      have d3 := d2 _ (grow_strip g5)
      have hsl : sliceA 1 (.sl (E.map (.int .i64)) .none) none (some (.int .i64 (li.length : Int))) = some (.sl (D.map (.int .i64)) .none) := by
        rw [slice_sl_b (sz := 1) (AVal.int .i64) E .none .i64 (li.length : Int) (by omega) (by omega) (fun _ => rfl) (fun h => by cases h), Int.toNat_natCast, htk']; rfl
      have hsi : PV F 16 [.sl (D.map (.int .i64)) .none, .sl (D.map (.int .i64)) .none] = some (.bool true) := by rw [sameInts_v (by omega)]; simp
      try simp (maxSteps := 4000000) (disch := first | assumption | omega | (simp only [push_next, put_next, empty_next, List.length_cons, List.length_nil] <;> omega) | exact _root_.id rfl | exact _root_.id (fun _ => rfl) | fail) only [↓pre, post, Int.reduceEq, Int.reduceLT, Int.reduceLE, Int.reduceAdd, Int.reduceSub, Int.reduceMul, Int.reduceNeg, Nat.reduceLT, Nat.reduceSub, Nat.reduceMul, Nat.reduceAdd, Nat.reduceLeDiff, reduceIte, reduceCtorEq, Nat.reduceEqDiff, hs5, d1, d3, hdl, hdL, nL, hsl, hsi, lives_v]
      repeat' (first
        | (refine ifP_pos (by first | assumption | omega) ?_ <;> try simp (maxSteps := 4000000) (disch := first | assumption | omega | (simp only [push_next, put_next, empty_next, List.length_cons, List.length_nil] <;> omega) | exact _root_.id rfl | exact _root_.id (fun _ => rfl) | fail) only [↓pre, post, Int.reduceEq, Int.reduceLT, Int.reduceLE, Int.reduceAdd, Int.reduceSub, Int.reduceMul, Int.reduceNeg, Nat.reduceLT, Nat.reduceSub, Nat.reduceMul, Nat.reduceAdd, Nat.reduceLeDiff, reduceIte, reduceCtorEq, Nat.reduceEqDiff, hs5, d1, d3, hdl, hdL, nL, hsl, hsi, lives_v])
        | (refine ifP_neg (by first | assumption | omega) ?_ <;> try simp (maxSteps := 4000000) (disch := first | assumption | omega | (simp only [push_next, put_next, empty_next, List.length_cons, List.length_nil] <;> omega) | exact _root_.id rfl | exact _root_.id (fun _ => rfl) | fail) only [↓pre, post, Int.reduceEq, Int.reduceLT, Int.reduceLE, Int.reduceAdd, Int.reduceSub, Int.reduceMul, Int.reduceNeg, Nat.reduceLT, Nat.reduceSub, Nat.reduceMul, Nat.reduceAdd, Nat.reduceLeDiff, reduceIte, reduceCtorEq, Nat.reduceEqDiff, hs5, d1, d3, hdl, hdL, nL, hsl, hsi, lives_v])
        | (refine ifP_intro (fun hyp => ?_) (fun hyp => ?_) <;> first | simp (maxSteps := 4000000) (disch := first | assumption | omega | (simp only [push_next, put_next, empty_next, List.length_cons, List.length_nil] <;> omega) | exact _root_.id rfl | exact _root_.id (fun _ => rfl) | fail) only [↓pre, post, Int.reduceEq, Int.reduceLT, Int.reduceLE, Int.reduceAdd, Int.reduceSub, Int.reduceMul, Int.reduceNeg, Nat.reduceLT, Nat.reduceSub, Nat.reduceMul, Nat.reduceAdd, Nat.reduceLeDiff, reduceIte, reduceCtorEq, Nat.reduceEqDiff, hs5, d1, d3, hdl, hdL, nL, hsl, hsi, lives_v, eq_false hyp] | simp (maxSteps := 4000000) (disch := first | assumption | omega | (simp only [push_next, put_next, empty_next, List.length_cons, List.length_nil] <;> omega) | exact _root_.id rfl | exact _root_.id (fun _ => rfl) | fail) only [↓pre, post, Int.reduceEq, Int.reduceLT, Int.reduceLE, Int.reduceAdd, Int.reduceSub, Int.reduceMul, Int.reduceNeg, Nat.reduceLT, Nat.reduceSub, Nat.reduceMul, Nat.reduceAdd, Nat.reduceLeDiff, reduceIte, reduceCtorEq, Nat.reduceEqDiff, hs5, d1, d3, hdl, hdL, nL, hsl, hsi, lives_v, eq_true hyp] | skip))

end Go.Proofs.Ytcammfdljiingaa
