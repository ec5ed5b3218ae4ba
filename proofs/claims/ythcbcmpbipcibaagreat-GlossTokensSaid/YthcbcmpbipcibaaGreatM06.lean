/-
  Merged from GlD GlE GlGlue GlE2 GlE3 GlSan GlL: The program's alphabet: Valid, Read, Tokens, Write.
-/
import Derived.Test.YthcbcmpbipcibaaGreatM05
import Derived.Test.YthcbcmpbipcibaaGreatM03
import Derived.Test.YthcbcmpbipcibaaGreatRows
set_option linter.unusedSimpArgs false
set_option linter.unusedVariables false
set_option linter.defProp false
set_option linter.constructorNameAsVariable false
/-
  The program's alphabet: Valid, Read, Tokens, Write.
-/
set_option maxHeartbeats 4000000
namespace Go.Proofs.YthcbcmpbipcibaaGreat
open Go Go.Abs Go.Gt
theorem valid_v (a : List Ltr) (u : Tok) (hu : Pt u) (ha : a.length ≤ 1000000) (ht : ∀ x ∈ a, x.text.length ≤ 1000000) : PV F 19 [.sl (a.map Ltr.val) u] = some (.bool (validA a)) := by
  refine PV_wp (fn := c19) rfl ?_
  dsimp only [oT, oN, oV, oG, oW, c19]
  replace fx := Dum_eq
  (first | refine go ?_ | exact goC | skip); repeat' (first | refine gP ?_ | exact gPc | refine gN ?_ | exact gNc | (refine gI ?_ ?_ <;> intro hyp <;> first | refine goF ?_ | exact goFc | refine goT ?_ | exact goTc | skip))
  refine CV_mono (index_c a u hu ha ht _) ?_
  rintro v h1 ⟨_, h2, h3⟩
  have n1 : binA .neq .mp .nilmp .nilmp = some (.bool false) := rfl
  have n2 : ∀ q, binA .neq .mp (.mp q) .nilmp = some (.bool true) := fun _ => rfl
  cases hv : validA a with
  | false =>
    rw [h2 hv]
    replace fx := @n1
    (first | refine go ?_ | exact goC | skip); repeat' (first | refine gP ?_ | exact gPc | refine gN ?_ | exact gNc | (refine gI ?_ ?_ <;> intro hyp <;> first | refine goF ?_ | exact goFc | refine goT ?_ | exact goTc | skip))
  | true =>
    obtain ⟨q, c, rfl, _⟩ := h3 hv
    replace fx := @n2
    (first | refine go ?_ | exact goC | skip); repeat' (first | refine gP ?_ | exact gPc | refine gN ?_ | exact gNc | (refine gI ?_ ?_ <;> intro hyp <;> first | refine goF ?_ | exact goFc | refine goT ?_ | exact goTc | skip))
theorem _root_.Go.Abs.Gr.nn {α : Type} {h : Heap} {ty sz : Nat} {l : List α} {tk : Tok} (g : Gr h ty sz l tk) (hne : l ≠ []) : tk ≠ .nil := by
  rcases g with ⟨e, _⟩ | ⟨i, rfl, _⟩
  · exact absurd e hne
  · simp
theorem read_c (a : List Ltr) (s : Bs) (u : Tok) (hu : Pt u) (ha : a.length ≤ 1000000) (hs : s.length ≤ 900000) (ht : ∀ x ∈ a, x.text.length ≤ 1000000) (h0 : Heap) :
    CV F 13 [.sl (a.map Ltr.val) u, .str s] h0 (fun v h' => ∃ tk, v = .tup [.sl ((readA a s).1.map intN) tk, .int .i64 (readA a s).2] ∧ Fr (fun _ => False) h0 h' ∧ ((readA a s).1 ≠ [] → tk ≠ .nil)) := by
  refine CV_wp (fn := c13) rfl ?_
  dsimp only [oT, oN, oV, oG, oW, c13]
  replace fx := Dum_eq
  (first | refine go ?_ | exact goC | skip); repeat' (first | refine gP ?_ | exact gPc | refine gN ?_ | exact gNc | (refine gI ?_ ?_ <;> intro hyp <;> first | refine goF ?_ | exact goFc | refine goT ?_ | exact goTc | skip))
  refine CV_mono (index_c a u hu ha ht _) ?_
  rintro v h1 ⟨f1, q2, q3⟩
  have n1 : binA .eql .mp .nilmp .nilmp = some (.bool true) := rfl
  have n2 : ∀ q, binA .eql .mp (.mp q) .nilmp = some (.bool false) := fun _ => rfl
  cases hva : validA a with
  | false =>
    rw [q2 hva, readA_inv hva]
    replace fx := @n1
    (first | refine go ?_ | exact goC | skip); repeat' (first | refine gP ?_ | exact gPc | refine gN ?_ | exact gNc | (refine gI ?_ ?_ <;> intro hyp <;> first | refine goF ?_ | exact goFc | refine goT ?_ | exact goTc | skip))
    exact ⟨_, rfl, f1, by simp⟩
  | true =>
    obtain ⟨q, c, rfl, hq, gm1⟩ := q3 hva
    clear q2 q3
    have hr : readA a s = readF a s (s.length + 1) 0 := by rw [readA, if_pos hva]
    rw [hr]
    generalize hR0 : readF a s (s.length + 1) 0 = R
    obtain ⟨l1, l2, l3, l4⟩ := valid_facts hva
    replace fx := @n2
    (first | refine go ?_ | exact goC | skip); repeat' (first | refine gP ?_ | exact gPc | refine gN ?_ | exact gNc | (refine gI ?_ ?_ <;> intro hyp <;> first | refine goF ?_ | exact goFc | refine goT ?_ | exact goTc | skip))
    refine w_loop (fun m vs h => ∃ (p f : Nat) (ls : List Nat) (tk : Tok) (x1 x2 x3 x4 x5 x6 x7 : AVal), m = s.length - p ∧ p ≤ s.length ∧ s.length < p + f ∧ R = (ls ++ (readF a s f p).1, (readF a s f p).2) ∧ ls.length ≤ p ∧
        vs = [.sl (a.map Ltr.val) u, .str s, .sl [] .nil, .int .i64 0, .mp q, .sl (ls.map intN) tk, .int .i64 (p : Int), x1, x2, x3, x4, x5, x6, x7] ∧ GrF (fun _ => False) h0 h 3 1 ls tk ∧ h.get q = some (.map .str c (esOf a a.length))) s.length
      ⟨0, s.length + 1, [], .nil, _, _, _, _, _, _, _, rfl, by omega, by omega, by rw [hR0]; simp, by simp, rfl, (GrF.nil _ _ _ _).step f1, gm1⟩ ?_
    rintro m vs h ⟨p, f, ls, tk, x1, x2, x3, x4, x5, x6, x7, rfl, hp, hf, hR, hll, rfl, G, gm⟩
    obtain ⟨f, rfl⟩ : ∃ f', f = f' + 1 := ⟨f - 1, by omega⟩
    simp only [readF] at hR
    by_cases hps : p < s.length
    · rw [if_pos hps] at hR
      have hmin : (if (s.length : Int) - (p : Int) < 4 then (s.length : Int) - (p : Int) else 4) = ((min 4 (s.length - p) : Nat) : Int) := by split <;> omega
      replace fx := aI @XW_mnx (aI @mnxV_int @hmin)
      (first | refine go ?_ | exact goC | skip); repeat' (first | refine gP ?_ | exact gPc | refine gN ?_ | exact gNc | (refine gI ?_ ?_ <;> intro hyp <;> first | refine goF ?_ | exact goFc | refine goT ?_ | exact goTc | skip))
      refine w_loop (fun m vs h' => ∃ (n : Nat) (x1 x2 x3 x4 x5 x6 : AVal), m = n ∧ n ≤ 4 ∧ p + n ≤ s.length ∧ (∀ n', n < n' → n' ≤ 4 → p + n' ≤ s.length → ∀ i, i < a.length → (nth a i).text ≠ (s.drop p).take n') ∧
          vs = [.sl (a.map Ltr.val) u, .str s, .sl [] .nil, .int .i64 0, .mp q, .sl (ls.map intN) tk, .int .i64 (p : Int), .int .i64 (n : Int), x1, x2, x3, x4, x5, x6] ∧ h' = h) (min 4 (s.length - p))
        ⟨min 4 (s.length - p), _, _, _, _, _, _, rfl, by omega, by omega, fun n' h1 h2 h3 => by omega, rfl, rfl⟩ ?_
      rintro n vs h' ⟨_, x1, x2, x3, x4, x5, x6, rfl, hn4, hpn, hno, rfl, rfl⟩
      by_cases hn0 : n = 0
      · subst hn0
        have hst : stepA a (s.drop p) = none := step_none fun j hj hsj => by
          have hpl := plain_len (l3 j hj).1
          have hlen : p + (nth a j).text.length ≤ s.length := by
            have := congrArg List.length hsj
            rw [List.length_take, List.length_drop] at this
            omega
          exact hno _ (by omega) hpl.2 hlen j hj hsj.symm
        rw [hst] at hR
        simp only [List.append_nil] at hR
        rw [hR]
        replace fx := Dum_eq
        (first | refine go ?_ | exact goC | skip); repeat' (first | refine gP ?_ | exact gPc | refine gN ?_ | exact gNc | (refine gI ?_ ?_ <;> intro hyp <;> first | refine goF ?_ | exact goFc | refine goT ?_ | exact goTc | skip))
        exact ⟨_, rfl, G.fr, G.gr.nn⟩
      · have hsub : ((p : Int) + (n : Int)).toNat - p = n := by omega
        by_cases hx : ∃ i, i < a.length ∧ (nth a i).text = (s.drop p).take n
        · obtain ⟨i, hi, hti⟩ := hx
          have hlen : (nth a i).text.length = n := by rw [hti, List.length_take, List.length_drop]; omega
          have hst : stepA a (s.drop p) = some i := by
            refine step_eq l4 hi (by rw [starts, hlen]; exact hti.symm) fun j hj hsj => ?_
            refine Classical.byContradiction fun hc => ?_
            have hpl := plain_len (l3 j hj).1
            have hl2 : p + (nth a j).text.length ≤ s.length := by
              have := congrArg List.length hsj
              rw [List.length_take, List.length_drop] at this
              omega
            exact hno _ (by omega) hpl.2 hl2 j hj hsj.symm
          have hf := find_yes a ((s.drop p).take n) hti (fun j hj e => by have := texts_inj l4 (by omega) hi (e.trans hti.symm); omega) a.length hi
          have hlk := fun z ok H => lookM_some hf z ok H c
          have lb : ∀ (x : Nat) H, litA 0 3 1 1 false [.int .i64 0] (some [.int .i64 (x : Int)]) H = some (.sl [intN x] .none, H) := fun x H => lit_none rfl rfl rfl rfl
          rw [hst] at hR
          simp only [hlen] at hR
          replace fx := aI @hsub (aI @gm (aI @hlk @lb))
          (first | refine go ?_ | exact goC | skip); repeat' (first | refine gP ?_ | exact gPc | refine gN ?_ | exact gNc | (refine gI ?_ ?_ <;> intro hyp <;> first | refine goF ?_ | exact goFc | refine goT ?_ | exact goTc | skip))
          refine append_F (f := intN) ls [i] intN_len (fun _ => rfl) (fun _ => rfl) (lenA_sl (f := intN) (l := [i])) (elems_sl (f := intN) (l := [i]) intN_len) G (by simp; omega) (by omega) (by omega) (by omega) ?_
          intro h2 tk2 G2 n2 r2 k2
          replace fx := Dum_eq
          (first | refine go ?_ | exact goC | skip); repeat' (first | refine gP ?_ | exact gPc | refine gN ?_ | exact gNc | (refine gI ?_ ?_ <;> intro hyp <;> first | refine goF ?_ | exact goFc | refine goT ?_ | exact goTc | skip))
          have gm2 : h2.get q = some (.map .str c (esOf a a.length)) := by
            refine (k2 q (get_lt gm) fun i' s' e => ?_).trans gm
            rintro rfl
            rcases G.gr with ⟨_, e2⟩ | ⟨id, e2, e3⟩
            · rw [e] at e2; rcases e2 with e2 | e2 <;> simp at e2
            · rw [e] at e2
              simp only [Tok.own.injEq] at e2
              rw [← e2.1, gm] at e3
              simp at e3
          exact lp_n ⟨_, by omega, p + n, f, ls ++ [i], tk2, _, _, _, _, _, _, _, rfl, hpn, by omega, by rw [hR]; simp, by simp; omega, by push_cast; rfl, G2, gm2⟩
        · have hf := find_no a ((s.drop p).take n) a.length (fun i hi e => hx ⟨i, hi, e⟩)
          have hlk := fun z ok H => lookM_none hf z ok H c
          replace fx := aI @hsub (aI @gm @hlk)
          (first | refine go ?_ | exact goC | skip); repeat' (first | refine gP ?_ | exact gPc | refine gN ?_ | exact gNc | (refine gI ?_ ?_ <;> intro hyp <;> first | refine goF ?_ | exact goFc | refine goT ?_ | exact goTc | skip))
          exact lp_n ⟨_, by omega, n - 1, _, _, _, _, _, _, rfl, by omega, by omega, fun n' e1 e2 e3 i hi => by
            by_cases e : n' = n
            · subst e; exact fun q => hx ⟨i, hi, q⟩
            · exact hno n' (by omega) e2 e3 i hi, by rw [show ((n - 1 : Nat) : Int) = (n : Int) - 1 by omega], rfl⟩
    · rw [if_neg hps] at hR
      simp only [List.append_nil] at hR
      rw [hR]
      replace fx := Dum_eq
      (first | refine go ?_ | exact goC | skip); repeat' (first | refine gP ?_ | exact gPc | refine gN ?_ | exact gNc | (refine gI ?_ ?_ <;> intro hyp <;> first | refine goF ?_ | exact goFc | refine goT ?_ | exact goTc | skip))
      exact ⟨_, rfl, G.fr, G.gr.nn⟩
def byteA (b : UInt8) : AVal := .int .u8 b.toNat
def Bld (h : Heap) (id : Nat) (s : List UInt8) : Prop := ∃ a tk, h.get id = some (.row true (typed 54) true [a, .sl (s.map byteA) tk]) ∧ (a = .nilptr ∨ a = .ptr id 0) ∧ Grow h 5 1 tk ∧ (tk = .nil ↔ s = [])
def RowsBut (id : Nat) (h h' : Heap) : Prop := h.next ≤ h'.next ∧ ∀ j mu s a cs, j ≠ id → h.get j = some (.row mu s a cs) → h'.get j = some (.row mu s a cs)
theorem RowsBut.trans {id : Nat} {h h1 h2 : Heap} (a : RowsBut id h h1) (b : RowsBut id h1 h2) : RowsBut id h h2 := ⟨Nat.le_trans a.1 b.1, fun j mu s ag cs hj hg => b.2 _ _ _ _ _ hj (a.2 _ _ _ _ _ hj hg)⟩
theorem copyCheck_c {h : Heap} {id : Nat} {s : List UInt8} {K : AVal → Heap → Prop} {a : AVal} {tk : Tok} (hb : h.get id = some (.row true (typed 54) true [a, .sl (s.map byteA) tk])) (ha : a = .nilptr ∨ a = .ptr id 0) (hg : Grow h 5 1 tk)
    (q : ∀ h', h'.get id = some (.row true (typed 54) true [.ptr id 0, .sl (s.map byteA) tk]) → Grow h' 5 1 tk → RowsBut id h h' → K (.tup []) h') : CV F 33 [.ptr id 0] h K := by
  rcases ha with rfl | rfl
  · refine Gives_CV (gives_hand (s := copyCheckS 54) rfl (r := .tup []) (h' := h.put id (some (.row true (typed 54) true [.ptr id 0, .sl (s.map byteA) tk]))) ?_) ?_
    · simp only [copyCheckS, hb, if_true]
    · refine q _ (get_put_old hb) ?_ ⟨by rw [put_next]; exact Nat.le_refl _, fun j mu s a cs hj hr => by rw [get_put_ne hj]; exact hr⟩
      exact hg.put hb _
  · refine Gives_CV (gives_hand (s := copyCheckS 54) rfl (r := .tup []) (h' := h) ?_) ?_
    · simp only [copyCheckS, hb, if_true]
    · exact q _ hb hg ⟨Nat.le_refl _, fun j mu s a cs hj hr => hr⟩
theorem flat_bytes (x : List UInt8) : flat (x.map byteA) = x.map (fun b => .int .u8 b.toNat) := by
  induction x with
  | nil => rfl
  | cons b x ih => simp only [List.map_cons, flat_cons, ih]; rfl
theorem RowsBut.put {id : Nat} {h h' : Heap} (a : RowsBut id h h') (o : Option Abs.Obj) : RowsBut id h (h'.put id o) := ⟨by rw [put_next]; exact a.1, fun j mu s ag cs hj hg => by rw [get_put_ne hj]; exact a.2 _ _ _ _ _ hj hg⟩
theorem writeString_c {h : Heap} {id : Nat} {s x : List UInt8} (hb : Bld h id s) (hl : s.length + x.length ≤ 1000000) : CV F 23 [.ptr id 0, .str x] h (fun _ h' => Bld h' id (s ++ x) ∧ RowsBut id h h') := by
  obtain ⟨a, tk, hb, ha, hg, hn⟩ := hb
  refine CV_wp (fn := c23) rfl ?_
  dsimp only [oT, oN, oV, oG, oW, c23]
  replace fx := Dum_eq
  (first | refine go ?_ | exact goC | skip); repeat' (first | refine gP ?_ | exact gPc | refine gN ?_ | exact gNc | (refine gI ?_ ?_ <;> intro hyp <;> first | refine goF ?_ | exact goFc | refine goT ?_ | exact goTc | skip))
  refine copyCheck_c hb ha hg (fun h1 hb1 hg1 hr1 => ?_)
  replace fx := @hb1
  (first | refine go ?_ | exact goC | skip); repeat' (first | refine gP ?_ | exact gPc | refine gN ?_ | exact gNc | (refine gI ?_ ?_ <;> intro hyp <;> first | refine goF ?_ | exact goFc | refine goT ?_ | exact goTc | skip))
  refine append_K s x (f := byteA) (fun _ => rfl) (fun _ => rfl) (fun _ => rfl) rfl ?_ hg1 hn hl (by omega) (by omega) (by omega) ?_
  · rw [flat_bytes]; rfl
  · intro h2 tk2 hg2 hn2 hle hk hk2 htk
    have hb2 := hk _ _ _ _ _ hb1
    replace fx := @hb2
    (first | refine go ?_ | exact goC | skip); repeat' (first | refine gP ?_ | exact gPc | refine gN ?_ | exact gNc | (refine gI ?_ ?_ <;> intro hyp <;> first | refine goF ?_ | exact goFc | refine goT ?_ | exact goTc | skip))
    exact ⟨⟨_, _, get_put_old hb2, .inr rfl, hg2.put hb2 _, hn2⟩, RowsBut.put (hr1.trans ⟨hle, fun j mu s a cs _ hg => hk _ _ _ _ _ hg⟩) _⟩
theorem bytesOf_map (s : List UInt8) : bytesOf (s.map byteA) = some s := by
  induction s with
  | nil => rfl
  | cons b s ih =>
    have h1 : (b.toNat : Int) < 256 := by have := b.toNat_lt; omega
    simp only [List.map_cons, byteA, bytesOf] at ih ⊢
    rw [if_pos ⟨by omega, h1⟩, ih]
    simp
theorem string_c {h : Heap} {id : Nat} {s : List UInt8} {K : AVal → Heap → Prop} (hb : Bld h id s) (hl : s.length ≤ 1000000) (q : K (.str s) h) : CV F 24 [.ptr id 0] h K := by
  obtain ⟨a, tk, hb, ha, hg, hn⟩ := hb
  refine Gives_CV (gives_hand (s := stringS 5) rfl (r := .str s) (h' := h) ?_) q
  cases s with
  | nil =>
    have := hn.2 rfl
    subst this
    simp only [stringS, hb, List.map_nil]
  | cons b s =>
    rcases hg with rfl | ⟨i, rfl, hg⟩
    · simp at hn
    · have := bytesOf_map (b :: s)
      rw [List.map_cons] at this
      simp only [stringS, hb, List.map_cons, hg]
      rw [if_pos ⟨trivial, by simp at hl ⊢; omega⟩, this]; rfl
theorem tok_c (a : List Ltr) (s : Bs) (u : Tok) (hu : Pt u) (ha : a.length ≤ 1000000) (hs : s.length ≤ 900000) (ht : ∀ x ∈ a, x.text.length ≤ 1000000) (h0 : Heap) :
    CV F 9 [.sl (a.map Ltr.val) u, .str s] h0 (fun v h' => ∃ tk, v = .sl ((tokA a s).map Wd.val) tk ∧ Fr (fun _ => False) h0 h') := by
  refine CV_wp (fn := c9) rfl ?_
  dsimp only [oT, oN, oV, oG, oW, c9]
  have sl : strip (.sl (a.map Ltr.val) u) = some (.sl (a.map Ltr.val) u) := by rcases hu with rfl | rfl <;> rfl
  have rv := valid_v a u hu ha ht
  cases hva : validA a with
  | false =>
    rw [hva] at rv
    rw [tokA_inv hva]
    replace fx := aI @sl @rv
    (first | refine go ?_ | exact goC | skip); repeat' (first | refine gP ?_ | exact gPc | refine gN ?_ | exact gNc | (refine gI ?_ ?_ <;> intro hyp <;> first | refine goF ?_ | exact goFc | refine goT ?_ | exact goTc | skip))
    exact ⟨_, rfl, Fr.refl _ _⟩
  | true =>
    rw [hva] at rv
    rw [tokA]
    generalize hR0 : tokF a s (s.length + 1) 0 = R
    replace fx := aI @sl @rv
    (first | refine go ?_ | exact goC | skip); repeat' (first | refine gP ?_ | exact gPc | refine gN ?_ | exact gNc | (refine gI ?_ ?_ <;> intro hyp <;> first | refine goF ?_ | exact goFc | refine goT ?_ | exact goTc | skip))
    refine w_loop (fun m vs h => ∃ (p f : Nat) (ws : List Wd) (tk : Tok) (x1 x2 x3 x4 x5 x6 x7 : AVal), m = s.length - p ∧ p ≤ s.length ∧ s.length < p + f ∧ R = ws ++ tokF a s f p ∧ ws.length ≤ p ∧
        vs = [.sl (a.map Ltr.val) u, .str s, .sl [] .nil, .sl (ws.map Wd.val) tk, .int .i64 (p : Int), x1, x2, x3, x4, x5, x6, x7] ∧ GrF (fun _ => False) h0 h 37 3 ws tk) s.length
      ⟨0, s.length + 1, [], .nil, _, _, _, _, _, _, _, rfl, by omega, by omega, by rw [hR0]; simp, by simp, rfl, GrF.nil _ _ _ _⟩ ?_
    rintro m vs h ⟨p, f, ws, tk, x1, x2, x3, x4, x5, x6, x7, rfl, hp, hf, hR, hll, rfl, G⟩
    obtain ⟨f, rfl⟩ : ∃ f', f = f' + 1 := ⟨f - 1, by omega⟩
    simp only [tokF] at hR
    by_cases hps : p < s.length
    · rw [if_pos hps] at hR
      replace fx := Dum_eq
      (first | refine go ?_ | exact goC | skip); repeat' (first | refine gP ?_ | exact gPc | refine gN ?_ | exact gNc | (refine gI ?_ ?_ <;> intro hyp <;> first | refine goF ?_ | exact goFc | refine goT ?_ | exact goTc | skip))
      refine CV_mono (read_c a (s.drop p) u hu ha (by rw [List.length_drop]; omega) ht _) ?_
      rintro v h1 ⟨tk1, rfl, f1, hnn⟩
      have G1 := G.step f1
      obtain ⟨bd1, bd2, bd3⟩ := readA_bd a (s.drop p)
      rw [List.length_drop] at bd2 bd3
      by_cases he : (readA a (s.drop p)).1 = []
      · rw [if_pos he] at hR
        rw [he]
        replace fx := Dum_eq
        (first | refine go ?_ | exact goC | skip); repeat' (first | refine gP ?_ | exact gPc | refine gN ?_ | exact gNc | (refine gI ?_ ?_ <;> intro hyp <;> first | refine goF ?_ | exact goFc | refine goT ?_ | exact goTc | skip))
        exact lp_n ⟨_, by omega, p + 1, f, ws, tk, _, _, _, _, _, _, _, rfl, by omega, by omega, hR, by omega, by push_cast; rfl, G1⟩
      · rw [if_neg he] at hR
        obtain ⟨w1, w2, w3, w4, w5⟩ := readA_word hps he
        have hlen0 : ¬ ((readA a (s.drop p)).1.length : Int) = 0 := by
          intro q
          exact he (List.length_eq_zero_iff.1 (by omega))
        generalize (readA a (s.drop p)).1 = l at hR bd3 hlen0 he hnn ⊢
        generalize (readA a (s.drop p)).2 = n at bd1 bd2 hR w2 w3 ⊢
        have lb : ∀ (b e : Nat) H, litA 0 37 1 3 true [.int .i64 0, .int .i64 0, .sl [] .nil] (some [.int .i64 (b : Int), .int .i64 (e : Int), .sl (l.map intN) tk1]) H = some (.sl [Wd.val ⟨b, e, l⟩] .none, H) := fun b e H => by
          have hst : stripL [AVal.int .i64 (b : Int), .int .i64 (e : Int), .sl (l.map intN) tk1] = some [.int .i64 (b : Int), .int .i64 (e : Int), .sl (l.map intN) .none] := by
            cases tk1 with
            | nil => exact absurd rfl (hnn he)
            | none => rfl
            | own i s => rfl
            | full => simp only [stripL, strip]
          exact lit_none hst rfl rfl rfl
        by_cases hn : n < 0
        · have he1 : endW s p n = s.length := by simp only [endW]; rw [if_pos hn]
          rw [he1] at hR w2 w3
          replace fx := aI @hlen0 @lb
          (first | refine go ?_ | exact goC | skip); repeat' (first | refine gP ?_ | exact gPc | refine gN ?_ | exact gNc | (refine gI ?_ ?_ <;> intro hyp <;> first | refine goF ?_ | exact goFc | refine goT ?_ | exact goTc | skip))
          refine append_F (f := Wd.val) ws [⟨p, s.length, l⟩] wdL wdM wdS (lenA_sl (f := Wd.val) (l := [⟨p, s.length, l⟩])) (elems_sl (f := Wd.val) (l := [⟨p, s.length, l⟩]) wdL) G1 (by simp; omega) (by omega) (by omega) (by omega) ?_
          intro h1 tk1 G1 n1 _ _
          replace fx := Dum_eq
          (first | refine go ?_ | exact goC | skip); repeat' (first | refine gP ?_ | exact gPc | refine gN ?_ | exact gNc | (refine gI ?_ ?_ <;> intro hyp <;> first | refine goF ?_ | exact goFc | refine goT ?_ | exact goTc | skip))
          exact lp_n ⟨_, by omega, s.length, f, ws ++ [⟨p, s.length, l⟩], tk1, _, _, _, _, _, _, _, rfl, by omega, by omega, by rw [hR]; simp, by simp; omega, rfl, G1⟩
        · have he1 : endW s p n = p + n.toNat := by simp only [endW]; rw [if_neg hn]
          rw [he1] at hR w2 w3
          have he2 : (p : Int) + n = ((p + n.toNat : Nat) : Int) := by omega
          replace fx := aI @hlen0 (aI @he2 @lb)
          (first | refine go ?_ | exact goC | skip); repeat' (first | refine gP ?_ | exact gPc | refine gN ?_ | exact gNc | (refine gI ?_ ?_ <;> intro hyp <;> first | refine goF ?_ | exact goFc | refine goT ?_ | exact goTc | skip))
          refine append_F (f := Wd.val) ws [⟨p, p + n.toNat, l⟩] wdL wdM wdS (lenA_sl (f := Wd.val) (l := [⟨p, p + n.toNat, l⟩])) (elems_sl (f := Wd.val) (l := [⟨p, p + n.toNat, l⟩]) wdL) G1 (by simp; omega) (by omega) (by omega) (by omega) ?_
          intro h1 tk1 G1 n1 _ _
          replace fx := Dum_eq
          (first | refine go ?_ | exact goC | skip); repeat' (first | refine gP ?_ | exact gPc | refine gN ?_ | exact gNc | (refine gI ?_ ?_ <;> intro hyp <;> first | refine goF ?_ | exact goFc | refine goT ?_ | exact goTc | skip))
          exact lp_n ⟨_, by omega, p + n.toNat, f, ws ++ [⟨p, p + n.toNat, l⟩], tk1, _, _, _, _, _, _, _, rfl, by omega, by omega, by rw [hR]; simp, by simp; omega, by first | rfl | (push_cast; rfl), G1⟩
    · rw [if_neg hps] at hR
      rw [List.append_nil] at hR
      rw [hR]
      replace fx := Dum_eq
      (first | refine go ?_ | exact goC | skip); repeat' (first | refine gP ?_ | exact gPc | refine gN ?_ | exact gNc | (refine gI ?_ ?_ <;> intro hyp <;> first | refine goF ?_ | exact goFc | refine goT ?_ | exact goTc | skip))
      exact ⟨_, rfl, G.fr⟩
theorem write_c (a : List Ltr) (l : List Nat) (u u' : Tok) (hu : Pt u) (hva : validA a = true) (hl : ∀ i ∈ l, i < a.length) (hw : (writeL a l).length ≤ 900000) (hll : l.length ≤ 900000) (ha : a.length ≤ 1000000) (ht : ∀ x ∈ a, x.text.length ≤ 1000000) (h0 : Heap) :
    CV F 12 [.sl (a.map Ltr.val) u, .sl (l.map intN) u'] h0 (fun v _ => v = .tup [.str (writeL a l), .int .i64 0]) := by
  refine CV_wp (fn := c12) rfl ?_
  dsimp only [oT, oN, oV, oG, oW, c12]
  have sl : strip (.sl (a.map Ltr.val) u) = some (.sl (a.map Ltr.val) u) := by rcases hu with rfl | rfl <;> rfl
  have rv := valid_v a u hu ha ht
  rw [hva] at rv
  have hpre : ∀ k, k ≤ l.length → (writeL a (l.take k)).length ≤ 900000 := by
    intro k hk
    have e : writeL a l = writeL a (l.take k) ++ writeL a (l.drop k) := by
      rw [writeL, writeL, writeL, ← List.flatMap_append, List.take_append_drop]
    rw [e, List.length_append] at hw
    omega
  replace fx := aI @sl @rv
  (first | refine go ?_ | exact goC | skip); repeat' (first | refine gP ?_ | exact gPc | refine gN ?_ | exact gNc | (refine gI ?_ ?_ <;> intro hyp <;> first | refine goF ?_ | exact goFc | refine goT ?_ | exact goTc | skip))
  have B0 : Bld (h0.push (Obj.row true (typed 54) true [.nilptr, .sl [] .nil])) h0.next [] := ⟨.nilptr, .nil, get_push_eq rfl, .inl rfl, .inl rfl, by simp⟩
  generalize (h0.push (Obj.row true (typed 54) true [.nilptr, .sl [] .nil])) = h1 at B0 ⊢
  generalize h0.next = q at B0 ⊢
  refine w_loop (fun m vs h => ∃ (k : Nat) (x1 x2 x3 x4 : AVal), m = l.length - k ∧ k ≤ l.length ∧ vs = [.sl (a.map Ltr.val) u, .sl (l.map intN) u', .str [], .int .i64 0, .ptr q 0, x1, x2, .sl (l.map intN) u', .int .i64 (l.length : Int), .int .i64 (k : Int), x3, x4] ∧
      Bld h q (writeL a (l.take k))) l.length
    ⟨0, _, _, _, _, rfl, by omega, rfl, B0⟩ ?_
  rintro m vs h ⟨k, x1, x2, x3, x4, rfl, hk, rfl, B⟩
  by_cases hks : k < l.length
  · have hi := hl _ (nth_mem hks)
    have wv := within_v ((nth l k : Nat) : Int) 0 ((a.length : Int) - 1)
    rw [decide_eq_true (by omega)] at wv
    have hsucc : writeL a (l.take (k + 1)) = writeL a (l.take k) ++ (nth a (nth l k)).text := by
      rw [List.take_succ_eq_append_getElem hks, writeL, List.flatMap_append, ← nth_eq hks]
      simp [writeL]
    have b1 := hpre (k + 1) (by omega)
    rw [hsucc, List.length_append] at b1
    replace fx := aI @wv (aI @ltL (aI @lv0 (aI @lvN @intN_eq)))
    (first | refine go ?_ | exact goC | skip); repeat' (first | refine gP ?_ | exact gPc | refine gN ?_ | exact gNc | (refine gI ?_ ?_ <;> intro hyp <;> first | refine goF ?_ | exact goFc | refine goT ?_ | exact goTc | skip))
    refine CV_mono (writeString_c B (x := (nth a (nth l k)).text) (by omega)) ?_
    rintro v h2 ⟨B2, _⟩
    rw [← hsucc] at B2
    replace fx := Dum_eq
    (first | refine go ?_ | exact goC | skip); repeat' (first | refine gP ?_ | exact gPc | refine gN ?_ | exact gNc | (refine gI ?_ ?_ <;> intro hyp <;> first | refine goF ?_ | exact goFc | refine goT ?_ | exact goTc | skip))
    exact lp_n ⟨_, by omega, k + 1, _, _, _, _, rfl, by omega, by push_cast; rfl, B2⟩
  · have e : k = l.length := by omega
    subst e
    rw [List.take_length] at B
    replace fx := Dum_eq
    (first | refine go ?_ | exact goC | skip); repeat' (first | refine gP ?_ | exact gPc | refine gN ?_ | exact gNc | (refine gI ?_ ?_ <;> intro hyp <;> first | refine goF ?_ | exact goFc | refine goT ?_ | exact goTc | skip))
    refine string_c B (by omega) ?_
    replace fx := Dum_eq
    (first | refine go ?_ | exact goC | skip); repeat' (first | refine gP ?_ | exact gPc | refine gN ?_ | exact gNc | (refine gI ?_ ?_ <;> intro hyp <;> first | refine goF ?_ | exact goFc | refine goT ?_ | exact goTc | skip))
end Go.Proofs.YthcbcmpbipcibaaGreat

namespace Go.Proofs.YthcbcmpbipcibaaGreat
open Go Go.Abs Go.Gt
def i64 (n : Int) : Prop := -9223372036854775808 ≤ n ∧ n < 9223372036854775808
def aroundS (n m : Int) : Int := (if n < 0 then -(n+1) else n).tmod m
theorem around_v {n m : Int} (hn : i64 n) (hm : 0 < m) : PV F 17 [.int .i64 n, .int .i64 m] = some (.int .i64 (aroundS n m)) := by
  refine PV_wp (fn := c17) rfl ?_
  obtain ⟨hn1, hn2⟩ := hn
  dsimp only [oT, oN, oV, oG, oW, c17]
  replace fx := Dum_eq
  (first | refine go ?_ | exact goC | skip); repeat' (first | refine gP ?_ | exact gPc | refine gN ?_ | exact gNc | (refine gI ?_ ?_ <;> intro hyp <;> first | refine goF ?_ | exact goFc | refine goT ?_ | exact goTc | skip))
  · simp [aroundS, hyp]
  · simp [aroundS, hyp]
def atS (l : List Int) (i m : Int) : Int := if i < 0 ∨ (l.length : Int) ≤ i then 0 else aroundS (nth l i.toNat) m
theorem nth_i64 {l : List Int} (hl : ∀ x ∈ l, i64 x) (i : Nat) : i64 (nth l i) := by
  by_cases h : i < l.length
  · exact hl _ (nth_mem h)
  · simp [nth, List.getD_eq_getElem?_getD, List.getElem?_eq_none (by omega : l.length ≤ i), i64]
theorem at_v {l : List Int} {t : Tok} {i m : Int} (hl : ∀ x ∈ l, i64 x) (hm : 0 < m) : PV F 15 [.sl (l.map (.int .i64)) t, .int .i64 i, .int .i64 m] = some (.int .i64 (atS l i m)) := by
  refine PV_wp (fn := c15) rfl ?_
  dsimp only [oT, oN, oV, oG, oW, c15]
  have ha := around_v (nth_i64 hl i.toNat) hm
  replace fx := @ha
  (first | refine go ?_ | exact goC | skip); repeat' (first | refine gP ?_ | exact gPc | refine gN ?_ | exact gNc | (refine gI ?_ ?_ <;> intro hyp <;> first | refine goF ?_ | exact goFc | refine goT ?_ | exact goTc | skip))
  · simp [atS, hyp]
  · simp [atS, *]
  · simp [atS, *]
theorem around_bound (n : Int) {m : Int} (hm : 0 < m) : 0 ≤ aroundS n m ∧ aroundS n m < m := by
  unfold aroundS
  have : 0 ≤ (if n < 0 then -(n + 1) else n) := by split <;> omega
  rw [Int.tmod_eq_emod_of_nonneg this]
  exact ⟨Int.emod_nonneg _ (by omega), Int.emod_lt_of_pos _ hm⟩
theorem at_bound (l : List Int) (i : Int) {m : Int} (hm : 0 < m) : 0 ≤ atS l i m ∧ atS l i m < m := by
  unfold atS
  split
  · omega
  · exact around_bound _ hm
def poolL : List Bs := [[97], [98], [99], [101], [105], [110], [115], [116], [99, 104], [195, 169], [65], [115, 99, 104], [104], [108], [195, 182], [117]]
theorem pool_v (n : Nat) (hn : n < 16) : PV F 16 [.int .i64 (n : Int)] = some (.str (nth poolL n)) := by
  refine PV_wp (fn := c16) rfl ?_
  dsimp only [oT, oN, oV, oG, oW, c16]
  have lb : ∀ H, litA 0 9 16 1 false [.str []] (some [.str [97], .str [98], .str [99], .str [101], .str [105], .str [110], .str [115], .str [116], .str [99, 104], .str [195, 169], .str [65], .str [115, 99, 104], .str [104], .str [108], .str [195, 182], .str [117]]) H = some (.sl (poolL.map strV) .none, H) := fun H => lit_none rfl rfl rfl rfl
  have hl : poolL.length = 16 := rfl
  replace fx := aI @lb @strV_eq
  (first | refine go ?_ | exact goC | skip); repeat' (first | refine gP ?_ | exact gPc | refine gN ?_ | exact gNc | (refine gI ?_ ?_ <;> intro hyp <;> first | refine goF ?_ | exact goFc | refine goT ?_ | exact goTc | skip))
def smallL : List Ltr := [⟨[97], 0, 0, 0, 5⟩, ⟨[98], 1, 0, 0, 6⟩, ⟨[99], 2, 0, 0, 5⟩, ⟨[101], 3, 0, 0, 5⟩, ⟨[110], 4, 0, 0, 6⟩, ⟨[115], 5, 0, 0, 4⟩, ⟨[116], 6, 0, 0, 3⟩, ⟨[99, 104], 7, 0, 0, 10⟩, ⟨[195, 169], 3, 1, 0, 5⟩, ⟨[65], 0, 0, 1, 7⟩]
theorem small_c {h : Heap} {K : AVal → Heap → Prop} (k : K (.sl (smallL.map Ltr.val) .none) h) : CV F 5 [] h K := by
  refine CV_wp (fn := c5) rfl ?_
  dsimp only [oT, oN, oV, oG, oW, c5]
  have lb : ∀ H, litA 0 27 10 5 true [.str [], .int .i64 0, .int .i64 0, .int .i64 0, .int .i64 0] (some (flat (smallL.map Ltr.val))) H = some (.sl (smallL.map Ltr.val) .none, H) := fun H => lit_none rfl rfl rfl rfl
  have e : flat (smallL.map Ltr.val) = [.str [97], .int .i64 0, .int .i64 0, .int .i64 0, .int .i64 5, .str [98], .int .i64 1, .int .i64 0, .int .i64 0, .int .i64 6, .str [99], .int .i64 2, .int .i64 0, .int .i64 0, .int .i64 5, .str [101], .int .i64 3, .int .i64 0, .int .i64 0, .int .i64 5, .str [110], .int .i64 4, .int .i64 0, .int .i64 0, .int .i64 6, .str [115], .int .i64 5, .int .i64 0, .int .i64 0, .int .i64 4, .str [116], .int .i64 6, .int .i64 0, .int .i64 0, .int .i64 3, .str [99, 104], .int .i64 7, .int .i64 0, .int .i64 0, .int .i64 10, .str [195, 169], .int .i64 3, .int .i64 1, .int .i64 0, .int .i64 5, .str [65], .int .i64 0, .int .i64 0, .int .i64 1, .int .i64 7] := rfl
  rw [e] at lb
  replace fx := @lb
  (first | refine go ?_ | exact goC | skip); repeat' (first | refine gP ?_ | exact gPc | refine gN ?_ | exact gNc | (refine gI ?_ ?_ <;> intro hyp <;> first | refine goF ?_ | exact goFc | refine goT ?_ | exact goTc | skip))
  exact k
theorem short_v (s : Bs) (hs : s.length ≤ 9223372036854775807) {h : Heap} {K : AVal → Heap → Prop} (k : K (.str (s.take 100)) h) : CV F 8 [.str s, .int .i64 100] h K := by
  refine CV_wp (fn := c8) rfl ?_
  dsimp only [oT, oN, oV, oG, oW, c8]
  replace fx := Dum_eq
  (first | refine go ?_ | exact goC | skip); repeat' (first | refine gP ?_ | exact gPc | refine gN ?_ | exact gNc | (refine gI ?_ ?_ <;> intro hyp <;> first | refine goF ?_ | exact goFc | refine goT ?_ | exact goTc | skip))
  · exact k
  · rwa [List.take_of_length_le (by omega)] at k
end Go.Proofs.YthcbcmpbipcibaaGreat

namespace Go.Proofs.YthcbcmpbipcibaaGreat
open Go Go.Abs Go.ChangeShapes Go.WideShapes Go.ChangeAt Go.RowKit
theorem own : ownKnob Tryz.prog.godebug = none := by kernel_rfl
theorem laidOut : laidOutB Tryz.prog = true := by kernel_rfl
theorem mixed : Tryz.prog.follows .mixedOrders = true := by kernel_rfl
theorem readT : Tryz.prog.readableRec 9 = true ∧ 9 < Tryz.prog.types.size := ⟨by kernel_rfl, of_decide_eq_true (by kernel_rfl)⟩
theorem readL : Tryz.prog.readableRec 22 = true ∧ 22 < Tryz.prog.types.size := ⟨by kernel_rfl, of_decide_eq_true (by kernel_rfl)⟩
theorem shapeT : shapeOk Tryz.prog 5 9 = true := by kernel_rfl
theorem shapeL : shapeOk Tryz.prog 5 22 = true := by kernel_rfl
theorem maxLen_eq : maxLen = 9223372036854775807 := by unfold maxLen; first | rfl | decide
attribute [local irreducible] okA
theorem mk_one {ag : Bool} {x c : AVal} (h : mk false x.cells = some x) (hc : x.cells = [c]) : x = c := by
  rw [hc] at h; simpa [mk] using h.symm
theorem argI {n : Nat} {x : AVal} (h1 : mk (isSt Tryz.prog 3) x.cells = some x) (h2 : okA Tryz.prog (n + 1) 3 x.cells) : ∃ z, x = .int .i64 z ∧ i64 z := by
  have hst : isSt Tryz.prog 3 = false := by kernel_rfl
  rw [hst] at h1
  rw [okA] at h2
  simp only [Tryz.underlying3] at h2
  obtain ⟨z, hz, hw⟩ := h2
  exact ⟨z, mk_one (ag := false) h1 hz, wf_i64 hw⟩
theorem argT {n : Nat} {x : AVal} (h1 : mk (isSt Tryz.prog 9) x.cells = some x) (h2 : okA Tryz.prog (n + 1) 9 x.cells) : ∃ s, x = .str s ∧ s.length ≤ 9223372036854775807 := by
  have hst : isSt Tryz.prog 9 = false := by kernel_rfl
  rw [hst] at h1
  rw [okA] at h2
  simp only [Tryz.underlying9] at h2
  obtain ⟨z, hz, hw⟩ := h2
  rw [maxLen_eq] at hw
  exact ⟨z, mk_one (ag := false) h1 hz, hw⟩
theorem list_of {α : Type} {p : AVal → Prop} {f : α → AVal} {q : α → Prop} (hp : ∀ x, p x → ∃ a, x = f a ∧ q a) : ∀ {xs : List AVal}, (∀ x ∈ xs, p x) → ∃ l : List α, xs = l.map f ∧ ∀ a ∈ l, q a
  | [], _ => ⟨[], rfl, by simp⟩
  | x :: xs, h => by
    obtain ⟨z, rfl, hz⟩ := hp x (h x (by simp))
    obtain ⟨l, rfl, hl⟩ := list_of hp (xs := xs) (fun y hy => h y (by simp [hy]))
    exact ⟨z :: l, rfl, fun p hp => by
      rcases List.mem_cons.1 hp with rfl | hp
      · exact hz
      · exact hl p hp⟩
theorem argL {n : Nat} {x : AVal} (h1 : mk (isSt Tryz.prog 22) x.cells = some x) (h2 : okA Tryz.prog (n + 2) 22 x.cells) : ∃ (l : List Int) (tk : Abs.Tok), x = .sl (l.map (.int .i64)) tk ∧ (∀ z ∈ l, i64 z) ∧ l.length ≤ 9223372036854775807 ∧ Pt tk := by
  have hst : isSt Tryz.prog 22 = false := by kernel_rfl
  rw [hst] at h1
  rw [okA] at h2
  simp only [Tryz.underlying22] at h2
  obtain ⟨xs, tk, hx, htk, hlen, hall⟩ := h2
  rw [maxLen_eq] at hlen
  obtain ⟨l, rfl, hl⟩ := list_of (f := AVal.int .i64) (q := i64) (fun x hx => argI (n := n) hx.1 hx.2) hall
  refine ⟨l, tk, mk_one (ag := false) h1 hx, hl, by simpa using hlen, ?_⟩
  rcases htk with rfl | ⟨rfl, _⟩
  · exact .inl rfl
  · exact .inr rfl
end Go.Proofs.YthcbcmpbipcibaaGreat

namespace Go.Proofs.YthcbcmpbipcibaaGreat
open Go Go.Abs Go.Gt
theorem pool_len (n : Nat) : (nth poolL n).length ≤ 3 := by
  by_cases h : n < 16
  · have : ∀ k, k < 16 → (nth poolL k).length ≤ 3 := by decide
    exact this n h
  · have e : poolL.length = 16 := rfl
    simp [nth, List.getD_eq_getElem?_getD, List.getElem?_eq_none (l := poolL) (i := n) (by omega)]
    exact Nat.zero_le 3
theorem ltr_agg (T : Bs) (b m c w : Int) : AVal.agg [.str T, .int .i64 b, .int .i64 m, .int .i64 c, .int .i64 w] = Ltr.val ⟨T, b, m, c, w⟩ := rfl
theorem ltD1 (o : Ltr) : (List.drop 1 o.val.cells).length = 4 := rfl
theorem letters_c (l : List Int) (u : Tok) (hu : Pt u) (hl : ∀ x ∈ l, i64 x) (h0 : Heap) :
    CV F 4 [.sl (l.map (.int .i64)) u] h0 (fun v _ => ∃ (a : List Ltr) (tk : Tok), v = .sl (a.map Ltr.val) tk ∧ 3 ≤ a.length ∧ a.length ≤ 8 ∧ (∀ x ∈ a, x.text.length ≤ 3) ∧ tk ≠ .nil) := by
  refine CV_wp (fn := c4) rfl ?_
  dsimp only [oT, oN, oV, oG, oW, c4]
  have sl : strip (.sl (l.map (.int .i64)) u) = some (.sl (l.map (.int .i64)) u) := by rcases hu with rfl | rfl <;> rfl
  have hat := fun (i m : Int) (hm : 0 < m) => at_v (l := l) (t := u) (i := i) (m := m) hl hm
  have hatb := fun (i m : Int) (hm : 0 < m) => at_bound l i hm
  have b1 := hatb 0 6 (by omega)
  have b2 := hatb 1 16 (by omega)
  have hpool := fun (n : Nat) (hn : n < 16) => pool_v n hn
  have lb : ∀ (x : Ltr) H, litA 0 27 1 5 true [.str [], .int .i64 0, .int .i64 0, .int .i64 0, .int .i64 0] (some [.str x.text, .int .i64 x.base, .int .i64 x.mark, .int .i64 x.cs, .int .i64 x.width]) H = some (.sl [x.val] .none, H) := fun x H => lit_none rfl rfl rfl rfl
  replace fx := aI @sl @hat
  (first | refine go ?_ | exact goC | skip); repeat' (first | refine gP ?_ | exact gPc | refine gN ?_ | exact gNc | (refine gI ?_ ?_ <;> intro hyp <;> first | refine goF ?_ | exact goFc | refine goT ?_ | exact goTc | skip))
  generalize hN : 3 + atS l 0 6 = n at *
  generalize atS l 1 16 = st at *
  refine w_loop (fun m vs h => ∃ (i : Nat) (ls : List Ltr) (tk : Tok) (x1 x2 x3 : AVal), m = n.toNat - i ∧ (i : Int) ≤ n ∧ ls.length = i ∧ (∀ x ∈ ls, x.text.length ≤ 3) ∧
      vs = [.sl (l.map (.int .i64)) u, .sl [] .nil, .int .i64 n, .int .i64 st, .sl (ls.map Ltr.val) tk, .int .i64 (i : Int), x1, x2, x3] ∧ GrF (fun _ => False) h0 h 27 5 ls tk) n.toNat
    ⟨0, [], .nil, _, _, _, rfl, by omega, rfl, by simp, rfl, GrF.nil _ _ _ _⟩ ?_
  rintro m vs h ⟨i, ls, tk, x1, x2, x3, rfl, hi, hlen, htx, rfl, G⟩
  by_cases hin : (i : Int) < n
  · obtain ⟨T, hT, hp⟩ : ∃ T : Bs, T.length ≤ 3 ∧ PV F 16 [.int .i64 ((st + (i : Int)).tmod 16)] = some (.str T) := by
      rw [Int.tmod_eq_emod_of_nonneg (by omega)]
      have e : (st + (i : Int)) % 16 = (((st + (i : Int)) % 16).toNat : Int) := by omega
      refine ⟨nth poolL ((st + (i : Int)) % 16).toNat, pool_len _, ?_⟩
      rw [e]
      exact hpool _ (by omega)
    have b3 := hatb (2 + (i : Int)) 9 (by omega)
    have b4 : 0 < (i : Int) → 0 ≤ atS l (20 + (i : Int)) i ∧ atS l (20 + (i : Int)) i < i := fun h => at_bound l _ h
    replace fx := aI @sl (aI @hat @hp)
    (first | refine go ?_ | exact goC | skip); repeat' (first | refine gP ?_ | exact gPc | refine gN ?_ | exact gNc | (refine gI ?_ ?_ <;> intro hyp <;> first | refine goF ?_ | exact goFc | refine goT ?_ | exact goTc | skip))
    · have b5 := b4 (by omega)
      have hg0 := hat (30 + (i : Int)) 4 (by omega)
      replace fx := aI @ltL (aI @ltT (aI @ltS (aI @ltN (aI @lt0 (aI @lt1 (aI @lt2 (aI @lt3 (aI @lt4 (aI @lv1 (aI @lvN (aI @ltD1 (aI @sl (aI @hat @lb)))))))))))))
      (first | refine go ?_ | exact goC | skip); repeat' (first | refine gP ?_ | exact gPc | refine gN ?_ | exact gNc | (refine gI ?_ ?_ <;> intro hyp <;> first | refine goF ?_ | exact goFc | refine goT ?_ | exact goTc | skip))
      · rw [ltr_agg]
        generalize hx : Ltr.mk _ _ _ _ _ = x
        have hT' : x.text.length ≤ 3 := by rw [← hx]; exact hT
        have htx2 : ∀ y ∈ ls ++ [x], y.text.length ≤ 3 := by
          intro y hy
          simp only [List.mem_append, List.mem_singleton] at hy
          rcases hy with hy | rfl
          · exact htx y hy
          · exact hT'
        refine append_F (f := Ltr.val) ls [x] (fun _ => rfl) (fun _ => rfl) (fun _ => rfl) (lenA_sl (f := Ltr.val) (l := [x])) (elems_sl (f := Ltr.val) (l := [x]) ltL) (GrF.step G ?_) (by simp; omega) (by omega) (by omega) (by omega) ?_
        · exact (Fr.refl _ _).push _
        intro h1 tk1 G1 n1 _ _
        replace fx := Dum_eq
        (first | refine go ?_ | exact goC | skip); repeat' (first | refine gP ?_ | exact gPc | refine gN ?_ | exact gNc | (refine gI ?_ ?_ <;> intro hyp <;> first | refine goF ?_ | exact goFc | refine goT ?_ | exact goTc | skip))
        exact lp_n ⟨_, by omega, i + 1, ls ++ [x], tk1, _, _, _, rfl, by omega, by simp; omega, htx2, by push_cast; rfl, G1⟩
    · rw [ltr_agg]
      generalize hx : Ltr.mk _ _ _ _ _ = x
      have hT' : x.text.length ≤ 3 := by rw [← hx]; exact hT
      have htx2 : ∀ y ∈ ls ++ [x], y.text.length ≤ 3 := by
        intro y hy
        simp only [List.mem_append, List.mem_singleton] at hy
        rcases hy with hy | rfl
        · exact htx y hy
        · exact hT'
      refine append_F (f := Ltr.val) ls [x] (fun _ => rfl) (fun _ => rfl) (fun _ => rfl) (lenA_sl (f := Ltr.val) (l := [x])) (elems_sl (f := Ltr.val) (l := [x]) ltL) (GrF.step G ?_) (by simp; omega) (by omega) (by omega) (by omega) ?_
      · exact (Fr.refl _ _).push _
      intro h1 tk1 G1 n1 _ _
      replace fx := Dum_eq
      (first | refine go ?_ | exact goC | skip); repeat' (first | refine gP ?_ | exact gPc | refine gN ?_ | exact gNc | (refine gI ?_ ?_ <;> intro hyp <;> first | refine goF ?_ | exact goFc | refine goT ?_ | exact goTc | skip))
      exact lp_n ⟨_, by omega, i + 1, ls ++ [x], tk1, _, _, _, rfl, by omega, by simp; omega, htx2, by push_cast; rfl, G1⟩
    rw [ltr_agg]
    generalize hx : Ltr.mk _ _ _ _ _ = x
    have hT' : x.text.length ≤ 3 := by rw [← hx]; exact hT
    have htx2 : ∀ y ∈ ls ++ [x], y.text.length ≤ 3 := by
      intro y hy
      simp only [List.mem_append, List.mem_singleton] at hy
      rcases hy with hy | rfl
      · exact htx y hy
      · exact hT'
    refine append_F (f := Ltr.val) ls [x] (fun _ => rfl) (fun _ => rfl) (fun _ => rfl) (lenA_sl (f := Ltr.val) (l := [x])) (elems_sl (f := Ltr.val) (l := [x]) ltL) (GrF.step G ?_) (by simp; omega) (by omega) (by omega) (by omega) ?_
    · exact (Fr.refl _ _).push _
    intro h1 tk1 G1 n1 _ _
    replace fx := Dum_eq
    (first | refine go ?_ | exact goC | skip); repeat' (first | refine gP ?_ | exact gPc | refine gN ?_ | exact gNc | (refine gI ?_ ?_ <;> intro hyp <;> first | refine goF ?_ | exact goFc | refine goT ?_ | exact goTc | skip))
    exact lp_n ⟨_, by omega, i + 1, ls ++ [x], tk1, _, _, _, rfl, by omega, by simp; omega, htx2, by push_cast; rfl, G1⟩
  · replace fx := Dum_eq
    (first | refine go ?_ | exact goC | skip); repeat' (first | refine gP ?_ | exact gPc | refine gN ?_ | exact gNc | (refine gI ?_ ?_ <;> intro hyp <;> first | refine goF ?_ | exact goFc | refine goT ?_ | exact goTc | skip))
    exact ⟨_, _, rfl, by omega, by omega, htx, G.gr.nn (by rintro rfl; simp at hlen; omega)⟩
end Go.Proofs.YthcbcmpbipcibaaGreat

namespace Go.Proofs.YthcbcmpbipcibaaGreat
open Go Go.Abs Go.Gt
def oddL : List Bs := [[32], [45], [49], [122], [115, 115], [99], [195], [10]]
theorem odd_len (n : Nat) : (nth oddL n).length ≤ 4 := by
  by_cases h : n < 8
  · have : ∀ k, k < 8 → (nth oddL k).length ≤ 4 := by decide
    exact this n h
  · have e : oddL.length = 8 := rfl
    simp [nth, List.getD_eq_getElem?_getD, List.getElem?_eq_none (l := oddL) (i := n) (by omega)]
    exact Nat.zero_le 4
theorem nth_len {a : List Ltr} (ha : ∀ x ∈ a, x.text.length ≤ 3) (i : Nat) (hi : i < a.length) : (nth a i).text.length ≤ 3 := ha _ (nth_mem hi)
theorem text05_c (a : List Ltr) (l : List Int) (u u' : Tok) (hu : Pt u) (ha1 : 1 ≤ a.length) (ha2 : a.length ≤ 1000) (hat : ∀ x ∈ a, x.text.length ≤ 3) (hl : ∀ x ∈ l, i64 x) (h0 : Heap) :
    CV F 6 [.sl (a.map Ltr.val) u', .sl (l.map (.int .i64)) u] h0 (fun v _ => ∃ s : Bs, v = .str s ∧ s.length ≤ 1000) := by
  refine CV_wp (fn := c6) rfl ?_
  dsimp only [oT, oN, oV, oG, oW, c6]
  have lb : ∀ H, litA 0 9 8 1 false [.str []] (some [.str [32], .str [45], .str [49], .str [122], .str [115, 115], .str [99], .str [195], .str [10]]) H = some (.sl (oddL.map strV) .none, H) := fun H => lit_none rfl rfl rfl rfl
  have ho : oddL.length = 8 := rfl
  replace fx := Dum_eq
  (first | refine go ?_ | exact goC | skip); repeat' (first | refine gP ?_ | exact gPc | refine gN ?_ | exact gNc | (refine gI ?_ ?_ <;> intro hyp <;> first | refine goF ?_ | exact goFc | refine goT ?_ | exact goTc | skip))
  refine w_loop (fun m vs h => ∃ (i : Nat) (s : Bs) (x1 x2 x3 x4 : AVal), m = 40 - i ∧ i ≤ 40 ∧ i ≤ l.length ∧ s.length ≤ 4 * i ∧
      vs = [.sl (a.map Ltr.val) u', .sl (l.map (.int .i64)) u, .str [], .str s, .int .i64 (i : Int), x1, x2, x3, x4]) 40
    ⟨0, [], _, _, _, _, rfl, by omega, by omega, by simp, rfl⟩ ?_
  rintro m vs h ⟨i, s, x1, x2, x3, x4, rfl, hi, hil, hs, rfl⟩
  by_cases hin : i < l.length ∧ i < 40
  · have hv := nth_i64 hl i
    have ar := around_v (m := (a.length : Int) + 14) hv (by omega)
    have arb := around_bound (nth l i) (m := (a.length : Int) + 14) (by omega)
    have hv2 : i64 ((nth l i).tdiv 64) := by
      obtain ⟨h1, h2⟩ := hv
      unfold i64
      by_cases h : 0 ≤ nth l i
      · rw [Int.tdiv_eq_ediv_of_nonneg h]; omega
      · have e : (nth l i).tdiv 64 = -((-(nth l i)).tdiv 64) := by rw [Int.neg_tdiv]; omega
        rw [e, Int.tdiv_eq_ediv_of_nonneg (by omega)]; omega
    have ar2 := around_v (m := 8) hv2 (by omega)
    have arb2 := around_bound ((nth l i).tdiv 64) (m := 8) (by omega)
    obtain ⟨h1, h2⟩ := hv
    obtain ⟨h3, h4⟩ := hv2
    generalize aroundS (nth l i) ((a.length : Int) + 14) = n at *
    generalize aroundS ((nth l i).tdiv 64) 8 = q at *
    have ql := odd_len q.toNat
    by_cases hge : (a.length : Int) + 2 ≤ n
    · have tb : 0 ≤ (n - (a.length : Int) - 2).tmod (a.length : Int) ∧ (n - (a.length : Int) - 2).tmod (a.length : Int) < (a.length : Int) := by
        rw [Int.tmod_eq_emod_of_nonneg (by omega)]
        exact ⟨Int.emod_nonneg _ (by omega), Int.emod_lt_of_pos _ (by omega)⟩
      have tl := nth_len hat ((n - (a.length : Int) - 2).tmod (a.length : Int)).toNat (by omega)
      replace fx := aI @ar (aI @ltL (aI @lv0 @lvN))
      (first | refine go ?_ | exact goC | skip); repeat' (first | refine gP ?_ | exact gPc | refine gN ?_ | exact gNc | (refine gI ?_ ?_ <;> intro hyp <;> first | refine goF ?_ | exact goFc | refine goT ?_ | exact goTc | skip))
      exact lp_n ⟨_, by omega, i + 1, s ++ (nth a ((n - (a.length : Int) - 2).tmod (a.length : Int)).toNat).text, _, _, _, _, rfl, by omega, by omega, by rw [List.length_append]; omega, by push_cast; rfl⟩
    · by_cases hlt : n < (a.length : Int)
      · have tl := nth_len hat n.toNat (by omega)
        replace fx := aI @ar (aI @ltL (aI @lv0 @lvN))
        (first | refine go ?_ | exact goC | skip); repeat' (first | refine gP ?_ | exact gPc | refine gN ?_ | exact gNc | (refine gI ?_ ?_ <;> intro hyp <;> first | refine goF ?_ | exact goFc | refine goT ?_ | exact goTc | skip))
        exact lp_n ⟨_, by omega, i + 1, s ++ (nth a n.toNat).text, _, _, _, _, rfl, by omega, by omega, by rw [List.length_append]; omega, by push_cast; rfl⟩
      · replace fx := aI @ar (aI @ar2 (aI @lb @strV_eq))
        (first | refine go ?_ | exact goC | skip); repeat' (first | refine gP ?_ | exact gPc | refine gN ?_ | exact gNc | (refine gI ?_ ?_ <;> intro hyp <;> first | refine goF ?_ | exact goFc | refine goT ?_ | exact goTc | skip))
        exact lp_n ⟨_, by omega, i + 1, s ++ nth oddL q.toNat, _, _, _, _, rfl, by omega, by omega, by rw [List.length_append]; omega, by push_cast; rfl⟩
  · replace fx := Dum_eq
    (first | refine go ?_ | exact goC | skip); repeat' (first | refine gP ?_ | exact gPc | refine gN ?_ | exact gNc | (refine gI ?_ ?_ <;> intro hyp <;> first | refine goF ?_ | exact goFc | refine goT ?_ | exact goTc | skip))
    all_goals omega
def headL : List Bs := [[99, 97, 116], [97, 110, 116], [98, 101, 116], [110, 101, 115, 116], [116, 101, 110], [116, 101, 101], [99, 104, 101], [115, 101, 116]]
def moreL : List Bs := [[99, 97, 116, 115], [98, 101, 116, 116], [97], [99, 104, 101], [195, 169, 65], [32], [44, 32], [45], [55], [120], [195], [115, 99, 104], [33]]
theorem heads_c (h0 : Heap) : CV F 18 [] h0 (fun v h => ∃ tk, v = .sl (headL.map strV) tk ∧ GrF (fun _ => False) h0 h 9 1 headL tk) := by
  refine CV_wp (fn := c18) rfl ?_
  dsimp only [oT, oN, oV, oG, oW, c18]
  have lb : ∀ H, litA 1 9 8 1 false [.str []] (some [.str [99, 97, 116], .str [97, 110, 116], .str [98, 101, 116], .str [110, 101, 115, 116], .str [116, 101, 110], .str [116, 101, 101], .str [99, 104, 101], .str [115, 101, 116]]) H = some (.sl (headL.map strV) (.own H.next 1), H.push (.tok 9)) := fun H => lit_own rfl rfl rfl rfl
  replace fx := @lb
  (first | refine go ?_ | exact goC | skip); repeat' (first | refine gP ?_ | exact gPc | refine gN ?_ | exact gNc | (refine gI ?_ ?_ <;> intro hyp <;> first | refine goF ?_ | exact goFc | refine goT ?_ | exact goTc | skip))
  exact ⟨_, rfl, .inr ⟨_, rfl, get_push_eq rfl⟩, (Fr.refl _ _).push _, fun i s e => by simp only [Tok.own.injEq] at e; omega⟩
theorem words_len (n : Nat) : (nth (headL ++ moreL) n).length ≤ 4 := by
  by_cases h : n < 21
  · have : ∀ k, k < 21 → (nth (headL ++ moreL) k).length ≤ 4 := by decide
    exact this n h
  · have e : (headL ++ moreL).length = 21 := rfl
    simp [nth, List.getD_eq_getElem?_getD, List.getElem?_eq_none (l := headL ++ moreL) (i := n) (by omega)]
    exact Nat.zero_le 4
theorem text23_c (l : List Int) (u : Tok) (hl : ∀ x ∈ l, i64 x) (h0 : Heap) :
    CV F 7 [.sl (l.map (.int .i64)) u] h0 (fun v _ => ∃ s : Bs, v = .str s ∧ s.length ≤ 1000) := by
  refine CV_wp (fn := c7) rfl ?_
  dsimp only [oT, oN, oV, oG, oW, c7]
  replace fx := Dum_eq
  (first | refine go ?_ | exact goC | skip); repeat' (first | refine gP ?_ | exact gPc | refine gN ?_ | exact gNc | (refine gI ?_ ?_ <;> intro hyp <;> first | refine goF ?_ | exact goFc | refine goT ?_ | exact goTc | skip))
  refine CV_mono (heads_c _) ?_
  rintro v h1 ⟨tk, rfl, G⟩
  have lb : ∀ H, litA 0 9 13 1 false [.str []] (some [.str [99, 97, 116, 115], .str [98, 101, 116, 116], .str [97], .str [99, 104, 101], .str [195, 169, 65], .str [32], .str [44, 32], .str [45], .str [55], .str [120], .str [195], .str [115, 99, 104], .str [33]]) H = some (.sl (moreL.map strV) .none, H) := fun H => lit_none rfl rfl rfl rfl
  replace fx := @lb
  (first | refine go ?_ | exact goC | skip); repeat' (first | refine gP ?_ | exact gPc | refine gN ?_ | exact gNc | (refine gI ?_ ?_ <;> intro hyp <;> first | refine goF ?_ | exact goFc | refine goT ?_ | exact goTc | skip))
  have e1 : headL.length = 8 := rfl
  have e2 : moreL.length = 13 := rfl
  refine append_F (f := strV) headL moreL (fun _ => rfl) (fun _ => rfl) (fun _ => rfl) (lenA_sl (f := strV) (l := moreL)) (elems_sl (f := strV) (l := moreL) (fun _ => rfl)) G (by omega) (by omega) (by omega) (by omega) ?_
  intro h2 tk2 G2 n2 _ _
  have wl := words_len
  have e3 : (headL ++ moreL).length = 21 := rfl
  generalize headL ++ moreL = W at *
  replace fx := Dum_eq
  (first | refine go ?_ | exact goC | skip); repeat' (first | refine gP ?_ | exact gPc | refine gN ?_ | exact gNc | (refine gI ?_ ?_ <;> intro hyp <;> first | refine goF ?_ | exact goFc | refine goT ?_ | exact goTc | skip))
  refine w_loop (fun m vs h => ∃ (i : Nat) (s : Bs) (x1 : AVal), m = 12 - i ∧ i ≤ 12 ∧ i ≤ l.length ∧ s.length ≤ 4 * i ∧
      vs = [.sl (l.map (.int .i64)) u, .str [], .sl (W.map strV) tk2, .str s, .int .i64 (i : Int), x1]) 12
    ⟨0, [], _, rfl, by omega, by omega, by simp, rfl⟩ ?_
  rintro m vs h ⟨i, s, x1, rfl, hi, hil, hs, rfl⟩
  by_cases hin : i < l.length ∧ i < 12
  · have hv := nth_i64 hl i
    have ar := around_v (m := (W.length : Int)) hv (by omega)
    have arb := around_bound (nth l i) (m := (W.length : Int)) (by omega)
    generalize aroundS (nth l i) (W.length : Int) = q at *
    have ql := wl q.toNat
    replace fx := aI @ar @strV_eq
    (first | refine go ?_ | exact goC | skip); repeat' (first | refine gP ?_ | exact gPc | refine gN ?_ | exact gNc | (refine gI ?_ ?_ <;> intro hyp <;> first | refine goF ?_ | exact goFc | refine goT ?_ | exact goTc | skip))
    exact lp_n ⟨_, by omega, i + 1, s ++ nth W q.toNat, _, rfl, by omega, by omega, by rw [List.length_append]; omega, by push_cast; rfl⟩
  · replace fx := Dum_eq
    (first | refine go ?_ | exact goC | skip); repeat' (first | refine gP ?_ | exact gPc | refine gN ?_ | exact gNc | (refine gI ?_ ?_ <;> intro hyp <;> first | refine goF ?_ | exact goFc | refine goT ?_ | exact goTc | skip))
    all_goals omega
theorem wdN (o : Wd) : o.cells.length = 3 := rfl
theorem wd0 (o : Wd) : List.take 1 o.val.cells = [.int .i64 (o.b : Int)] := rfl
theorem wd1 (o : Wd) : List.take 1 (List.drop 1 o.val.cells) = [.int .i64 (o.e : Int)] := rfl
theorem wd2 (o : Wd) : List.take 1 (List.drop 2 o.val.cells) = [.sl (o.l.map intN) .none] := rfl
theorem wdD1 (o : Wd) : (List.drop 1 o.val.cells).length = 2 := rfl
theorem wdD2 (o : Wd) : (List.drop 2 o.val.cells).length = 1 := rfl
theorem write_len {a : List Ltr} (hv : validA a = true) : ∀ l : List Nat, (∀ i ∈ l, i < a.length) → l.length ≤ (writeL a l).length := by
  intro l
  induction l with
  | nil => intro _; simp
  | cons i l ih =>
    intro hl
    have := plain_len ((valid_facts hv).2.2.1 i (hl i (by simp))).1
    have := ih (fun j hj => hl j (by simp [hj]))
    simp only [writeL, List.flatMap_cons, List.length_append, List.length_cons] at this ⊢
    omega
theorem good_bd {a : List Ltr} {t : Bs} : ∀ {p : Nat} {W : List Wd}, p ≤ t.length → Gt.Good a t p W → W.length + p ≤ t.length ∧ ∀ x ∈ W, x.l.length ≤ t.length
  | p, [], hp, g => by simpa using hp
  | p, x :: W, hp, g => by
    obtain ⟨g1, g2, g3, g4, g5, g6, _, g8⟩ := g
    obtain ⟨i1, i2⟩ := good_bd (by omega) g8
    refine ⟨by simp only [List.length_cons]; omega, fun y hy => ?_⟩
    rcases List.mem_cons.1 hy with rfl | hy
    · have := write_len g4 _ g5
      rw [g6, List.length_take, List.length_drop] at this
      omega
    · exact i2 y hy
theorem sameInts_v (l : List Nat) (u u' : Tok) (hl : l.length ≤ 1000000) : PV F 20 [.sl (l.map intN) u, .sl (l.map intN) u'] = some (.bool true) := by
  refine PV_wp (fn := c20) rfl ?_
  dsimp only [oT, oN, oV, oG, oW, c20]
  replace fx := Dum_eq
  (first | refine go ?_ | exact goC | skip); repeat' (first | refine gP ?_ | exact gPc | refine gN ?_ | exact gNc | (refine gI ?_ ?_ <;> intro hyp <;> first | refine goF ?_ | exact goFc | refine goT ?_ | exact goTc | skip))
  refine w_loop (fun m vs h => ∃ (i : Nat) (x1 x2 x3 : AVal), m = l.length - i ∧ i ≤ l.length ∧ vs = [.sl (l.map intN) u, .sl (l.map intN) u', .bool false, .int .i64 (i : Int), x1, x2, x3]) l.length
    ⟨0, _, _, _, rfl, by omega, rfl⟩ ?_
  rintro m vs h ⟨i, x1, x2, x3, rfl, hi, rfl⟩
  by_cases hin : i < l.length
  · replace fx := @intN_eq
    (first | refine go ?_ | exact goC | skip); repeat' (first | refine gP ?_ | exact gPc | refine gN ?_ | exact gNc | (refine gI ?_ ?_ <;> intro hyp <;> first | refine goF ?_ | exact goFc | refine goT ?_ | exact goTc | skip))
    exact lp_n ⟨_, by omega, i + 1, _, _, _, rfl, by omega, by push_cast; rfl⟩
  · replace fx := Dum_eq
    (first | refine go ?_ | exact goC | skip); repeat' (first | refine gP ?_ | exact gPc | refine gN ?_ | exact gNc | (refine gI ?_ ?_ <;> intro hyp <;> first | refine goF ?_ | exact goFc | refine goT ?_ | exact goTc | skip))
theorem sameT_c (W : List Wd) (t t' : Tok) (hW : W.length ≤ 1000000) (hx : ∀ x ∈ W, x.l.length ≤ 1000000) {h : Heap} {K : AVal → Heap → Prop} (k : K (.bool true) h) : CV F 10 [.sl (W.map Wd.val) t, .sl (W.map Wd.val) t'] h K := by
  refine CV_wp (fn := c10) rfl ?_
  dsimp only [oT, oN, oV, oG, oW, c10]
  replace fx := Dum_eq
  (first | refine go ?_ | exact goC | skip); repeat' (first | refine gP ?_ | exact gPc | refine gN ?_ | exact gNc | (refine gI ?_ ?_ <;> intro hyp <;> first | refine goF ?_ | exact goFc | refine goT ?_ | exact goTc | skip))
  refine w_loop (fun m vs h' => ∃ (i : Nat) (x1 x2 x3 : AVal), m = W.length - i ∧ i ≤ W.length ∧ vs = [.sl (W.map Wd.val) t, .sl (W.map Wd.val) t', .bool false, .int .i64 (i : Int), x1, x2, x3] ∧ h' = h) W.length
    ⟨0, _, _, _, rfl, by omega, rfl, rfl⟩ ?_
  rintro m vs h' ⟨i, x1, x2, x3, rfl, hi, rfl, rfl⟩
  by_cases hin : i < W.length
  · have sv := sameInts_v (nth W i).l .none .none (hx _ (nth_mem hin))
    replace fx := aI @wdL (aI @wdN (aI @wd0 (aI @wd1 (aI @wd2 (aI @wdD1 (aI @wdD2 @sv))))))
    (first | refine go ?_ | exact goC | skip); repeat' (first | refine gP ?_ | exact gPc | refine gN ?_ | exact gNc | (refine gI ?_ ?_ <;> intro hyp <;> first | refine goF ?_ | exact goFc | refine goT ?_ | exact goTc | skip))
    exact lp_n ⟨_, by omega, i + 1, _, _, _, rfl, by omega, by push_cast; rfl, rfl⟩
  · replace fx := Dum_eq
    (first | refine go ?_ | exact goC | skip); repeat' (first | refine gP ?_ | exact gPc | refine gN ?_ | exact gNc | (refine gI ?_ ?_ <;> intro hyp <;> first | refine goF ?_ | exact goFc | refine goT ?_ | exact goTc | skip))
    exact k
end Go.Proofs.YthcbcmpbipcibaaGreat

namespace Go.Proofs.YthcbcmpbipcibaaGreat
open Go Go.Abs
noncomputable def livB (n : Nat) : Bool := match run F n (.call 14 [] Heap.empty) with | some (.val (.bool true) _) => true | _ => false
set_option maxRecDepth 1000000 in
theorem livB_true : livB 600 = true := by kernel_rfl
theorem lives_gives : ∃ h, GV F 14 [] Heap.empty = some (.bool true, h) := by
  have := livB_true
  unfold livB at this
  split at this
  · rename_i h hr
    exact ⟨h, GV_of (by unfold Gives; exact ⟨_, hr⟩)⟩
  · simp at this
end Go.Proofs.YthcbcmpbipcibaaGreat

namespace Go.Proofs.YthcbcmpbipcibaaGreat
open Go Go.Abs Go.Gt
theorem lives_v : PV F 14 [] = some (.bool true) := by
  obtain ⟨h, e⟩ := lives_gives
  unfold PV
  rw [e]
  rfl
def alV (p : List Ltr × Tok) : AVal := .sl (p.1.map Ltr.val) p.2
theorem alV_eq (p : List Ltr × Tok) : alV p = .sl (p.1.map Ltr.val) p.2 := rfl
def tinyL : List Ltr := [⟨[97], 0, 0, 0, 0⟩]
def alL (a : List Ltr) : List (List Ltr × Tok) := [(a, .none), (smallL, .none), ([], .nil), (tinyL, .none)]
def txL (s1 s2 s3 : Bs) : List Bs := [s1, s2, s3, []]
def AlOk (p : List Ltr × Tok) : Prop := Pt p.2 ∧ p.1.length ≤ 1000000 ∧ ∀ x ∈ p.1, x.text.length ≤ 1000000
theorem alL_ok {a : List Ltr} (h1 : a.length ≤ 8) (h2 : ∀ x ∈ a, x.text.length ≤ 3) : ∀ p ∈ alL a, AlOk p := by
  intro p hp
  simp only [alL, List.mem_cons, List.not_mem_nil, or_false] at hp
  rcases hp with rfl | rfl | rfl | rfl
  · exact ⟨.inl rfl, (by omega : a.length ≤ 1000000), fun x hx => by have := h2 x hx; omega⟩
  · exact ⟨.inl rfl, (by decide : smallL.length ≤ 1000000), fun x hx => by
      have : ∀ x ∈ smallL, x.text.length ≤ 3 := by decide
      have := this x hx; omega⟩
  · exact ⟨.inr rfl, (by decide : (0 : Nat) ≤ 1000000), fun x hx => by simp at hx⟩
  · exact ⟨.inl rfl, (by decide : (1 : Nat) ≤ 1000000), fun x hx => by
      have : ∀ x ∈ tinyL, x.text.length ≤ 3 := by decide
      have := this x hx; omega⟩
theorem tokens_run {l k : List Int} {u u' : Tok} (hu : Pt u) (hu' : Pt u') (hl : ∀ x ∈ l, i64 x) (hk : ∀ x ∈ k, i64 x) (raw : Bs) (hr : raw.length ≤ 9223372036854775807) :
    CV F 3 [.sl (l.map (.int .i64)) u, .sl (k.map (.int .i64)) u', .str raw] Heap.empty (fun v _ => v = .bool true) := by
  refine CV_wp (fn := c3) rfl ?_
  dsimp only [oT, oN, oV, oG, oW, c3]
  replace fx := Dum_eq
  (first | refine go ?_ | exact goC | skip); repeat' (first | refine gP ?_ | exact gPc | refine gN ?_ | exact gNc | (refine gI ?_ ?_ <;> intro hyp <;> first | refine goF ?_ | exact goFc | refine goT ?_ | exact goTc | skip))
  refine CV_mono (letters_c l u hu hl _) ?_
  rintro v h1 ⟨a, tk, rfl, ha1, ha2, ha3, ha4⟩
  have st : strip (.sl (a.map Ltr.val) tk) = some (.sl (a.map Ltr.val) .none) := by
    cases tk with
    | nil => exact absurd rfl ha4
    | none => rfl
    | own i s => rfl
    | full => simp only [strip]
  replace fx := Dum_eq
  (first | refine go ?_ | exact goC | skip); repeat' (first | refine gP ?_ | exact gPc | refine gN ?_ | exact gNc | (refine gI ?_ ?_ <;> intro hyp <;> first | refine goF ?_ | exact goFc | refine goT ?_ | exact goTc | skip))
  refine small_c ?_
  have lt : ∀ H, litA 0 27 1 5 true [.str [], .int .i64 0, .int .i64 0, .int .i64 0, .int .i64 0] (some [.str [97], .int .i64 0, .int .i64 0, .int .i64 0, .int .i64 0]) H = some (.sl (tinyL.map Ltr.val) .none, H) := fun H => lit_none rfl rfl rfl rfl
  have eA : [AVal.sl (a.map Ltr.val) .none, .sl (smallL.map Ltr.val) .none, .sl [] .nil, .sl (tinyL.map Ltr.val) .none] = (alL a).map alV := rfl
  have hA : (alL a).length = 4 := rfl
  have hA0 : nth (alL a) 0 = (a, .none) := rfl
  have okA := alL_ok (a := a) ha2 ha3
  replace fx := aI @lt @st
  (first | refine go ?_ | exact goC | skip); repeat' (first | refine gP ?_ | exact gPc | refine gN ?_ | exact gNc | (refine gI ?_ ?_ <;> intro hyp <;> first | refine goF ?_ | exact goFc | refine goT ?_ | exact goTc | skip))
  rw [eA]
  replace fx := aI @alV_eq @hA0
  (first | refine go ?_ | exact goC | skip); repeat' (first | refine gP ?_ | exact gPc | refine gN ?_ | exact gNc | (refine gI ?_ ?_ <;> intro hyp <;> first | refine goF ?_ | exact goFc | refine goT ?_ | exact goTc | skip))
  refine CV_mono (text05_c a k u' .none hu' (by omega) (by omega) ha3 hk _) ?_
  rintro v h2 ⟨s1, rfl, hs1⟩
  replace fx := Dum_eq
  (first | refine go ?_ | exact goC | skip); repeat' (first | refine gP ?_ | exact gPc | refine gN ?_ | exact gNc | (refine gI ?_ ?_ <;> intro hyp <;> first | refine goF ?_ | exact goFc | refine goT ?_ | exact goTc | skip))
  refine CV_mono (text23_c k u' hk _) ?_
  rintro v h3 ⟨s2, rfl, hs2⟩
  replace fx := Dum_eq
  (first | refine go ?_ | exact goC | skip); repeat' (first | refine gP ?_ | exact gPc | refine gN ?_ | exact gNc | (refine gI ?_ ?_ <;> intro hyp <;> first | refine goF ?_ | exact goFc | refine goT ?_ | exact goTc | skip))
  refine short_v raw hr ?_
  have hs3 : (raw.take 100).length ≤ 1000 := by rw [List.length_take]; omega
  generalize raw.take 100 = s3 at hs3 ⊢
  have eT : [AVal.str s1, .str s2, .str s3, .str []] = (txL s1 s2 s3).map strV := rfl
  have hT : (txL s1 s2 s3).length = 4 := rfl
  have okT : ∀ t ∈ txL s1 s2 s3, t.length ≤ 1000 := by
    intro t ht
    simp only [txL, List.mem_cons, List.not_mem_nil, or_false] at ht
    rcases ht with rfl | rfl | rfl | rfl
    · exact hs1
    · exact hs2
    · exact hs3
    · simp
  replace fx := Dum_eq
  (first | refine go ?_ | exact goC | skip); repeat' (first | refine gP ?_ | exact gPc | refine gN ?_ | exact gNc | (refine gI ?_ ?_ <;> intro hyp <;> first | refine goF ?_ | exact goFc | refine goT ?_ | exact goTc | skip))
  rw [eT]
  generalize alL a = A at *
  generalize txL s1 s2 s3 = T at *
  replace fx := Dum_eq
  (first | refine go ?_ | exact goC | skip); repeat' (first | refine gP ?_ | exact gPc | refine gN ?_ | exact gNc | (refine gI ?_ ?_ <;> intro hyp <;> first | refine goF ?_ | exact goFc | refine goT ?_ | exact goTc | skip))
  refine w_loop (fun m vs h => ∃ (i : Nat) (x1 x2 x3 x4 x5 x6 x7 x8 x9 x10 x11 x12 x13 x14 x15 x16 x17 x18 x19 : AVal), m = 4 - i ∧ i ≤ 4 ∧ vs = [.sl (l.map (.int .i64)) u, .sl (k.map (.int .i64)) u', .str raw, .bool false, .sl (A.map alV) .none, .sl (T.map strV) .none, .int .i64 (i : Int), x1, x2, x3, x4, x5, x6, x7, x8, x9, x10, x11, x12, x13, x14, x15, x16, x17, x18, x19]) 4
    ⟨0, _, _, _, _, _, _, _, _, _, _, _, _, _, _, _, _, _, _, _, rfl, by omega, rfl⟩ ?_
  rintro m vs h ⟨i, x1, x2, x3, x4, x5, x6, x7, x8, x9, x10, x11, x12, x13, x14, x15, x16, x17, x18, x19, rfl, hi, rfl⟩
  by_cases hi4 : i < 4
  · obtain ⟨op1, op2, op3⟩ := okA (nth A i) (nth_mem (by omega))
    replace fx := @alV_eq
    (first | refine go ?_ | exact goC | skip); repeat' (first | refine gP ?_ | exact gPc | refine gN ?_ | exact gNc | (refine gI ?_ ?_ <;> intro hyp <;> first | refine goF ?_ | exact goFc | refine goT ?_ | exact goTc | skip))
    generalize nth A i = p at *
    obtain ⟨b, t⟩ := p
    simp only at op1 op2 op3 ⊢
    refine w_loop (fun m vs h => ∃ (j : Nat) (x1 x2 x3 x4 x5 x6 x7 x8 x9 x10 x11 x12 x13 x14 x15 x16 x17 : AVal), m = 4 - j ∧ j ≤ 4 ∧ vs = [.sl (l.map (.int .i64)) u, .sl (k.map (.int .i64)) u', .str raw, .bool false, .sl (A.map alV) .none, .sl (T.map strV) .none, .int .i64 (i : Int), .sl (b.map Ltr.val) t, .int .i64 (j : Int), x1, x2, x3, x4, x5, x6, x7, x8, x9, x10, x11, x12, x13, x14, x15, x16, x17]) 4
      ⟨0, _, _, _, _, _, _, _, _, _, _, _, _, _, _, _, _, _, rfl, by omega, rfl⟩ ?_
    rintro m vs h ⟨j, x1, x2, x3, x4, x5, x6, x7, x8, x9, x10, x11, x12, x13, x14, x15, x16, x17, rfl, hj, rfl⟩
    by_cases hj4 : j < 4
    · have ot := okT (nth T j) (nth_mem (by omega))
      obtain ⟨s, hs⟩ : ∃ s, nth T j = s := ⟨_, rfl⟩
      rw [hs] at ot
      replace fx := aI @strV_eq @hs
      (first | refine go ?_ | exact goC | skip); repeat' (first | refine gP ?_ | exact gPc | refine gN ?_ | exact gNc | (refine gI ?_ ?_ <;> intro hyp <;> first | refine goF ?_ | exact goFc | refine goT ?_ | exact goTc | skip))
      refine CV_mono (tok_c b s t op1 op2 (by omega) op3 _) ?_
      rintro v h4 ⟨tk4, rfl, _⟩
      replace fx := aI @strV_eq @hs
      (first | refine go ?_ | exact goC | skip); repeat' (first | refine gP ?_ | exact gPc | refine gN ?_ | exact gNc | (refine gI ?_ ?_ <;> intro hyp <;> first | refine goF ?_ | exact goFc | refine goT ?_ | exact goTc | skip))
      refine CV_mono (rtok_v b s t op1 op2 (by omega) op3 _) ?_
      rintro v h5 ⟨tk5, rfl, _⟩
      have hG := tokA_good b s
      generalize tokA b s = W at *
      obtain ⟨bd1, bd2⟩ := good_bd (Nat.zero_le _) hG
      replace fx := Dum_eq
      (first | refine go ?_ | exact goC | skip); repeat' (first | refine gP ?_ | exact gPc | refine gN ?_ | exact gNc | (refine gI ?_ ?_ <;> intro hyp <;> first | refine goF ?_ | exact goFc | refine goT ?_ | exact goTc | skip))
      refine sameT_c W tk4 tk5 (by omega) (fun x hx => by have := bd2 x hx; omega) ?_
      replace fx := Dum_eq
      (first | refine go ?_ | exact goC | skip); repeat' (first | refine gP ?_ | exact gPc | refine gN ?_ | exact gNc | (refine gI ?_ ?_ <;> intro hyp <;> first | refine goF ?_ | exact goFc | refine goT ?_ | exact goTc | skip))
      refine w_loop (fun m vs h => ∃ (n at0 : Nat) (x1 x2 x3 x4 x5 x6 x7 x8 x9 x10 x11 x12 x13 x14 : AVal), m = W.length + 1 - n ∧ n ≤ W.length + 1 ∧ at0 ≤ s.length ∧ (n ≤ W.length → Gt.Good b s at0 (W.drop n)) ∧
          vs = [.sl (l.map (.int .i64)) u, .sl (k.map (.int .i64)) u', .str raw, .bool false, .sl (A.map alV) .none, .sl (T.map strV) .none, .int .i64 (i : Int), .sl (b.map Ltr.val) t, .int .i64 (j : Int), .sl (W.map Wd.val) tk4, .int .i64 (at0 : Int), .int .i64 (n : Int), x1, x2, x3, x4, x5, x6, x7, x8, x9, x10, x11, x12, x13, x14]) (W.length + 1)
        ⟨0, 0, _, _, _, _, _, _, _, _, _, _, _, _, _, _, rfl, by omega, by omega, fun _ => hG, rfl⟩ ?_
      rintro m vs h ⟨n, at0, x1, x2, x3, x4, x5, x6, x7, x8, x9, x10, x11, x12, x13, x14, rfl, hn, hat, hgo, rfl⟩
      by_cases hn1 : n = W.length + 1
      · replace fx := Dum_eq
        (first | refine go ?_ | exact goC | skip); repeat' (first | refine gP ?_ | exact gPc | refine gN ?_ | exact gNc | (refine gI ?_ ?_ <;> intro hyp <;> first | refine goF ?_ | exact goFc | refine goT ?_ | exact goTc | skip))
        exact lp_n ⟨_, by omega, j + 1, _, _, _, _, _, _, _, _, _, _, _, _, _, _, _, _, _, rfl, by omega, by push_cast; rfl⟩
      have hg := hgo (by omega)
      by_cases hn2 : n = W.length
      · rw [hn2, List.drop_length] at hg
        replace hg : ∀ q, at0 ≤ q → q < s.length → (readA b (s.drop q)).1 = [] := hg
        obtain ⟨T0, hT0⟩ : ∃ T0, s.length = T0 := ⟨_, rfl⟩
        replace hg : ∀ q, at0 ≤ q → q < T0 → (readA b (s.drop q)).1 = [] := fun q h1 h2 => hg q h1 (by omega)
        replace fx := aI @strV_eq @hs
        (first | refine go ?_ | exact goC | skip); repeat' (first | refine gP ?_ | exact gPc | refine gN ?_ | exact gNc | (refine gI ?_ ?_ <;> intro hyp <;> first | refine goF ?_ | exact goFc | refine goT ?_ | exact goTc | skip))
        rw [hT0]
        refine w_loop (fun m vs h => ∃ (p : Nat) (x1 x2 x3 x4 x5 x6 x7 x8 x9 x10 x11 x12 : AVal), m = T0 - p ∧ at0 ≤ p ∧ p ≤ T0 ∧ vs = [.sl (l.map (.int .i64)) u, .sl (k.map (.int .i64)) u', .str raw, .bool false, .sl (A.map alV) .none, .sl (T.map strV) .none, .int .i64 (i : Int), .sl (b.map Ltr.val) t, .int .i64 (j : Int), .sl (W.map Wd.val) tk4, .int .i64 (at0 : Int), .int .i64 (n : Int), .int .i64 (T0 : Int), x1, x2, .int .i64 (p : Int), x3, x4, x5, x6, x7, x8, x9, x10, x11, x12]) (T0 - at0)
          ⟨at0, _, _, _, _, _, _, _, _, _, _, _, _, rfl, by omega, by omega, rfl⟩ ?_
        rintro m vs h ⟨p, x1, x2, x3, x4, x5, x6, x7, x8, x9, x10, x11, x12, rfl, hp1, hp2, rfl⟩
        by_cases hpt : p < T0
        · by_cases hi2 : i < 2
          · have hgp := hg p hp1 hpt
            replace fx := aI @strV_eq @hs
            (first | refine go ?_ | exact goC | skip); repeat' (first | refine gP ?_ | exact gPc | refine gN ?_ | exact gNc | (refine gI ?_ ?_ <;> intro hyp <;> first | refine goF ?_ | exact goFc | refine goT ?_ | exact goTc | skip))
            refine CV_mono (read_c b (s.drop p) t op1 op2 (by rw [List.length_drop]; omega) op3 _) ?_
            rintro v h6 ⟨tk6, rfl, _⟩
            rw [hgp]
            replace fx := Dum_eq
            (first | refine go ?_ | exact goC | skip); repeat' (first | refine gP ?_ | exact gPc | refine gN ?_ | exact gNc | (refine gI ?_ ?_ <;> intro hyp <;> first | refine goF ?_ | exact goFc | refine goT ?_ | exact goTc | skip))
            exact lp_n ⟨_, by omega, p + 1, _, _, _, _, _, _, _, _, _, _, _, _, rfl, by omega, by omega, by push_cast; rfl⟩
          · replace fx := aI @wdL (aI @wdN (aI @wd0 (aI @wd1 (aI @wd2 (aI @wdD1 @wdD2)))))
            (first | refine go ?_ | exact goC | skip); repeat' (first | refine gP ?_ | exact gPc | refine gN ?_ | exact gNc | (refine gI ?_ ?_ <;> intro hyp <;> first | refine goF ?_ | exact goFc | refine goT ?_ | exact goTc | skip))
            first | (exact lp_n ⟨_, by omega, n + 1, at0, _, _, _, _, _, _, _, _, _, _, _, _, _, _, rfl, by omega, by omega, fun h => absurd h (by omega), by push_cast; rfl⟩) | (exact lp_n ⟨_, by omega, n + 1, (nth W n).e, _, _, _, _, _, _, _, _, _, _, _, _, _, _, rfl, by omega, by omega, fun h => hg8, by push_cast; rfl⟩)
        · replace fx := aI @wdL (aI @wdN (aI @wd0 (aI @wd1 (aI @wd2 (aI @wdD1 @wdD2)))))
          (first | refine go ?_ | exact goC | skip); repeat' (first | refine gP ?_ | exact gPc | refine gN ?_ | exact gNc | (refine gI ?_ ?_ <;> intro hyp <;> first | refine goF ?_ | exact goFc | refine goT ?_ | exact goTc | skip))
          first | (exact lp_n ⟨_, by omega, n + 1, at0, _, _, _, _, _, _, _, _, _, _, _, _, _, _, rfl, by omega, by omega, fun h => absurd h (by omega), by push_cast; rfl⟩) | (exact lp_n ⟨_, by omega, n + 1, (nth W n).e, _, _, _, _, _, _, _, _, _, _, _, _, _, _, rfl, by omega, by omega, fun h => hg8, by push_cast; rfl⟩)
      · have hn3 : n < W.length := by omega
        rw [List.drop_eq_getElem_cons hn3, ← nth_eq hn3] at hg
        obtain ⟨hg1, hg2, hg3, hg4, hg5, hg6, hg7, hg8⟩ := hg
        have wl : (writeL b (nth W n).l).length ≤ 900000 := by rw [hg6, List.length_take, List.length_drop]; omega
        have ll := write_len hg4 _ hg5
        replace fx := aI @strV_eq (aI @hs (aI @wdL (aI @wdN (aI @wd0 (aI @wd1 (aI @wd2 (aI @wdD1 @wdD2)))))))
        (first | refine go ?_ | exact goC | skip); repeat' (first | refine gP ?_ | exact gPc | refine gN ?_ | exact gNc | (refine gI ?_ ?_ <;> intro hyp <;> first | refine goF ?_ | exact goFc | refine goT ?_ | exact goTc | skip))
        refine CV_mono (write_c b (nth W n).l t .none op1 hg4 hg5 wl (by omega) op2 op3 _) ?_
        rintro v h7 rfl
        rw [hg6]
        replace fx := aI @strV_eq (aI @hs (aI @wdL (aI @wdN (aI @wd0 (aI @wd1 (aI @wd2 (aI @wdD1 @wdD2)))))))
        (first | refine go ?_ | exact goC | skip); repeat' (first | refine gP ?_ | exact gPc | refine gN ?_ | exact gNc | (refine gI ?_ ?_ <;> intro hyp <;> first | refine goF ?_ | exact goFc | refine goT ?_ | exact goTc | skip))
        obtain ⟨T0, hT0⟩ : ∃ T0, (nth W n).b = T0 := ⟨_, rfl⟩
        rw [hT0] at hg1 hg2 hg7
        have hg := hg7
        rw [hT0]
        refine w_loop (fun m vs h => ∃ (p : Nat) (x1 x2 x3 x4 x5 x6 x7 x8 x9 x10 x11 x12 : AVal), m = T0 - p ∧ at0 ≤ p ∧ p ≤ T0 ∧ vs = [.sl (l.map (.int .i64)) u, .sl (k.map (.int .i64)) u', .str raw, .bool false, .sl (A.map alV) .none, .sl (T.map strV) .none, .int .i64 (i : Int), .sl (b.map Ltr.val) t, .int .i64 (j : Int), .sl (W.map Wd.val) tk4, .int .i64 (at0 : Int), .int .i64 (n : Int), .int .i64 (T0 : Int), x1, x2, .int .i64 (p : Int), x3, x4, x5, x6, x7, x8, x9, x10, x11, x12]) (T0 - at0)
          ⟨at0, _, _, _, _, _, _, _, _, _, _, _, _, rfl, by omega, by omega, rfl⟩ ?_
        rintro m vs h ⟨p, x1, x2, x3, x4, x5, x6, x7, x8, x9, x10, x11, x12, rfl, hp1, hp2, rfl⟩
        by_cases hpt : p < T0
        · by_cases hi2 : i < 2
          · have hgp := hg p hp1 hpt
            replace fx := aI @strV_eq @hs
            (first | refine go ?_ | exact goC | skip); repeat' (first | refine gP ?_ | exact gPc | refine gN ?_ | exact gNc | (refine gI ?_ ?_ <;> intro hyp <;> first | refine goF ?_ | exact goFc | refine goT ?_ | exact goTc | skip))
            refine CV_mono (read_c b (s.drop p) t op1 op2 (by rw [List.length_drop]; omega) op3 _) ?_
            rintro v h6 ⟨tk6, rfl, _⟩
            rw [hgp]
            replace fx := Dum_eq
            (first | refine go ?_ | exact goC | skip); repeat' (first | refine gP ?_ | exact gPc | refine gN ?_ | exact gNc | (refine gI ?_ ?_ <;> intro hyp <;> first | refine goF ?_ | exact goFc | refine goT ?_ | exact goTc | skip))
            exact lp_n ⟨_, by omega, p + 1, _, _, _, _, _, _, _, _, _, _, _, _, rfl, by omega, by omega, by push_cast; rfl⟩
          · replace fx := aI @wdL (aI @wdN (aI @wd0 (aI @wd1 (aI @wd2 (aI @wdD1 @wdD2)))))
            (first | refine go ?_ | exact goC | skip); repeat' (first | refine gP ?_ | exact gPc | refine gN ?_ | exact gNc | (refine gI ?_ ?_ <;> intro hyp <;> first | refine goF ?_ | exact goFc | refine goT ?_ | exact goTc | skip))
            first | (exact lp_n ⟨_, by omega, n + 1, at0, _, _, _, _, _, _, _, _, _, _, _, _, _, _, rfl, by omega, by omega, fun h => absurd h (by omega), by push_cast; rfl⟩) | (exact lp_n ⟨_, by omega, n + 1, (nth W n).e, _, _, _, _, _, _, _, _, _, _, _, _, _, _, rfl, by omega, by omega, fun h => hg8, by push_cast; rfl⟩)
        · replace fx := aI @wdL (aI @wdN (aI @wd0 (aI @wd1 (aI @wd2 (aI @wdD1 @wdD2)))))
          (first | refine go ?_ | exact goC | skip); repeat' (first | refine gP ?_ | exact gPc | refine gN ?_ | exact gNc | (refine gI ?_ ?_ <;> intro hyp <;> first | refine goF ?_ | exact goFc | refine goT ?_ | exact goTc | skip))
          first | (exact lp_n ⟨_, by omega, n + 1, at0, _, _, _, _, _, _, _, _, _, _, _, _, _, _, rfl, by omega, by omega, fun h => absurd h (by omega), by push_cast; rfl⟩) | (exact lp_n ⟨_, by omega, n + 1, (nth W n).e, _, _, _, _, _, _, _, _, _, _, _, _, _, _, rfl, by omega, by omega, fun h => hg8, by push_cast; rfl⟩)
    · replace fx := Dum_eq
      (first | refine go ?_ | exact goC | skip); repeat' (first | refine gP ?_ | exact gPc | refine gN ?_ | exact gNc | (refine gI ?_ ?_ <;> intro hyp <;> first | refine goF ?_ | exact goFc | refine goT ?_ | exact goTc | skip))
      exact lp_n ⟨_, by omega, i + 1, _, _, _, _, _, _, _, _, _, _, _, _, _, _, _, _, _, _, _, rfl, by omega, by push_cast; rfl⟩
  · replace fx := @lives_v
    (first | refine go ?_ | exact goC | skip); repeat' (first | refine gP ?_ | exact gPc | refine gN ?_ | exact gNc | (refine gI ?_ ?_ <;> intro hyp <;> first | refine goF ?_ | exact goFc | refine goT ?_ | exact goTc | skip))
end Go.Proofs.YthcbcmpbipcibaaGreat
